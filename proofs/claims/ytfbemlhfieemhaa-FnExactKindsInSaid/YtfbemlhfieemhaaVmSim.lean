/-
  What it means that a Go value, in a Go memory, is one of the machine's values.
-/
import Derived.Test.YtfbemlhfieemhaaVmRun
import Derived.RowKit3
import Derived.Laws.Cells
import Derived.Laws.Rows
import Derived.Laws.OwnMore
import Derived.Below
namespace Go.Vm
open Go

abbrev View := Nat → Nat → Option Value
abbrev Heap := Nat → Option Obj
def heapOf (w : World) : Heap := fun b => w.heap[b]?

mutual
/-- v is x, as far as one may read -/
def ro (h : View) : D → Value → Prop
  | .int k n, v => v = .int k n
  | .bool b, v => v = .bool b
  | .str s, v => v = .string ⟨⟨s⟩⟩
  | .nilf, v => v = .nilFunc
  | .sl _ s rows, v => ∃ a cap, v = .slice a rows.length cap ∧ rows.length ≤ cap ∧ (rows ≠ [] → ∃ b o, a = some ⟨b, o, none⟩ ∧ roRows h s rows b o)
def roRows (h : View) (s : Nat) : List Row → Nat → Nat → Prop
  | [], _, _ => True
  | r :: rs, b, o => r.length = s ∧ roRow h r b o ∧ roRows h s rs b (o + s)
def roRow (h : View) : Row → Nat → Nat → Prop
  | [], _, _ => True
  | x :: r, b, o => (∃ v, h b o = some v ∧ ro h x v) ∧ roRow h r b (o + 1)
end

mutual
/-- v is x; the blocks N are its own alone -/
def ow (H : Heap) (h : View) : D → Value → List Nat → Prop
  | .int k n, v, N => v = .int k n ∧ N = []
  | .bool b, v, N => v = .bool b ∧ N = []
  | .str s, v, N => v = .string ⟨⟨s⟩⟩ ∧ N = []
  | .nilf, v, N => v = .nilFunc ∧ N = []
  | .sl own s rows, v, N => match own with
    | false => N = [] ∧ ro h (.sl false s rows) v
    | true => (rows = [] ∧ v = .slice none 0 0 ∧ N = []) ∨
      ∃ b cap cs t N', v = .slice (some ⟨b, 0, none⟩) rows.length cap ∧ rows.length ≤ cap ∧ H b = some (.cells cs t (0, 0)) ∧ cs.size = cap * s ∧
        owRows H h s rows cs.toList N' ∧ N = b :: N'
def owRows (H : Heap) (h : View) (s : Nat) : List Row → List Value → List Nat → Prop
  | [], _, N => N = []
  | r :: rs, cs, N => r.length = s ∧ ∃ N1 N2, N = N1 ++ N2 ∧ owRow H h r cs N1 ∧ owRows H h s rs (cs.drop s) N2
def owRow (H : Heap) (h : View) : Row → List Value → List Nat → Prop
  | [], _, N => N = []
  | x :: r, cs, N => ∃ v cs' N1 N2, cs = v :: cs' ∧ N = N1 ++ N2 ∧ ow H h x v N1 ∧ owRow H h r cs' N2
end
/-- the rows of an array whose slices are only read -/
def seenRow (h : View) : Row → List Value → Prop
  | [], _ => True
  | x :: r, cs => ∃ v cs', cs = v :: cs' ∧ ro h x v ∧ seenRow h r cs'
def seenRows (h : View) (s : Nat) : List Row → List Value → Prop
  | [], _ => True
  | r :: rs, cs => r.length = s ∧ seenRow h r cs ∧ seenRows h s rs (cs.drop s)
/-- an array of one's own -/
def arrS (H : Heap) (h : View) (fl : Bool) (s : Nat) (rows : List Row) (v : Value) (N : List Nat) : Prop :=
  (rows = [] ∧ v = .slice none 0 0 ∧ N = []) ∨
  ∃ b cap cs t N', v = .slice (some ⟨b, 0, none⟩) rows.length cap ∧ rows.length ≤ cap ∧ H b = some (.cells cs t (0, 0)) ∧ cs.size = cap * s ∧
    (match fl with
     | true => seenRows h s rows cs.toList ∧ N' = []
     | false => owRows H h s rows cs.toList N') ∧ N = b :: N'

def isSl (g : Value) : Prop := ∃ a n c, g = .slice a n c
def isPt (g : Value) : Prop := ∃ b o, g = .pointer (some ⟨b, o, none⟩)
mutual
def simV (μ : Nat → Value) (m : Mem) (h : View) : V → Value → Prop
  | .d x, g => ro h x g
  | .nil _, g => g = .slice none 0 0
  | .own r v0, g => isSl g ∧ match get r m with
    | some (.arr _ _ ver _ _) => v0 ≤ ver ∧ (v0 = ver → g = μ r)
    | some .dead => True
    | _ => False
  | .ptr r off, g => isPt g ∧ match get r m with
    | some (.box _ _) => ∃ b, μ r = .pointer (some ⟨b, 0, none⟩) ∧ g = .pointer (some ⟨b, off, none⟩)
    | some .dead => True
    | _ => False
  | .eptr r v0 i off, g => isPt g ∧ match get r m with
    | some (.arr _ _ ver s _) => v0 ≤ ver ∧ (v0 = ver → ∃ b n cap, μ r = .slice (some ⟨b, 0, none⟩) n cap ∧ g = .pointer (some ⟨b, i * s + off, none⟩))
    | some .dead => True
    | _ => False
  | .rptr row off, g => ∃ b o, g = .pointer (some ⟨b, o + off, none⟩) ∧ roRow h row b o
  | .clo f first caps, g => ∃ a c, g = .func (.func f) a c ∧ simVs μ m h first a.toList ∧ simVs μ m h caps c.toList
  | .agg cs, g => ∃ a, g = .agg a ∧ simVs μ m h cs a.toList
  | .tup vs, g => ∃ a, g = .tuple a ∧ simVs μ m h vs a.toList
  | .undef, _ => True
def simVs (μ : Nat → Value) (m : Mem) (h : View) : List V → List Value → Prop
  | [], gs => gs = []
  | v :: vs, gs => ∃ g gs', gs = g :: gs' ∧ simV μ m h v g ∧ simVs μ m h vs gs'
end

def simCell (μ : Nat → Value) (m : Mem) (H : Heap) (h : View) (r : Nat) : Cell → List Nat → Prop
  | .box t cs, N => ∃ b a, μ r = .pointer (some ⟨b, 0, none⟩) ∧ H b = some (.cells a t (0, 0)) ∧ simVs μ m h cs a.toList ∧ N = [b]
  | .arr fz fl _ s rows, N => match fz with
    | true => ro h (.sl true s rows) (μ r) ∧ N = []
    | false => arrS H h fl s rows (μ r) N
  | .dead, N => N = []

open Classical in
noncomputable def view (w : World) (U X : Nat → Prop) : View := fun b o => if U b ∧ ¬ X b then w.cell? ⟨b, o, none⟩ else none

/-- the blocks that are somebody's alone -/
def excl (F : Nat → List Nat) (E : List Nat) : Nat → Prop := fun b => b ∈ E ∨ ∃ r, b ∈ F r

/-- Of what was there when the call began nothing has turned but the blocks M. -/
structure Keep (M : List Nat) (w w' : World) : Prop where
  os : w'.os = w.os
  tape : w'.tape = w.tape
  output : w'.output = w.output
  size : w.heap.size ≤ w'.heap.size
  block : ∀ b, b < w.heap.size → b ∉ M → w'.heap[b]? = w.heap[b]?
theorem Keep.refl (M : List Nat) (w : World) : Keep M w w := ⟨rfl, rfl, rfl, Nat.le_refl _, fun _ _ _ => rfl⟩
theorem Keep.trans {M M' : List Nat} {a b c : World} (h : Keep M a b) (k : Keep M' b c) (hM : ∀ x, x ∈ M' → x ∈ M ∨ a.heap.size ≤ x) : Keep M a c :=
  ⟨k.os.trans h.os, k.tape.trans h.tape, k.output.trans h.output, Nat.le_trans h.size k.size, fun i hi hm =>
    (k.block i (Nat.lt_of_lt_of_le hi h.size) (fun hx => (hM i hx).elim hm (fun hl => absurd hi (Nat.not_lt.2 hl)))).trans (h.block i hi hm)⟩

/-- The memory of a frame: what the machine's cells are in Go's memory. 'out': cells that are handed out for a call. -/
structure MInv (base : Nat) (U : Nat → Prop) (m : Mem) (w : World) (μ : Nat → Value) (F : Nat → List Nat) (E : List Nat) (out : List Nat) : Prop where
  cell : ∀ r c, get r m = some c → r ∉ out → simCell μ m (heapOf w) (view w U (excl F E)) r c (F r)
  dj : ∀ r r', r ≠ r' → ∀ b, b ∈ F r → b ∉ F r'
  djE : ∀ r b, b ∈ F r → b ∉ E
  nd : ∀ r, (F r).Nodup
  ndE : E.Nodup
  lt : ∀ b, excl F E b → b < w.heap.size ∧ base ≤ b ∧ U b
  up : ∀ b, w.heap.size ≤ b → U b
  bs : base ≤ w.heap.size
  none_ : ∀ r, get r m = none → F r = []
  out_ : ∀ r, r ∈ out → F r = []

/-- one view sees all that another sees -/
def View.le (h h' : View) : Prop := ∀ b o v, h b o = some v → h' b o = some v
theorem View.le_refl (h : View) : h.le h := fun _ _ _ x => x
theorem View.le.trans' {a b c : View} (h : a.le b) (k : b.le c) : a.le c := fun x y v q => k x y v (h x y v q)

mutual
theorem ro_mono {h h' : View} (hl : h.le h') : ∀ (x : D) (v : Value), ro h x v → ro h' x v
  | .int _ _, _, q => by simpa [ro] using q
  | .bool _, _, q => by simpa [ro] using q
  | .str _, _, q => by simpa [ro] using q
  | .nilf, _, q => by simpa [ro] using q
  | .sl _ s rows, v, q => by
    simp only [ro] at q ⊢
    obtain ⟨a, cap, h1, h2, h3⟩ := q
    refine ⟨a, cap, h1, h2, fun hn => ?_⟩
    obtain ⟨b, o, h4, h5⟩ := h3 hn
    exact ⟨b, o, h4, roRows_mono hl s rows b o h5⟩
theorem roRows_mono {h h' : View} (hl : h.le h') (s : Nat) : ∀ (rows : List Row) (b o : Nat), roRows h s rows b o → roRows h' s rows b o
  | [], _, _, _ => by simp [roRows]
  | r :: rs, b, o, q => by
    simp only [roRows] at q ⊢
    exact ⟨q.1, roRow_mono hl r b o q.2.1, roRows_mono hl s rs b (o + s) q.2.2⟩
theorem roRow_mono {h h' : View} (hl : h.le h') : ∀ (r : Row) (b o : Nat), roRow h r b o → roRow h' r b o
  | [], _, _, _ => by simp [roRow]
  | x :: r, b, o, q => by
    simp only [roRow] at q ⊢
    obtain ⟨⟨v, h1, h2⟩, h3⟩ := q
    exact ⟨⟨v, hl _ _ _ h1, ro_mono hl x v h2⟩, roRow_mono hl r b (o + 1) h3⟩
end

mutual
theorem ow_mono {H H' : Heap} {h h' : View} (hl : h.le h') : ∀ (x : D) (v : Value) (N : List Nat), (∀ b, b ∈ N → H' b = H b) → ow H h x v N → ow H' h' x v N
  | .int _ _, _, _, _, q => by simpa [ow] using q
  | .bool _, _, _, _, q => by simpa [ow] using q
  | .str _, _, _, _, q => by simpa [ow] using q
  | .nilf, _, _, _, q => by simpa [ow] using q
  | .sl false s rows, v, N, _, q => by
    simp only [ow] at q ⊢
    exact ⟨q.1, ro_mono hl _ _ q.2⟩
  | .sl true s rows, v, N, hb, q => by
    simp only [ow] at q ⊢
    rcases q with q | ⟨b, cap, cs, t, N', h1, h2, h3, h4, h5, rfl⟩
    · exact .inl q
    · exact .inr ⟨b, cap, cs, t, N', h1, h2, by rw [hb b (by simp)]; exact h3, h4, owRows_mono hl s rows cs.toList N' (fun b' hb' => hb b' (by simp [hb'])) h5, rfl⟩
theorem owRows_mono {H H' : Heap} {h h' : View} (hl : h.le h') (s : Nat) : ∀ (rows : List Row) (cs : List Value) (N : List Nat), (∀ b, b ∈ N → H' b = H b) → owRows H h s rows cs N → owRows H' h' s rows cs N
  | [], _, _, _, q => by simpa [owRows] using q
  | r :: rs, cs, N, hb, q => by
    simp only [owRows] at q ⊢
    obtain ⟨h1, N1, N2, rfl, h2, h3⟩ := q
    exact ⟨h1, N1, N2, rfl, owRow_mono hl r cs N1 (fun b hx => hb b (by simp [hx])) h2, owRows_mono hl s rs _ N2 (fun b hx => hb b (by simp [hx])) h3⟩
theorem owRow_mono {H H' : Heap} {h h' : View} (hl : h.le h') : ∀ (r : Row) (cs : List Value) (N : List Nat), (∀ b, b ∈ N → H' b = H b) → owRow H h r cs N → owRow H' h' r cs N
  | [], _, _, _, q => by simpa [owRow] using q
  | x :: r, cs, N, hb, q => by
    simp only [owRow] at q ⊢
    obtain ⟨v, cs', N1, N2, rfl, rfl, h2, h3⟩ := q
    exact ⟨v, cs', N1, N2, rfl, rfl, ow_mono hl x v N1 (fun b hx => hb b (by simp [hx])) h2, owRow_mono hl r cs' N2 (fun b hx => hb b (by simp [hx])) h3⟩
end
theorem seenRow_mono {h h' : View} (hl : h.le h') : ∀ (r : Row) (cs : List Value), seenRow h r cs → seenRow h' r cs
  | [], _, _ => trivial
  | x :: r, cs, ⟨v, cs', h1, h2, h3⟩ => ⟨v, cs', h1, ro_mono hl x v h2, seenRow_mono hl r cs' h3⟩
theorem seenRows_mono {h h' : View} (hl : h.le h') (s : Nat) : ∀ (rows : List Row) (cs : List Value), seenRows h s rows cs → seenRows h' s rows cs
  | [], _, _ => trivial
  | r :: rs, cs, ⟨h1, h2, h3⟩ => ⟨h1, seenRow_mono hl r cs h2, seenRows_mono hl s rs _ h3⟩
theorem arrS_mono {H H' : Heap} {h h' : View} (hl : h.le h') {fl : Bool} {s : Nat} {rows : List Row} {v : Value} {N : List Nat} (hb : ∀ b, b ∈ N → H' b = H b) (q : arrS H h fl s rows v N) : arrS H' h' fl s rows v N := by
  rcases q with q | ⟨b, cap, cs, t, N', h1, h2, h3, h4, h5, rfl⟩
  · exact .inl q
  · refine .inr ⟨b, cap, cs, t, N', h1, h2, by rw [hb b (by simp)]; exact h3, h4, ?_, rfl⟩
    cases fl with
    | true => exact ⟨seenRows_mono hl s rows _ h5.1, h5.2⟩
    | false => exact owRows_mono hl s rows _ N' (fun b' hb' => hb b' (by simp [hb'])) h5

/-- what a step of the memory must keep for the values that are about -/
def cellLe (μ μ' : Nat → Value) (r : Nat) : Cell → Cell → Prop
  | .box t _, .box t' _ => t' = t ∧ μ' r = μ r
  | .arr _ fl ver s _, .arr _ fl' ver' s' _ => ver ≤ ver' ∧ fl' = fl ∧ (ver = ver' → μ' r = μ r ∧ s' = s)
  | _, .dead => True
  | _, _ => False
def memLe (μ : Nat → Value) (m : Mem) (μ' : Nat → Value) (m' : Mem) : Prop := ∀ r c, get r m = some c → ∃ c', get r m' = some c' ∧ cellLe μ μ' r c c'
theorem cellLe_refl (μ : Nat → Value) (r : Nat) (c : Cell) : cellLe μ μ r c c := by cases c <;> simp [cellLe]
theorem memLe_refl (μ : Nat → Value) (m : Mem) : memLe μ m μ m := fun r c h => ⟨c, h, cellLe_refl μ r c⟩
theorem memLe_trans {μ1 μ2 μ3 : Nat → Value} {m1 m2 m3 : Mem} (h : memLe μ1 m1 μ2 m2) (k : memLe μ2 m2 μ3 m3) : memLe μ1 m1 μ3 m3 := by
  intro r c hc
  obtain ⟨c', h1, h2⟩ := h r c hc
  obtain ⟨c'', k1, k2⟩ := k r c' h1
  refine ⟨c'', k1, ?_⟩
  cases c <;> cases c' <;> cases c'' <;> simp_all [cellLe]
  rename_i ver s _ _ _ ver' s' _ _ _ ver'' s'' _
  refine ⟨by omega, fun e => ?_⟩
  have e1 : ver = ver' := by omega
  have e2 : ver' = ver'' := by omega
  exact ⟨(k2.2.2 e2).1.trans (h2.2.2 e1).1, (k2.2.2 e2).2.trans (h2.2.2 e1).2⟩

mutual
theorem simV_mono {μ μ' : Nat → Value} {m m' : Mem} {h h' : View} (hm : memLe μ m μ' m') (hl : h.le h') : ∀ (v : V) (g : Value), simV μ m h v g → simV μ' m' h' v g
  | .d x, g, q => by simp only [simV] at q ⊢; exact ro_mono hl x g q
  | .nil _, _, q => by simpa [simV] using q
  | .own r v0, g, q => by
    simp only [simV] at q ⊢
    refine ⟨q.1, ?_⟩
    replace q := q.2
    cases hc : get r m with
    | none => simp [hc] at q
    | some c =>
      obtain ⟨c', h1, h2⟩ := hm r c hc
      rw [h1]
      cases c <;> cases c' <;> simp_all [cellLe]
      rename_i ver s _ _ _ ver' s' _
      refine ⟨by omega, fun e => ?_⟩
      have e1 : ver = ver' := by omega
      rw [(h2.2.2 e1).1]
      exact q.2 (by omega)
  | .ptr r off, g, q => by
    simp only [simV] at q ⊢
    refine ⟨q.1, ?_⟩
    replace q := q.2
    cases hc : get r m with
    | none => simp [hc] at q
    | some c =>
      obtain ⟨c', h1, h2⟩ := hm r c hc
      rw [h1]
      cases c <;> cases c' <;> simp_all [cellLe]
  | .eptr r v0 i off, g, q => by
    simp only [simV] at q ⊢
    refine ⟨q.1, ?_⟩
    replace q := q.2
    cases hc : get r m with
    | none => simp [hc] at q
    | some c =>
      obtain ⟨c', h1, h2⟩ := hm r c hc
      rw [h1]
      cases c <;> cases c' <;> simp_all [cellLe]
      rename_i ver s _ _ _ ver' s' _
      refine ⟨by omega, fun e => ?_⟩
      have e1 : ver = ver' := by omega
      rw [(h2.2.2 e1).1, (h2.2.2 e1).2]
      exact q.2 (by omega)
  | .rptr row off, g, q => by
    simp only [simV] at q ⊢
    obtain ⟨b, o, h1, h2⟩ := q
    exact ⟨b, o, h1, roRow_mono hl row b o h2⟩
  | .clo f first caps, g, q => by
    simp only [simV] at q ⊢
    obtain ⟨a, c, h1, h2, h3⟩ := q
    exact ⟨a, c, h1, simVs_mono hm hl first _ h2, simVs_mono hm hl caps _ h3⟩
  | .agg cs, g, q => by
    simp only [simV] at q ⊢
    obtain ⟨a, h1, h2⟩ := q
    exact ⟨a, h1, simVs_mono hm hl cs _ h2⟩
  | .tup vs, g, q => by
    simp only [simV] at q ⊢
    obtain ⟨a, h1, h2⟩ := q
    exact ⟨a, h1, simVs_mono hm hl vs _ h2⟩
  | .undef, _, _ => by simp [simV]
theorem simVs_mono {μ μ' : Nat → Value} {m m' : Mem} {h h' : View} (hm : memLe μ m μ' m') (hl : h.le h') : ∀ (vs : List V) (gs : List Value), simVs μ m h vs gs → simVs μ' m' h' vs gs
  | [], _, q => by simpa [simVs] using q
  | v :: vs, gs, q => by
    simp only [simVs] at q ⊢
    obtain ⟨g, gs', h1, h2, h3⟩ := q
    exact ⟨g, gs', h1, simV_mono hm hl v g h2, simVs_mono hm hl vs gs' h3⟩
end
theorem simCell_mono {μ μ' : Nat → Value} {m m' : Mem} {H H' : Heap} {h h' : View} (hm : memLe μ m μ' m') (hl : h.le h') {r : Nat} (hr : μ' r = μ r) {c : Cell} {N : List Nat} (hb : ∀ b, b ∈ N → H' b = H b)
    (q : simCell μ m H h r c N) : simCell μ' m' H' h' r c N := by
  cases c with
  | box t cs =>
    obtain ⟨b, a, h1, h2, h3, rfl⟩ := q
    exact ⟨b, a, by rw [hr]; exact h1, by rw [hb b (by simp)]; exact h2, simVs_mono hm hl cs _ h3, rfl⟩
  | arr fz fl ver s rows =>
    cases fz with
    | true => exact ⟨by rw [hr]; exact ro_mono hl _ _ q.1, q.2⟩
    | false => simp only [simCell] at q ⊢; rw [hr]; exact arrS_mono hl hb q
  | dead => exact q

/-! ### lists of named things -/
theorem beq_no {k j : Nat} (h : k ≠ j) : Nat.beq k j = false := by
  cases hb : Nat.beq k j with
  | false => rfl
  | true => exact absurd (Nat.eq_of_beq_eq_true hb) h
theorem get_put_same {α : Type} (k : Nat) (x : α) : ∀ l : List (Nat × α), get k (put k x l) = some x
  | [] => by simp [put, get]
  | (j, y) :: l => by
    simp only [put]
    by_cases h : k = j
    · subst h; simp [get]
    · have hb : Nat.beq k j = false := beq_no h
      rw [hb]
      cases hl : Nat.blt k j with
      | true => simp [get]
      | false => simp [get, hb, get_put_same k x l]
theorem get_put_other {α : Type} {k k' : Nat} (hk : k ≠ k') (x : α) : ∀ l : List (Nat × α), get k (put k' x l) = get k l
  | [] => by
    have hb : Nat.beq k k' = false := beq_no hk
    simp [put, get, hb]
  | (j, y) :: l => by
    have hb : Nat.beq k k' = false := beq_no hk
    simp only [put]
    by_cases h : k' = j
    · subst h; simp [get, hb]
    · have hb' : Nat.beq k' j = false := beq_no h
      rw [hb']
      cases hl : Nat.blt k' j with
      | true => simp [get, hb]
      | false => simp [get, get_put_other hk x l]
theorem get_del_same {α : Type} (k : Nat) : ∀ l : List (Nat × α), get k (del k l) = none
  | [] => rfl
  | (j, y) :: l => by
    simp only [del]
    cases hb : Nat.beq k j with
    | true => simpa using get_del_same k l
    | false => simp [get, hb, get_del_same k l]
theorem get_del_other {α : Type} {k k' : Nat} (hk : k ≠ k') : ∀ l : List (Nat × α), get k (del k' l) = get k l
  | [] => rfl
  | (j, y) :: l => by
    simp only [del]
    cases hb : Nat.beq k' j with
    | true =>
      have : k' = j := Nat.eq_of_beq_eq_true hb
      subst this
      have hb : Nat.beq k k' = false := beq_no hk
      simp [get, hb, get_del_other hk l]
    | false => simp [get, get_del_other hk l]
theorem get_put {α : Type} (k k' : Nat) (x : α) (l : List (Nat × α)) : get k (put k' x l) = if k = k' then some x else get k l := by
  by_cases h : k = k'
  · subst h; rw [get_put_same, if_pos rfl]
  · rw [get_put_other h, if_neg h]
theorem get_del {α : Type} (k k' : Nat) (l : List (Nat × α)) : get k (del k' l) = if k = k' then none else get k l := by
  by_cases h : k = k'
  · subst h; rw [get_del_same, if_pos rfl]
  · rw [get_del_other h, if_neg h]

/-! ### running -/
theorem Acc.run_bind {α β : Type} (a : Acc α) (f : α → Acc β) : ∀ (m : Mem) (l : Log), (a.bind f).run m l = match a.run m l with | some (x, m', l') => (f x).run m' l' | none => none := by
  induction a with
  | ret a => intro m l; rfl
  | fail => intro m l; rfl
  | get k c ih => intro m l; simp only [Acc.bind, Acc.run]; exact ih _ _ _
  | set k x c ih => intro m l; simp only [Acc.bind, Acc.run]; exact ih _ _
  | opt o c ih => intro m l; simp only [Acc.bind, Acc.run]; cases o with | none => rfl | some b => exact ih b _ _
  | guard b c ih => intro m l; simp only [Acc.bind, Acc.run]; cases b with | true => exact ih _ _ | false => rfl
theorem run_bind {α β : Type} (a : Acc α) (f : α → Acc β) (m : Mem) (l : Log) : (a >>= f).run m l = match a.run m l with | some (x, m', l') => (f x).run m' l' | none => none := Acc.run_bind a f m l
theorem run_bind_some {α β : Type} {a : Acc α} {f : α → Acc β} {m : Mem} {l : Log} {y : β} {m' : Mem} {l' : Log} (h : (a >>= f).run m l = some (y, m', l')) :
    ∃ x m1 l1, a.run m l = some (x, m1, l1) ∧ (f x).run m1 l1 = some (y, m', l') := by
  rw [run_bind] at h
  cases ha : a.run m l with
  | none => simp [ha] at h
  | some x => obtain ⟨x, m1, l1⟩ := x; rw [ha] at h; exact ⟨x, m1, l1, rfl, h⟩
theorem run_pure {α : Type} (a : α) (m : Mem) (l : Log) : (Pure.pure a : Acc α).run m l = some (a, m, l) := rfl
theorem run_rd (k : Nat) (m : Mem) (l : Log) : (rd k).run m l = some (get k m, m, l.rd k) := rfl
theorem run_wr (k : Nat) (c : Cell) (m : Mem) (l : Log) : (wr k c).run m l = some ((), put k c m, l.wr k) := rfl
theorem run_ck {b : Bool} {m : Mem} {l : Log} {x : Unit} {m' : Mem} {l' : Log} (h : (ck b).run m l = some (x, m', l')) : b = true ∧ m' = m ∧ l' = l := by
  cases b <;> simp [ck, Acc.run] at h
  exact ⟨rfl, h.1.symm, h.2.symm⟩
theorem run_op' {β : Type} {o : Option β} {m : Mem} {l : Log} {x : β} {m' : Mem} {l' : Log} (h : (op' o).run m l = some (x, m', l')) : o = some x ∧ m' = m ∧ l' = l := by
  cases o <;> simp [op', Acc.run] at h
  obtain ⟨rfl, rfl, rfl⟩ := h
  exact ⟨rfl, rfl, rfl⟩
theorem run_fail {α : Type} {m : Mem} {l : Log} {r : α × Mem × Log} (h : (Acc.fail : Acc α).run m l = some r) : False := by simp [Acc.run] at h
end Go.Vm
