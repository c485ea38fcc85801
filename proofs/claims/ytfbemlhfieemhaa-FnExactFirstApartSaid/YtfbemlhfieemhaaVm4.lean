import Derived.Test.YtfbemlhfieemhaaVm3
import Derived.IntWalk
import Derived.ChangeShapes
import Derived.ChangeOld
import Derived.Carry
import Derived.WideShapes
import Derived.ProofKit
set_option linter.unusedVariables false
set_option linter.unusedSimpArgs false

/-
  Plain data: nodes, tokens, lists of numbers; loops along a list.
-/
namespace Go.Vm
open Go

/-! ### numbers -/
theorem wrap_ok {n : Int} (h1 : -9223372036854775808 ≤ n) (h2 : n ≤ 9223372036854775807) : IntKind.i64.wrap n = n := IntWalk.i64_in n ⟨h1, h2⟩

/-! ### rows -/
theorem idx_map {α β : Type} (f : α → β) (l : List α) (i : Int) : idx (l.map f) i = (idx l i).map f := by
  unfold idx
  cases decide (0 ≤ i) <;> simp
theorem idx_nat {α : Type} (l : List α) (i : Nat) : idx l (i : Int) = l[i]? := by
  simp [idx]
theorem idx_get {α : Type} {l : List α} {i : Int} {x : α} (h : idx l i = some x) : 0 ≤ i ∧ i < l.length ∧ l[i.toNat]? = some x := by
  unfold idx at h
  by_cases h0 : 0 ≤ i
  · simp only [decide_eq_true h0, cond_true] at h
    have := (List.getElem?_eq_some_iff.1 h).1
    exact ⟨h0, by omega, h⟩
  · simp [decide_eq_false h0] at h
theorem idx_in {α : Type} {l : List α} {i : Int} (h0 : 0 ≤ i) (h1 : i < l.length) : ∃ x, idx l i = some x ∧ l[i.toNat]? = some x := by
  refine ⟨l[i.toNat]'(by omega), ?_, by simp⟩
  unfold idx
  simp only [decide_eq_true h0, cond_true]
  simp
theorem idx_out {α : Type} {l : List α} {i : Int} (h : i < 0 ∨ (l.length : Int) ≤ i) : idx l i = none := by
  unfold idx
  by_cases h0 : 0 ≤ i
  · simp only [decide_eq_true h0, cond_true]
    simp
    omega
  · simp [decide_eq_false h0]

structure Nd where
  kind : Int
  op : Int
  text : List UInt8
  other : List UInt8
  kids : List Int
  deriving DecidableEq, Inhabited
def encI (l : List Int) : List Row := l.map fun k => [.int .i64 k]
def encS (l : List (List UInt8)) : List Row := l.map fun s => [.str s]
def encN (o : Bool) (n : Nd) : Row := [.int .i64 n.kind, .int .i64 n.op, .str n.text, .str n.other, .sl o 1 (encI n.kids)]
def encNs (o : Bool) (l : List Nd) : List Row := l.map (encN o)
structure Tk where
  kind : Int
  text : List UInt8
  at_ : Int
  deriving DecidableEq, Inhabited
def encT (n : Tk) : Row := [.int .i64 n.kind, .str n.text, .int .i64 n.at_]
def encTs (l : List Tk) : List Row := l.map encT

section
variable (o : Bool) (n : Nd) (l : List Nd) (k : List Int) (i : Int) (t : Tk) (ts : List Tk)
@[simp] theorem encI_length : (encI k).length = k.length := by simp [encI]
@[simp] theorem encNs_length : (encNs o l).length = l.length := by simp [encNs]
@[simp] theorem encTs_length : (encTs ts).length = ts.length := by simp [encTs]
@[simp] theorem idx_encI : idx (encI k) i = (idx k i).map fun k => [D.int .i64 k] := idx_map _ _ _
@[simp] theorem idx_encNs : idx (encNs o l) i = (idx l i).map (encN o) := idx_map _ _ _
@[simp] theorem idx_encTs : idx (encTs ts) i = (idx ts i).map encT := idx_map _ _ _
@[simp] theorem get_encI (j : Nat) : (encI k)[j]? = (k[j]?).map fun k => [D.int .i64 k] := by simp [encI]
@[simp] theorem get_encNs (j : Nat) : (encNs o l)[j]? = (l[j]?).map (encN o) := by simp [encNs]
@[simp] theorem get_encTs (j : Nat) : (encTs ts)[j]? = (ts[j]?).map encT := by simp [encTs]
@[simp] theorem cN0 : cInt .i64 (encN o n) 0 = some n.kind := rfl
@[simp] theorem cN1 : cInt .i64 (encN o n) 1 = some n.op := rfl
@[simp] theorem cN2 : cStr (encN o n) 2 = some n.text := rfl
@[simp] theorem cN3 : cStr (encN o n) 3 = some n.other := rfl
@[simp] theorem cN4 : cSl 1 (encN o n) 4 = some (encI n.kids) := rfl
@[simp] theorem cT0 : cInt .i64 (encT t) 0 = some t.kind := rfl
@[simp] theorem cT1 : cStr (encT t) 1 = some t.text := rfl
@[simp] theorem cT2 : cInt .i64 (encT t) 2 = some t.at_ := rfl
@[simp] theorem cI0 : cInt .i64 [D.int .i64 i] 0 = some i := rfl
@[simp] theorem fz_encI : fzRows (encI k) = encI k := by
  induction k with
  | nil => rfl
  | cons x l ih =>
    simp only [encI, List.map_cons, fzRows] at ih ⊢
    rw [ih]
    rfl
@[simp] theorem fz_encNs : fzRows (encNs o l) = encNs false l := by
  induction l with
  | nil => rfl
  | cons x l ih =>
    simp only [encNs, List.map_cons, fzRows] at ih ⊢
    rw [ih]
    simp [encN, fzRow, D.fz, fz_encI]
@[simp] theorem fz_encTs : fzRows (encTs ts) = encTs ts := by
  induction ts with
  | nil => rfl
  | cons x l ih =>
    simp only [encTs, List.map_cons, fzRows] at ih ⊢
    rw [ih]
    simp [encT, fzRow, D.fz]
@[simp] theorem flat_encI : flatRows (encI k) = true := by
  simp only [flatRows, encI, List.all_map, List.all_eq_true]
  intro x _
  rfl
theorem encI_set (j : Nat) : (encI k).set j [D.int .i64 i] = encI (k.set j i) := by simp [encI, List.map_set]
end

def I64 (n : Int) : Prop := -9223372036854775808 ≤ n ∧ n ≤ 9223372036854775807
/-- as what came in is: numbers in their range, no length beyond the greatest -/
structure Fit (n : Nd) : Prop where
  kind : I64 n.kind
  op : I64 n.op
  text : n.text.length ≤ maxLen
  other : n.other.length ≤ maxLen
  kids : n.kids.length ≤ maxLen
  kid : ∀ k, k ∈ n.kids → I64 k
structure FitT (n : Tk) : Prop where
  kind : I64 n.kind
  text : n.text.length ≤ maxLen
  at_ : I64 n.at_

/-! ### a loop along a list -/
/-- what the rounds come to -/
def foldE {α ω τ : Type} (f : ω → α → ω ⊕ τ) (fin : ω → τ) : List α → ω → τ
  | [], w => fin w
  | x :: l, w => match f w x with
    | .inl w' => foldE f fin l w'
    | .inr t => t
theorem loopM_list {σ τ α ω : Type} (b : σ → Option (σ ⊕ τ)) (l : List α) (st : Nat → ω → σ) (f : ω → α → ω ⊕ τ) (fin : ω → τ) (I : Nat → ω → Prop)
    (hstep : ∀ i x w, l[i]? = some x → I i w → b (st i w) = some (match f w x with | .inl w' => .inl (st (i + 1) w') | .inr t => .inr t))
    (hI : ∀ i x w w', l[i]? = some x → I i w → f w x = .inl w' → I (i + 1) w')
    (hend : ∀ w, I l.length w → b (st l.length w) = some (.inr (fin w))) (w : ω) (h0 : I 0 w) : loopM b (st 0 w) = some (foldE f fin l w) := by
  have key : ∀ (t : List α) (i : Nat) (w : ω), l.drop i = t → i ≤ l.length → I i w → loopM b (st i w) = some (foldE f fin t w) := by
    intro t
    induction t with
    | nil =>
      intro i w hd hi hI'
      have : i = l.length := by
        have := congrArg List.length hd
        simp at this
        omega
      subst this
      exact loopM_end (hend w hI')
    | cons x t ih =>
      intro i w hd hi hI'
      have hx : l[i]? = some x := by
        have : (l.drop i)[0]? = some x := by rw [hd]; rfl
        simpa using this
      have hlt : i < l.length := (List.getElem?_eq_some_iff.1 hx).1
      have hd' : l.drop (i + 1) = t := by
        rw [← List.drop_drop, hd]
        rfl
      have hs := hstep i x w hx hI'
      simp only [foldE]
      cases hf : f w x with
      | inl w' =>
        rw [hf] at hs
        rw [loopM_next hs]
        exact ih (i + 1) w' hd' hlt (hI i x w w' hx hI' hf)
      | inr u =>
        rw [hf] at hs
        exact loopM_end hs
  exact key l 0 w rfl (Nat.zero_le _) h0
end Go.Vm

/-
  What is handed in, as the machine's data.
-/
namespace Go.Vm
open Go

mutual
/-- cells of a type -/
def tyD (P : Program) : Nat → TypeId → Row → Prop
  | 0, _, _ => False
  | n + 1, t, row => match P.underlying t with
    | some .bool => ∃ b, row = [.bool b]
    | some (.int k) => ∃ x, row = [.int k x] ∧ (Lit.int k x).wf = true
    | some .string => ∃ s, row = [.str s] ∧ s.length ≤ maxLen
    | some (.slice e) => ∃ rows, row = [.sl false (szT P e) rows] ∧ rows.length ≤ maxLen ∧ ∀ r, r ∈ rows → tyD P n e r
    | some (.struct fs) => tyFs P n fs.toList row
    | _ => False
def tyFs (P : Program) : Nat → List Field → Row → Prop
  | _, [], row => row = []
  | n, f :: fs, row => ∃ r1 r2, row = r1 ++ r2 ∧ tyD P n f.type r1 ∧ tyFs P n fs r2
end
/-- fields that lie one behind the other -/
def contig (P : Program) : Nat → List Field → Option Nat
  | o, [] => some o
  | o, f :: fs => bif Nat.beq f.offset o then contig P (o + P.cellsOf f.type) fs else none
def goodT (P : Program) : Nat → TypeId → Bool
  | 0, _ => false
  | n + 1, t => match P.underlying t with
    | some .bool | some (.int _) | some .string => true
    | some (.slice e) => goodT P n e && Nat.ble 1 (szT P e)
    | some (.struct fs) => (match contig P 0 fs.toList with | some o => Nat.beq o (P.cellsOf t) | none => false) && fs.toList.all fun f => goodT P n f.type
    | _ => false

theorem szT_cells (P : Program) (t : TypeId) : szT P t = P.cellsOf t := by
  unfold szT Program.cellsOf
  cases P.info? t <;> rfl
theorem mapM_get {α β : Type} {f : α → Option β} : ∀ {l : List α} {r : List β}, l.mapM f = some r → r.length = l.length ∧ ∀ (i : Nat) x, l[i]? = some x → ∃ y, f x = some y ∧ r[i]? = some y
  | [], r, h => by
    simp at h
    subst h
    exact ⟨rfl, fun i x h => by simp at h⟩
  | a :: l, r, h => by
    rw [List.mapM_cons] at h
    simp only [Option.bind_eq_bind, Option.bind_eq_some_iff, Option.pure_def, Option.some.injEq] at h
    obtain ⟨y, h1, r', h2, rfl⟩ := h
    obtain ⟨h3, h4⟩ := mapM_get h2
    refine ⟨by simp [h3], fun i x hx => ?_⟩
    cases i with
    | zero =>
      simp only [List.getElem?_cons_zero, Option.some.injEq] at hx
      subst hx
      exact ⟨y, h1, rfl⟩
    | succ i => simpa using h4 i x (by simpa using hx)
theorem list_of {α : Type} {p : Nat → α → Prop} : ∀ (n k : Nat), (∀ i, i < n → ∃ x, p (k + i) x) → ∃ l : List α, l.length = n ∧ ∀ (i : Nat) x, l[i]? = some x → p (k + i) x
  | 0, _, _ => ⟨[], rfl, fun i x h => by simp at h⟩
  | n + 1, k, h => by
    obtain ⟨x, hx⟩ := h 0 (by omega)
    obtain ⟨l, h1, h2⟩ := list_of n (k + 1) (fun i hi => by
      have := h (i + 1) (by omega)
      rwa [show k + (i + 1) = k + 1 + i by omega] at this)
    refine ⟨x :: l, by simp [h1], fun i y hy => ?_⟩
    cases i with
    | zero =>
      simp only [List.getElem?_cons_zero, Option.some.injEq] at hy
      subst hy
      exact hx
    | succ i =>
      have := h2 i y (by simpa using hy)
      rwa [show k + 1 + i = k + (i + 1) by omega] at this

theorem roRow_of {h : View} : ∀ (r : Row) (b o : Nat) (cs : List Value), (∀ (j : Nat) v, cs[j]? = some v → h b (o + j) = some v) → seenRow h r cs → roRow h r b o
  | [], _, _, _, _, _ => trivial
  | x :: r, b, o, cs, hc, ⟨v, cs', e, h1, h2⟩ => by
    subst e
    exact ⟨⟨v, by simpa using hc 0 v rfl, h1⟩, roRow_of r b (o + 1) cs' (fun j u hj => by
      have := hc (j + 1) u (by simpa using hj)
      rwa [show o + (j + 1) = o + 1 + j by omega] at this) h2⟩
theorem roRows_of {h : View} {s b : Nat} : ∀ (rs : List Row) (o : Nat), (∀ (i : Nat) r, rs[i]? = some r → r.length = s ∧ roRow h r b (o + i * s)) → roRows h s rs b o
  | [], _, _ => trivial
  | r :: rs, o, hr => by
    obtain ⟨h1, h2⟩ := hr 0 r rfl
    refine ⟨h1, by simpa using h2, roRows_of rs (o + s) fun i q hq => ?_⟩
    obtain ⟨h3, h4⟩ := hr (i + 1) q (by simpa using hq)
    refine ⟨h3, ?_⟩
    rwa [show o + (i + 1) * s = o + s + i * s by rw [Nat.succ_mul]; omega] at h4

theorem seenRow_app {h : View} : ∀ {r1 r2 : Row} {c1 c2 : List Value}, seenRow h r1 c1 → r1.length = c1.length → seenRow h r2 c2 → seenRow h (r1 ++ r2) (c1 ++ c2)
  | [], r2, c1, c2, _, hl, h2 => by
    have : c1 = [] := List.length_eq_zero_iff.1 hl.symm
    subst this
    exact h2
  | x :: r1, r2, _, c2, ⟨v, cs', e, h1, h3⟩, hl, h2 => by
    subst e
    exact ⟨v, cs' ++ c2, rfl, h1, seenRow_app h3 (by simpa using hl) h2⟩

theorem cells?_get {w : World} {base : Nat} {a : Addr} {n : Nat} {cs : List Value} (h : w.cells? base a n = some cs) : cs.length = n ∧ ∀ j, j < n → ∃ v, w.cell? (a.add j) = some v ∧ cs[j]? = some v := by
  unfold World.cells? at h
  split at h
  · obtain ⟨h1, h2⟩ := mapM_get h
    rw [List.length_range] at h1
    refine ⟨h1, fun j hj => ?_⟩
    exact h2 j j (by simp [hj])
  · cases h

section
variable {H : Type} {enc : TypeId × Value → H} {P : Program} {w : World} {base : Nat} {spare : Nat → Bool} {held : Bool}
theorem fields_ro {n : Nat} (ih : ∀ (t : TypeId) (cs : List Value) (d : DataW H) (ps : List MemPlace), goodT P n t = true → DataW.trod enc P w base spare held n t cs = some (d, ps) → ∃ row : Row, row.length = cs.length ∧ tyD P n t row ∧ seenRow (full w) row cs) :
    ∀ (fs : List Field) (o tot : Nat) (cs : List Value) (xs : List (DataW H × List MemPlace)), contig P o fs = some tot → (fs.all fun f => goodT P n f.type) = true → tot ≤ cs.length →
      fs.mapM (fun f => DataW.trod enc P w base spare held n f.type ((cs.drop f.offset).take (P.cellsOf f.type))) = some xs →
      ∃ row : Row, row.length = tot - o ∧ o ≤ tot ∧ tyFs P n fs row ∧ seenRow (full w) row ((cs.drop o).take (tot - o))
  | [], o, tot, cs, xs, hc, _, _, _ => by
    simp only [contig, Option.some.injEq] at hc
    subst hc
    exact ⟨[], by simp, Nat.le_refl _, by simp [tyFs], trivial⟩
  | f :: fs, o, tot, cs, xs, hc, hg, hle, hm => by
    simp only [contig] at hc
    cases hb : Nat.beq f.offset o with
    | false => simp [hb] at hc
    | true =>
      simp only [hb, cond_true] at hc
      have hbo := Nat.eq_of_beq_eq_true hb
      simp only [List.all_cons, Bool.and_eq_true] at hg
      rw [List.mapM_cons] at hm
      simp only [Option.bind_eq_bind, Option.bind_eq_some_iff, Option.pure_def, Option.some.injEq] at hm
      obtain ⟨y, h1, ys, h2, rfl⟩ := hm
      obtain ⟨row2, l2, le2, t2, s2⟩ := fields_ro ih fs _ tot cs ys hc hg.2 hle h2
      obtain ⟨row1, l1, t1, s1⟩ := ih _ _ y.1 y.2 hg.1 h1
      rw [hbo] at l1 s1
      have hl : ((cs.drop o).take (P.cellsOf f.type)).length = P.cellsOf f.type := by simp; omega
      rw [hl] at l1
      refine ⟨row1 ++ row2, by simp [l1, l2]; omega, by omega, by simp only [tyFs]; exact ⟨row1, row2, rfl, t1, t2⟩, ?_⟩
      have e : (cs.drop o).take (tot - o) = (cs.drop o).take (P.cellsOf f.type) ++ (cs.drop (o + P.cellsOf f.type)).take (tot - (o + P.cellsOf f.type)) := by
        rw [← List.drop_drop, show tot - o = P.cellsOf f.type + (tot - (o + P.cellsOf f.type)) by omega, List.take_add]
      rw [e]
      exact seenRow_app s1 (by rw [l1, hl]) s2

theorem trod_ro : ∀ (n : Nat) (t : TypeId) (cs : List Value) (d : DataW H) (ps : List MemPlace), goodT P n t = true → DataW.trod enc P w base spare held n t cs = some (d, ps) →
    ∃ row : Row, row.length = cs.length ∧ tyD P n t row ∧ seenRow (full w) row cs
  | 0, t, cs, d, ps, hg, _ => by simp [goodT] at hg
  | n + 1, t, cs, d, ps, hg, h => by
    simp only [goodT] at hg
    unfold DataW.trod at h
    cases hu : P.underlying t with
    | none => simp [hu] at hg
    | some D =>
      rw [hu] at hg h
      cases D with
      | bool =>
        split at h <;> simp_all
        rename_i b
        exact ⟨[.bool b], by simp, by simp [tyD, hu], _, _, rfl, rfl, trivial⟩
      | int k =>
        split at h <;> simp_all
        rename_i k' x _
        obtain ⟨⟨rfl, hw⟩, _⟩ := h
        refine ⟨[.int _ x], by simp, ?_, _, _, rfl, rfl, trivial⟩
        simp only [tyD, hu]
        exact ⟨x, rfl, hw⟩
      | string =>
        split at h <;> simp_all
        rename_i s
        refine ⟨[.str s.data.toList], by simp, ?_, _, _, rfl, ?_, trivial⟩
        · simp only [tyD, hu]
          refine ⟨_, rfl, ?_⟩
          simpa using h.1
        · simp [ro]
      | slice e =>
        simp only [Bool.and_eq_true] at hg
        split at h
        all_goals first
          | (rename_i e1; cases e1; done)
          | (cases h; done)
          | (exfalso; rename_i h21 _ _ _ _ _ _ _ _ _ _ _ _ _ _ _ _ _ _ _; exact h21 _ rfl)
          | skip
        case h_7 =>
          rename_i e1
          refine ⟨[.sl false (szT P e) []], rfl, ?_, _, _, rfl, ?_, trivial⟩
          · simp only [tyD, hu]
            exact ⟨[], rfl, by simp, fun r hr => by simp at hr⟩
          · simp only [ro]
            exact ⟨none, 0, rfl, by simp, fun hn => absurd rfl hn⟩
        case h_8 =>
          rename_i _ e' a len cap e1
          cases e1
          split at h
          · rename_i hb
            rw [Option.bind_eq_some_iff] at h
            obtain ⟨elems, hel, _⟩ := h
            obtain ⟨hl, hget⟩ := mapM_get hel
            rw [List.length_range] at hl
            have hs := szT_cells P e
            have hpos : 1 ≤ P.cellsOf e := by rw [← hs]; exact Nat.le_of_ble_eq_true hg.2
            have hrow : ∀ i, i < len → ∃ r : Row, tyD P n e r ∧ r.length = szT P e ∧ a.spot = none ∧ roRow (full w) r a.block (a.off + i * szT P e) := by
              intro i hi
              obtain ⟨y, hy, _⟩ := hget i i (by simp [hi])
              rw [Option.bind_eq_some_iff] at hy
              obtain ⟨cs, hcs, hy⟩ := hy
              obtain ⟨row, l1, t1, s1⟩ := trod_ro n e cs y.1 y.2 hg.1 hy
              obtain ⟨hcl, hcg⟩ := cells?_get hcs
              refine ⟨row, t1, by rw [l1, hcl, hs], ?_, ?_⟩
              · obtain ⟨y0, hy0, _⟩ := hget 0 0 (List.getElem?_range (by omega))
                rw [Option.bind_eq_some_iff] at hy0
                obtain ⟨cs0, hcs0, _⟩ := hy0
                obtain ⟨u, hu1, _⟩ := (cells?_get hcs0).2 0 (by omega)
                simpa [Addr.add] using World.cell?_spot hu1
              · refine roRow_of row a.block _ cs (fun j v hj => ?_) s1
                have hjn : j < P.cellsOf e := by have := (List.getElem?_eq_some_iff.1 hj).1; omega
                obtain ⟨u, hu1, hu2⟩ := hcg j hjn
                rw [hu2] at hj
                cases hj
                have hsp := World.cell?_spot hu1
                have e2 : ((a.add (i * P.cellsOf e)).add j) = ⟨a.block, a.off + i * szT P e + j, none⟩ := by
                  rw [hs]
                  generalize i * P.cellsOf e = q at hsp ⊢
                  obtain ⟨ab, ao, as⟩ := a
                  rcases Nat.eq_zero_or_pos q with h1 | h1 <;> rcases Nat.eq_zero_or_pos j with h2 | h2
                  · subst h1; subst h2
                    have : as = none := hsp
                    subst this
                    rfl
                  · subst h1
                    simp [Addr.add, show j ≠ 0 by omega]
                  · subst h2
                    simp [Addr.add, show q ≠ 0 by omega]
                  · simp [Addr.add, show q ≠ 0 by omega, show j ≠ 0 by omega]
                rw [e2] at hu1
                exact hu1
            obtain ⟨rows, r1, r2⟩ := list_of (p := fun i (r : Row) => tyD P n e r ∧ r.length = szT P e ∧ a.spot = none ∧ roRow (full w) r a.block (a.off + i * szT P e)) len 0 (fun i hi => by rw [Nat.zero_add]; exact hrow i hi)
            refine ⟨[.sl false (szT P e) rows], rfl, ?_, _, _, rfl, ?_, trivial⟩
            · simp only [tyD, hu]
              refine ⟨rows, rfl, by omega, fun r hr => ?_⟩
              obtain ⟨i, hi⟩ := List.getElem?_of_mem hr
              exact (r2 i r hi).1
            · simp only [ro]
              refine ⟨some a, cap, by rw [r1], by omega, fun hn => ?_⟩
              have h0 : ∃ r0, rows[0]? = some r0 := by
                cases rows with
                | nil => exact absurd rfl hn
                | cons r0 _ => exact ⟨r0, rfl⟩
              obtain ⟨r0, h0⟩ := h0
              have hsp := (r2 0 r0 h0).2.2.1
              refine ⟨a.block, a.off, ?_, roRows_of rows a.off fun i r hr => ?_⟩
              · obtain ⟨ab, ao, as⟩ := a
                simp only at hsp
                subst hsp
                rfl
              · obtain ⟨_, h2, _, h4⟩ := r2 i r hr
                rw [Nat.zero_add] at h4
                exact ⟨h2, h4⟩
          · cases h
      | struct fs =>
        simp only [Bool.and_eq_true] at hg
        split at h
        all_goals first
          | (rename_i e1; cases e1; done)
          | (cases h; done)
          | (exfalso; rename_i h21 _ _ _ _ _ _ _ _ _ _ _ _ _ _ _ _ _ _ _; exact h21 _ rfl)
          | skip
        case h_9 =>
          rename_i _ fs' cs' e1
          cases e1
          split at h
          · rename_i hcl
            rw [Option.map_eq_some_iff] at h
            obtain ⟨xs, hxs, _⟩ := h
            cases hc : contig P 0 fs.toList with
            | none => simp [hc] at hg
            | some tot =>
              simp only [hc] at hg
              have htot := Nat.eq_of_beq_eq_true hg.1
              obtain ⟨row, l1, _, t1, s1⟩ := fields_ro (fun t cs d ps hg h => trod_ro n t cs d ps hg h) fs.toList 0 tot _ xs hc hg.2 (by omega) hxs
              refine ⟨row, by rw [l1]; omega, by simp only [tyD, hu]; exact t1, ?_⟩
              simpa [htot, ← hcl] using s1
          · cases h
      | _ => simp at hg
end
end Go.Vm

/-
  A law's call: it returns true, and nothing that was there has turned.
-/
namespace Go.Vm
open Go Go.RowKit

/-- no primitive: nothing to show -/
theorem primOk_none {X : Ctx} (h : ∀ f, X.prim f = none) : PrimOk X := by
  intro f p fn args cells rows outs hp
  rw [h] at hp
  cases hp

theorem simVs_mix {A : Adv} {f : Nat} (hm : A.move f = []) {μ : Nat → Value} {m : Mem} {H : Heap} {h : View} : ∀ {vs : List V} {gs : List Value} (i : Nat), simVs μ m h vs gs → mixS A f μ m H h i vs gs []
  | [], gs, i, q => by simp only [simVs] at q; simp only [mixS]; exact ⟨q, trivial⟩
  | v :: vs, gs, i, q => by
    simp only [simVs] at q
    obtain ⟨g, gs', rfl, h1, h2⟩ := q
    simp only [mixS]
    refine ⟨g, gs', [], [], rfl, rfl, ?_, simVs_mix hm (i + 1) h2⟩
    split
    · rename_i hmo
      simp only [modeOf, hm, mem?, cond_false] at hmo
      cases hr : mem? i (A.ref f) <;> simp [hr] at hmo
    · exact ⟨rfl, h1⟩

theorem law_calls {X : Ctx} (hp : PrimOk X) {f : Nat} {fn : Func} {t : TypeId} {args : List V} {gargs : List Value} {w : World} (hf : X.P.funcs[f]? = some fn) (hb : fn.body.isSome = true) (hr : fn.resultTypes = #[t]) (ht : aggT X.P t = false) (hm : X.adv.move f = [])
    (hs : simVs (impμ []) [] (full w) args gargs) (h : call X f args [] = some ([[.bool true]], [])) :
    Calls X.P f gargs.toArray w fun e w' => e = .returned (.bool true) ∧ Below w.heap.size w w' := by
  have hG : Given X 0 (fun _ => True) w f args [] gargs [] [] [] := by
    have hv : (full w).le (view w (fun _ => True) (· ∈ ([] : List Nat) ++ [])) := by
      intro b o v h
      exact view_mk trivial (by simp) h
    refine ⟨by simp, by simp, fun _ _ => trivial, Nat.zero_le _, ?_, ⟨rfl, rfl⟩⟩
    exact mixS_mono (memLe_refl _ _) hv (fun _ _ => rfl) (simVs_mix (H := heapOf w) hm 0 hs)
  refine (call_ok hp f fn args [] [[.bool true]] [] hf hb h 0 (fun _ => True) w gargs [] [] [] hG).mono ?_
  rintro e w' ⟨gs, M1, M2, rfl, D⟩
  have hres := D.res
  rw [hr] at hres
  simp only [retsS] at hres
  obtain ⟨row, rows', g, gs', cs, N1, N2, e1, e2, _, hv, ho, hl, e3, e4, _⟩ := hres
  simp only [List.cons.injEq] at e1
  obtain ⟨rfl, rfl⟩ := e1
  subst e4
  subst e2
  simp only [valOf, ht, Bool.false_eq_true, if_false] at hv
  subst hv
  simp only [owRow, ow] at ho
  obtain ⟨v, cs', N1, N2, e5, _, ⟨rfl, _⟩, _⟩ := ho
  simp only [List.cons.injEq] at e5
  obtain ⟨rfl, _⟩ := e5
  refine ⟨rfl, ⟨D.keep.os, D.keep.tape, D.keep.output, D.keep.size, fun k hk => D.keep.block k hk (by simp)⟩⟩

/-! ### arguments -/
section
variable {H : Type} {enc : TypeId × Value → H} {P : Program} {w : World} {base : Nat} {spare : Nat → Bool} {held : Bool} {t : TypeId} {v : Value} {d : DataW H} {ps : List MemPlace}
/-- an argument of one cell -/
theorem arg_one {μ : Nat → Value} {m : Mem} (h : DataW.Trod enc P w base spare held t v d ps) (hg : ∀ n, goodT P (n + 8) t = true) (hv : v.cells.toList = [v]) :
    ∃ n x, tyD P (n + 8) t [x] ∧ simV μ m (full w) (.d x) v := by
  obtain ⟨n, hn⟩ := h
  have hn' : DataW.trod enc P w base spare held (n + 8) t v.cells.toList = some (d, ps) := DataW.trod_le (Nat.le_add_right n 8) hn
  obtain ⟨row, hl, ht, hs⟩ := trod_ro (n + 8) t _ d ps (hg n) hn'
  rw [hv] at hl hs
  cases row with
  | nil => simp at hl
  | cons x r =>
    cases r with
    | cons _ _ => simp at hl
    | nil =>
      obtain ⟨u, cs', e, h1, _⟩ := hs
      simp only [List.cons.injEq] at e
      obtain ⟨rfl, _⟩ := e
      exact ⟨_, x, ht, by simpa [simV] using h1⟩
end
section
variable {P : Program} {n : Nat} {t : TypeId} {row : Row}
theorem tyD_int {k : IntKind} (hu : P.underlying t = some (.int k)) (h : tyD P (n + 1) t row) : ∃ x, row = [.int k x] ∧ (Lit.int k x).wf = true := by simpa [tyD, hu] using h
theorem tyD_bool (hu : P.underlying t = some .bool) (h : tyD P (n + 1) t row) : ∃ b, row = [.bool b] := by simpa [tyD, hu] using h
theorem tyD_str (hu : P.underlying t = some .string) (h : tyD P (n + 1) t row) : ∃ s, row = [.str s] ∧ s.length ≤ maxLen := by simpa [tyD, hu] using h
theorem tyD_sl {e : TypeId} (hu : P.underlying t = some (.slice e)) (h : tyD P (n + 1) t row) : ∃ rows, row = [.sl false (szT P e) rows] ∧ rows.length ≤ maxLen ∧ ∀ r, r ∈ rows → tyD P n e r := by simpa [tyD, hu] using h
theorem tyD_struct {fs : Array Field} (hu : P.underlying t = some (.struct fs)) (h : tyD P (n + 1) t row) : tyFs P n fs.toList row := by simpa [tyD, hu] using h
theorem tyFs_cons {f : Field} {fs : List Field} (h : tyFs P n (f :: fs) row) : ∃ r1 r2, row = r1 ++ r2 ∧ tyD P n f.type r1 ∧ tyFs P n fs r2 := by simpa [tyFs] using h
theorem tyFs_nil (h : tyFs P n [] row) : row = [] := by simpa [tyFs] using h
theorem list_enc {α : Type} {f : α → Row} {p : α → Prop} : ∀ {rows : List Row}, (∀ r, r ∈ rows → ∃ x, r = f x ∧ p x) → ∃ l : List α, rows = l.map f ∧ ∀ x, x ∈ l → p x
  | [], _ => ⟨[], rfl, fun x h => by simp at h⟩
  | r :: rows, h => by
    obtain ⟨x, hx, hp⟩ := h r (by simp)
    obtain ⟨l, hl, hq⟩ := list_enc (rows := rows) (fun r hr => h r (by simp [hr]))
    refine ⟨x :: l, by simp [hx, hl], fun y hy => ?_⟩
    rcases List.mem_cons.1 hy with rfl | hy
    · exact hp
    · exact hq y hy
end
end Go.Vm
