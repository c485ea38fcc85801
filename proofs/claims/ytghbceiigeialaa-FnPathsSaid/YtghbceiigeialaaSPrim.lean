import Derived.Test.YtghbceiigeialaaStarts2
import Derived.Test.YtghbceiigeialaaVm4
namespace Go.Proofs.Ytghbceiigeialaa
set_option linter.unusedVariables false
set_option linter.unusedSimpArgs false
open Go.Vm (walkKids startsL startsOk)
open Go Go.Vm Go.Proofs Go.RowKit
def decI : List Row → Option (List Int)
  | [] => some []
  | r :: rs => match r with
    | [.int .i64 x] => (decI rs).map (x :: ·)
    | _ => none
def decK : Row → Option Nk
  | [.int .i64 k, .int .i64 op, .str t, .str u, .sl _ 1 kids] => (decI kids).bind fun ks => if ks.length ≤ 1048576 then some ⟨k, op, ⟨⟨t⟩⟩, ⟨⟨u⟩⟩, ks⟩ else none
  | _ => none
def decKs : List Row → Option (List Nk)
  | [] => some []
  | r :: rs => (decK r).bind fun k => (decKs rs).map (k :: ·)
def rowsI (l : List Int) : List Row := l.map fun x => [.int .i64 x]
def M.impl_startsOf (rows : List Row) : Option (List Row × Bool) := (decKs rows).bind fun l => if l.length ≤ 1048576 then
  (match startsOk (l.map (·.kids)) with
    | none => some ([], false)
    | some st => some (rowsI st, st[l.length - 1]?.getD 0 == 0)) else none
def Prim.impl_startsOf (a : List V) (c : List Cell) : Option (List Row × List Cell) := match a, c with
  | [.d (.sl _ 5 rows)], [] => (M.impl_startsOf rows).map fun r => ([[.sl true 1 r.1], [.bool r.2]], [])
  | _, _ => none
theorem decI_len : ∀ (rs : List Row) (l : List Int), decI rs = some l → rs = rowsI l
  | [], l, h => by
    simp only [decI, Option.some.injEq] at h
    subst h
    rfl
  | r :: rs, l, h => by
    unfold decI at h
    split at h
    · cases hd : decI rs with
      | none => rw [hd] at h; cases h
      | some l' =>
        rw [hd] at h
        cases h
        rw [decI_len rs l' hd]
        rfl
    · cases h
theorem decK_inv {r : Row} {n : Nk} (h : decK r = some n) : ∃ t u own, n.text = ⟨⟨t⟩⟩ ∧ n.other = ⟨⟨u⟩⟩ ∧ n.kids.length ≤ 1048576 ∧ r = [.int .i64 n.kind, .int .i64 n.op, .str t, .str u, .sl own 1 (rowsI n.kids)] := by
  unfold decK at h
  split at h
  · rename_i k op t u own' kids
    cases hk : decI kids with
    | none => rw [hk] at h; cases h
    | some ks =>
      rw [hk, some_bind] at h
      split at h
      · cases h
        obtain rfl := decI_len kids ks hk
        exact ⟨t, u, own', rfl, rfl, by assumption, rfl⟩
      · cases h
  · cases h
theorem decKs_get : ∀ (rs : List Row) (l : List Nk), decKs rs = some l → rs.length = l.length ∧ ∀ (i : Nat) n, l[i]? = some n → ∃ r, rs[i]? = some r ∧ decK r = some n
  | [], l, h => by
    simp only [decKs, Option.some.injEq] at h
    subst h
    exact ⟨rfl, fun i n hn => by simp at hn⟩
  | r :: rs, l, h => by
    rw [decKs] at h
    cases hd : decK r with
    | none => rw [hd] at h; cases h
    | some k =>
      rw [hd, some_bind] at h
      cases hds : decKs rs with
      | none => rw [hds] at h; cases h
      | some l' =>
        rw [hds] at h
        cases h
        obtain ⟨h1, h2⟩ := decKs_get rs l' hds
        refine ⟨by simp [h1], fun i n hn => ?_⟩
        cases i with
        | zero =>
          simp only [List.getElem?_cons_zero, Option.some.injEq] at hn
          subst hn
          exact ⟨r, rfl, hd⟩
        | succ i =>
          simp only [List.getElem?_cons_succ] at hn ⊢
          exact h2 i n hn
theorem roRows_get {h : View} {s : Nat} : ∀ {rs : List Row} {b o i : Nat} {r : Row}, roRows h s rs b o → rs[i]? = some r → r.length = s ∧ roRow h r b (o + i * s)
  | [], b, o, i, r, q, hi => by simp at hi
  | r' :: rs, b, o, i, r, q, hi => by
    simp only [roRows] at q
    cases i with
    | zero =>
      simp only [List.getElem?_cons_zero, Option.some.injEq] at hi
      subst hi
      simp only [Nat.zero_mul, Nat.add_zero]
      exact ⟨q.1, q.2.1⟩
    | succ i =>
      simp only [List.getElem?_cons_succ] at hi
      obtain ⟨h1, h2⟩ := roRows_get q.2.2 hi
      refine ⟨h1, ?_⟩
      rw [show o + (i + 1) * s = o + s + i * s by rw [Nat.succ_mul]; omega]
      exact h2
theorem view_cell {w : World} {U Y : Nat → Prop} {b o : Nat} {v : Value} (h : view w U Y b o = some v) : w.cell? ⟨b, o, none⟩ = some v ∧ b < w.heap.size := by
  unfold view at h
  split at h
  · refine ⟨h, ?_⟩
    unfold World.cell? at h
    cases ho : w.heap[b]? with
    | none => simp [ho] at h
    | some o => exact (Array.getElem?_eq_some_iff.1 ho).1
  · cases h
theorem ro_ints {w : World} {U Y : Nat → Prop} {own : Bool} {ks : List Int} {v : Value} (h : ro (view w U Y) (.sl own 1 (rowsI ks)) v) : IntsAt w.heap.size w v ks := by
  simp only [ro] at h
  obtain ⟨a, cap, rfl, hc, hr⟩ := h
  have hl : (rowsI ks).length = ks.length := by simp [rowsI]
  refine ⟨a, cap, by rw [hl], fun hz => ?_⟩
  obtain ⟨b, o, rfl, hrr⟩ := hr (by intro e; apply hz; simpa [rowsI] using e)
  have get : ∀ j, j < ks.length → w.cell? ⟨b, o + j, none⟩ = some (.int .i64 (ks[j]?.getD 0)) ∧ b < w.heap.size := by
    intro j hj
    have e : (rowsI ks)[j]? = some [D.int .i64 (ks[j]?.getD 0)] := by simp [rowsI, hj]
    obtain ⟨_, h2⟩ := roRows_get hrr e
    simp only [roRow, Nat.mul_one] at h2
    obtain ⟨⟨v, hv, hv2⟩, _⟩ := h2
    simp only [ro] at hv2
    subst hv2
    exact view_cell hv
  have hpos : 0 < ks.length := by
    cases ks with
    | nil => exact absurd rfl hz
    | cons _ _ => simp
  exact ⟨b, o, rfl, (get 0 hpos).2, fun j hj => (get j hj).1⟩
theorem ro_nodes {w : World} {U Y : Nat → Prop} {own : Bool} {rows : List Row} {l : List Nk} {v : Value} (hd : decKs rows = some l) (h : ro (view w U Y) (.sl own 5 rows) v) : NodesAt w.heap.size w v l := by
  simp only [ro] at h
  obtain ⟨a, cap, rfl, hc, hr⟩ := h
  obtain ⟨hl, hg⟩ := decKs_get rows l hd
  refine ⟨a, cap, by rw [hl], fun hz => ?_⟩
  obtain ⟨b, o, rfl, hrr⟩ := hr (by intro e; subst e; simp at hl; exact hz (List.length_eq_zero_iff.1 hl.symm))
  have get : ∀ i n, l[i]? = some n → NodeAt w.heap.size w b (o + i * 5) n ∧ b < w.heap.size := by
    intro i n hn
    obtain ⟨r, hri, hdk⟩ := hg i n hn
    obtain ⟨_, h2⟩ := roRows_get hrr hri
    obtain ⟨t, u, own', e1, e2, _, rfl⟩ := decK_inv hdk
    simp only [roRow] at h2
    obtain ⟨⟨v0, h0, r0⟩, ⟨v1, h1, r1⟩, ⟨v2, h2, r2⟩, ⟨v3, h3, r3⟩, ⟨v4, h4, r4⟩, _⟩ := h2
    simp only [ro] at r0 r1 r2 r3
    subst r0 r1 r2 r3
    exact ⟨⟨v4, (view_cell h0).1, (view_cell h1).1, by rw [e1]; exact (view_cell h2).1, by rw [e2]; exact (view_cell h3).1, (view_cell h4).1, ro_ints r4⟩, (view_cell h0).2⟩
  have hpos : ∃ n, l[0]? = some n := by
    cases l with
    | nil => exact absurd rfl hz
    | cons n _ => exact ⟨n, rfl⟩
  obtain ⟨n0, hn0⟩ := hpos
  exact ⟨b, o, rfl, (get 0 n0 hn0).2, fun i n hn => (get i n hn).1⟩
theorem decKs_kids {rows : List Row} {l : List Nk} (hd : decKs rows = some l) : ∀ n, n ∈ l → n.kids.length ≤ 1048576 := by
  intro n hn
  obtain ⟨i, hi⟩ := List.mem_iff_getElem?.1 hn
  obtain ⟨r, _, hdk⟩ := (decKs_get rows l hd).2 i n hi
  obtain ⟨_, _, _, _, _, h, _⟩ := decK_inv hdk
  exact h
theorem owRows_ints {H : Heap} {h : View} : ∀ (st : List Int) (cs : List Value), cs = st.map (Value.int .i64) ++ cs.drop st.length → owRows H h 1 (rowsI st) cs []
  | [], cs, e => rfl
  | x :: st, cs, e => by
    cases cs with
    | nil => simp at e
    | cons c cs =>
      simp only [List.map_cons, List.cons_append, List.length_cons, List.drop_succ_cons, List.cons.injEq] at e
      obtain ⟨rfl, e⟩ := e
      simp only [rowsI, List.map_cons, owRows]
      refine ⟨rfl, [], [], rfl, ?_, owRows_ints st cs e⟩
      simp only [owRow]
      exact ⟨_, _, [], [], rfl, rfl, ⟨rfl, rfl⟩, rfl⟩
theorem startsPrim_ok {X : Ctx} (hP : X.P = Try.prog) (hm : modeOf X.adv 35 0 = 0) (fn : Func) (args : List V) (cells : List Cell) (rows : List Row) (outs : List Cell) (hf : X.P.funcs[35]? = some fn) (h : Prim.impl_startsOf args cells = some (rows, outs))
    (base : Nat) (U : Nat → Prop) (w : World) (gargs gcells : List Value) (N1 N2 : List Nat) (hG : Given X base U w 35 args cells gargs gcells N1 N2) :
    Calls X.P 35 gargs.toArray w fun e w' => ∃ gs M1 M2, e = .returned (retV gs) ∧ Did X.P U w w' (N1 ++ N2) fn.resultTypes.toList cells outs gcells rows gs M1 M2 := by
  unfold Prim.impl_startsOf at h
  split at h
  · rename_i own rws
    cases hs : M.impl_startsOf rws with
    | none => rw [hs] at h; cases h
    | some r =>
      rw [hs] at h
      cases h
      rw [hP] at hf
      have hfn : fn.resultTypes.toList = [27, 4] := by
        rw [Try.func35] at hf
        cases hf
        rfl
      have ha := hG.args
      simp only [mixS, hm] at ha
      obtain ⟨v0, gs', n1, n2, rfl, rfl, ⟨rfl, hv0⟩, rfl, rfl⟩ := ha
      have hc := hG.cells
      obtain ⟨rfl, rfl⟩ := hc
      simp only [simV] at hv0
      unfold M.impl_startsOf at hs
      cases hd : decKs rws with
      | none => rw [hd] at hs; cases hs
      | some l =>
        rw [hd, some_bind] at hs
        split at hs
        · rename_i hlen
          have hN := ro_nodes hd hv0
          have hN' := hN
          obtain ⟨a, cap, rfl, _⟩ := hN'
          have hk := decKs_kids hd
          have hcall := callsIn_wide.1 (starts_in w a cap l (by omega) (fun n hn => by have := hk n hn; omega) hN)
          rw [hP]
          refine hcall.mono ?_
          rintro e w' ⟨hbel, g, bb, rfl, hres⟩
          rw [hfn]
          have hkeep : Keep [] w w' := ⟨hbel.os, hbel.tape, hbel.output, hbel.size, fun b hb _ => hbel.block b hb⟩
          rcases hres with ⟨hno, rfl, rfl⟩ | ⟨st, hst, rfl, hblk, rfl⟩
          · rw [hno] at hs
            cases hs
            refine ⟨[.slice none 0 0, .bool false], [], [], rfl, hkeep, by simp, fun b hb => by simp at hb, rfl, ⟨rfl, rfl⟩, ?_⟩
            simp only [retsS]
            refine ⟨_, _, _, _, [], [], rfl, rfl, rfl, (retS_val (by kernel_rfl)).2 ⟨[.slice none 0 0], ?_, ?_, rfl⟩, _, _, _, _, [], [], rfl, rfl, rfl, (retS_val (by kernel_rfl)).2 ⟨[.bool false], ?_, ?_, rfl⟩, rfl, rfl, rfl⟩
            · rw [Vm.valOf, if_neg (by intro e; revert e; rw [show aggT Try.prog 27 = false by kernel_rfl]; simp)]
            · simp only [owRow]
              exact ⟨_, _, [], [], rfl, rfl, .inl ⟨rfl, rfl, rfl⟩, rfl⟩
            · rw [Vm.valOf, if_neg (by intro e; revert e; rw [show aggT Try.prog 4 = false by kernel_rfl]; simp)]
            · simp only [owRow]
              exact ⟨_, _, [], [], rfl, rfl, ⟨rfl, rfl⟩, rfl⟩
          · rw [hst] at hs
            cases hs
            have hsl : st.length = l.length := by
              unfold startsOk at hst
              split at hst
              · have := starts_len _ _ _ hst
                simpa using this
              · cases hst
            have hlt : w.heap.size + 2 < w'.heap.size := (Array.getElem?_eq_some_iff.1 hblk).1
            refine ⟨[.slice (some ⟨w.heap.size + 2, 0, none⟩) l.length l.length, .bool (st[l.length - 1]?.getD 0 == 0)], [], [w.heap.size + 2], rfl, hkeep, by simp, fun b hb => ?_, rfl, ⟨rfl, rfl⟩, ?_⟩
            · simp at hb
              subst hb
              exact ⟨.inr (by omega), hlt⟩
            · simp only [retsS]
              refine ⟨_, _, _, _, [w.heap.size + 2], [], rfl, rfl, rfl, (retS_val (by kernel_rfl)).2 ⟨[.slice (some ⟨w.heap.size + 2, 0, none⟩) l.length l.length], ?_, ?_, rfl⟩, _, _, _, _, [], [], rfl, rfl, rfl, (retS_val (by kernel_rfl)).2 ⟨[.bool (st[l.length - 1]?.getD 0 == 0)], ?_, ?_, rfl⟩, rfl, rfl, rfl⟩
              · rw [Vm.valOf, if_neg (by intro e; revert e; rw [show aggT Try.prog 27 = false by kernel_rfl]; simp)]
              · simp only [owRow]
                refine ⟨_, _, [w.heap.size + 2], [], rfl, rfl, .inr ⟨w.heap.size + 2, l.length, arrOf l.length st, 3, [], ?_, by simp [rowsI, hsl], hblk, ?_, ?_, rfl⟩, rfl⟩
                · simp [rowsI, hsl]
                · rw [arrOf_size (by omega), Nat.mul_one]
                · refine owRows_ints st _ ?_
                  have : l.length - st.length = 0 := by omega
                  simp [arrOf, this]
              · rw [Vm.valOf, if_neg (by intro e; revert e; rw [show aggT Try.prog 4 = false by kernel_rfl]; simp)]
              · simp only [owRow]
                exact ⟨_, _, [], [], rfl, rfl, ⟨rfl, rfl⟩, rfl⟩
        · cases hs
  · cases h
end Go.Proofs.Ytghbceiigeialaa
