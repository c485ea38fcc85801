/-
  The machine's operations are Go's: literals, made slices, append.
-/
import Derived.Test.YtfbemlhfieemhaaVmOps4
namespace Go.Vm
open Go

section
variable {base : Nat} {U : Nat → Prop} {M0 : List Nat} {w0 w w' : World} {m m' : Mem} {G G' : GS} {P : Program}

/-- what an operation comes to -/
def OpR (base : Nat) (U : Nat → Prop) (M0 : List Nat) (w0 w : World) (m : Mem) (G : GS) (P : Program) (s : Sem Value) (v : V) (m' : Mem) : Prop :=
  ∃ g w' G', s.run P w = .ok g w' ∧ Nx base U M0 w0 w m G w' m' G' ∧ simV G'.μ m' (Gh U w' G') v g
theorem OpR.same (hA : At base U M0 w0 w m G) {s : Sem Value} {g : Value} {v : V} (h : s.run P w = .ok g w) (hv : simV G.μ m (Gh U w G) v g) : OpR base U M0 w0 w m G P s v m := ⟨g, w, G, h, hA.nx, hv⟩

theorem alloc_ok (hA : At base U M0 w0 w m G) {T k : Nat} {z : List V} (hz : zeroRow P T = some z) {u : Unit} {l l' : Log} (h : (new k (.box T z)).run m l = some (u, m', l')) :
    OpR base U M0 w0 w m G P (Instr.alloc T true (.tuple #[])) (.ptr k 0) m' := by
  obtain ⟨i, zv, hi, hzv, hs⟩ := zeroRow_ok (m := m) (μ := G.μ) (h := Gh U w G) hz
  obtain ⟨G', hnx, hsim⟩ := newBox_ok hA hs h
  refine ⟨_, _, G', ?_, hnx, hsim⟩
  simp [Instr.alloc, zeroValue, typeInfo, hi, hzv, newVar, newRow]
theorem box_ok (hA : At base U M0 w0 w m G) {T k : Nat} {v : V} {g : Value} (hv : simV G.μ m (Gh U w G) v g) (h1 : v.cells.all one = true) {u : Unit} {l l' : Log} (h : (new k (.box T v.cells)).run m l = some (u, m', l')) :
    OpR base U M0 w0 w m G P (Instr.box T g) (.ptr k 0) m' := by
  obtain ⟨hs, _⟩ := cells_ok h1 hv
  obtain ⟨G', hnx, hsim⟩ := newBox_ok hA hs h
  refine ⟨_, _, G', ?_, hnx, hsim⟩
  simp [Instr.box, newVar, newRow]

/-! ### structs -/
theorem places_some : ∀ (fs : List Field), (fs.all fun f => match P.info? f.type with | some _ => true | none => false) = true →
    ∃ places, fs.mapM (fun f => (P.info? f.type).map fun i => (f.offset, i.size)) = some places ∧ ∀ (j : Nat) f, fs[j]? = some f → places[j]? = some (f.offset, szT P f.type)
  | [], _ => ⟨[], by simp, by simp⟩
  | f :: fs, h => by
    simp only [List.all_cons, Bool.and_eq_true] at h
    obtain ⟨places, h1, h2⟩ := places_some fs h.2
    cases hi : P.info? f.type with
    | none => simp [hi] at h
    | some i =>
      refine ⟨(f.offset, i.size) :: places, by simp [List.mapM_cons, hi, h1], ?_⟩
      intro j g hj
      cases j with
      | zero => simp at hj; subst hj; simp [szT, hi]
      | succ j => simpa using h2 j g (by simpa using hj)
theorem buildParts_ok {T : TypeId} {fs : Array Field} (hu : P.underlying T = some (.struct fs)) {place : Nat → Option (Nat × Nat)} (hp : ∀ (j : Nat) f, fs[j]? = some f → place j = some (f.offset, szT P f.type)) {tm : Tmps} {a : Act}
    {μ : Nat → Value} {h : View} : ∀ (ps : List (Nat × Operand)) {m : Mem} (_ : simT μ m h tm a) {cs : List V} {cells : Array Value} (_ : simVs μ m h cs cells.toList) {out : List V} {m' : Mem} {l l' : Log}
    (_ : (buildParts P T tm ps cs).run m l = some (out, m', l')), m' = m ∧ ∃ r, Instr.fill place cells (ps.map fun x => (x.1, a.eval x.2)) = some r ∧ simVs μ m h out r.toList
  | [], m, hT, cs, cells, hs, out, m', l, l', hr => by
    simp only [buildParts, run_pure, Option.some.injEq, Prod.mk.injEq] at hr
    obtain ⟨rfl, rfl, _⟩ := hr
    exact ⟨rfl, cells, rfl, hs⟩
  | (f, x) :: ps, m, hT, cs, cells, hs, out, m', l, l', hr => by
    simp only [buildParts] at hr
    replace hr := run_bind_some hr; obtain ⟨⟨o, n, t⟩, m1, l1, h1, hr⟩ := hr
    obtain ⟨hf, rfl, rfl⟩ := run_op' h1
    simp only at hr
    replace hr := run_bind_some hr; obtain ⟨_, m2, l2, h2, hr⟩ := hr
    obtain ⟨hlen, rfl, rfl⟩ := run_ck h2
    replace hr := run_bind_some hr; obtain ⟨_, m2, l2, h2, hr⟩ := hr
    obtain ⟨hone, rfl, rfl⟩ := run_ck h2
    replace hr := run_bind_some hr; obtain ⟨_, m2, l2, h2, hr⟩ := hr
    obtain ⟨hfit, rfl, rfl⟩ := run_ck h2
    have hlen := Nat.eq_of_beq_eq_true hlen
    have hfit := Nat.le_of_ble_eq_true hfit
    obtain ⟨hv, hv1⟩ := cells_ok hone (ev_ok hT t x)
    have hgl : (a.eval x).cells.size = n := by rw [← hlen, ← simVs_length hv, Array.length_toList]
    have hcl : cells.size = cs.length := by rw [← simVs_length hs, Array.length_toList]
    have hpl : place f = some (o, n) := by
      unfold fieldOf at hf
      rw [hu] at hf
      simp only at hf
      cases hfd : fs[f]? with
      | none => simp [hfd] at hf
      | some fd =>
        simp only [hfd, Option.some.injEq, Prod.mk.injEq] at hf
        obtain ⟨rfl, rfl, rfl⟩ := hf
        exact hp f fd hfd
    have hsp := foldl_splice o (a.eval x).cells.toList 0 cells (by simp; omega)
    have hz : (a.eval x).cells.zipIdx.foldl (fun cs (c, j) => cs.setIfInBounds (o + j) c) cells = (splice cells.toList o (a.eval x).cells.toList).toArray := by
      apply Array.ext'
      rw [← Array.foldl_toList]
      simpa using hsp
    obtain ⟨hm, r, hr1, hr2⟩ := buildParts_ok hu hp ps hT (cells := (splice cells.toList o (a.eval x).cells.toList).toArray) (by simpa using simVs_splice o hs hv) hr
    refine ⟨hm, r, ?_, hr2⟩
    simp only [List.map_cons, Instr.fill, hpl]
    rw [if_neg (by simp [hgl]; omega), hz]
    exact hr1
theorem buildV_ok (hA : At base U M0 w0 w m G) {tm : Tmps} {a : Act} (hT : simT G.μ m (Gh U w G) tm a) {T : TypeId} {ps : Array (Nat × Operand)} {v : V} {l l' : Log} (h : (buildV P T tm ps.toList).run m l = some (v, m', l')) :
    OpR base U M0 w0 w m G P (Instr.build T (ps.map fun x => (x.1, a.eval x.2))) v m' := by
  simp only [buildV] at h
  replace h := run_bind_some h; obtain ⟨_, m1, l1, h1, h⟩ := h
  obtain ⟨hok, rfl, rfl⟩ := run_ck h1
  replace h := run_bind_some h; obtain ⟨z, m1, l1, h1, h⟩ := h
  obtain ⟨hz, rfl, rfl⟩ := run_op' h1
  replace h := run_bind_some h; obtain ⟨cs, m2, l2, h2, h⟩ := h
  simp only [run_pure, Option.some.injEq, Prod.mk.injEq] at h
  obtain ⟨rfl, rfl, _⟩ := h
  obtain ⟨i, zv, hi, hzv, hs⟩ := zeroRow_ok (m := m1) (μ := G.μ) (h := Gh U w G) hz
  unfold fieldsOk at hok
  cases hu : P.underlying T with
  | none => simp [hu] at hok
  | some d =>
    rw [hu] at hok
    cases d with
    | struct fs =>
      simp only at hok
      obtain ⟨places, hpl, hpg⟩ := places_some fs.toList hok
      obtain ⟨hm, r, hr1, hr2⟩ := buildParts_ok (place := (places.toArray[·]?)) hu (fun j f hj => by simpa using hpg j f (by simpa using hj)) ps.toList hT hs h2
      subst hm
      refine OpR.same hA (g := .agg r) ?_ (by simp only [simV]; exact ⟨r, rfl, hr2⟩)
      refine run_build w T _ r ?_
      unfold Program.built
      simp only [hi, hu, hzv, hpl]
      simpa [Array.toList_map] using hr1
    | _ => simp at hok

/-! ### slice literals -/
theorem sliceParts_ok {e : TypeId} {tm : Tmps} {a : Act} : ∀ (ps : List (Nat × Operand)) {m : Mem} {G : GS} {k : Nat} (_ : Gok base U w m G) (_ : G.out = []) (_ : simT G.μ m (Gh U w G) tm a) {rows : List Row} {m' : Mem} {l l' : Log}
    (_ : (sliceParts P e tm k ps).run m l = some (rows, m', l')), ∃ G' N, Took base U w m G m' G' N ∧ owRows (heapOf w) (Gh U w G') (szT P e) rows ((ps.map fun x => a.eval x.2).flatMap fun v => v.cells.toList) N ∧ rows.length = ps.length ∧
      (∀ v ∈ ps.map (fun x => a.eval x.2), v.cells.size = szT P e) ∧ ps.map (fun x => (x.1, a.eval x.2)) = ((ps.map fun x => a.eval x.2).zipIdx k).map fun x => (x.2, x.1)
  | [], m, G, k, hg, ho, hT, rows, m', l, l', h => by
    simp only [sliceParts, run_pure, Option.some.injEq, Prod.mk.injEq] at h
    obtain ⟨rfl, rfl, _⟩ := h
    exact ⟨G, [], Took.same hg, by simp [owRows], rfl, by simp, by simp⟩
  | (i, x) :: ps, m, G, k, hg, ho, hT, rows, m', l, l', h => by
    simp only [sliceParts] at h
    replace h := run_bind_some h; obtain ⟨_, m1, l1, h1, h⟩ := h
    obtain ⟨hik, rfl, rfl⟩ := run_ck h1
    have hik := Nat.eq_of_beq_eq_true hik
    subst hik
    replace h := run_bind_some h; obtain ⟨_, m1, l1, h1, h⟩ := h
    obtain ⟨hlen, rfl, rfl⟩ := run_ck h1
    have hlen := Nat.eq_of_beq_eq_true hlen
    replace h := run_bind_some h; obtain ⟨row, m2, l2, h2, h⟩ := h
    replace h := run_bind_some h; obtain ⟨rows', m3, l3, h3, h⟩ := h
    simp only [run_pure, Option.some.injEq, Prod.mk.injEq] at h
    obtain ⟨rfl, rfl, _⟩ := h
    have hev := ev_ok (P := P) hT e x
    -- the cells of the part
    have hcells : ∃ gs, simVs G.μ m1 (Gh U w G) (ev P tm e x).cells gs ∧ (a.eval x).cells.toList = gs := by
      generalize ev P tm e x = v at hev h2 hlen
      cases v with
      | agg cs =>
        simp only [simV] at hev
        obtain ⟨arr, he, hq⟩ := hev
        exact ⟨arr.toList, hq, by rw [he]; rfl⟩
      | d y =>
        have h1 : (a.eval x).oneCell' = true := oneCell_of_sim (v := .d y) rfl hev
        exact ⟨[a.eval x], by simp only [V.cells, simVs]; exact ⟨_, [], rfl, hev, rfl⟩, by rw [cells_one h1]⟩
      | nil s =>
        have h1 : (a.eval x).oneCell' = true := oneCell_of_sim (v := .nil s) rfl hev
        exact ⟨[a.eval x], by simp only [V.cells, simVs]; exact ⟨_, [], rfl, hev, rfl⟩, by rw [cells_one h1]⟩
      | own r ver =>
        have h1 : (a.eval x).oneCell' = true := oneCell_of_sim (v := .own r ver) rfl hev
        exact ⟨[a.eval x], by simp only [V.cells, simVs]; exact ⟨_, [], rfl, hev, rfl⟩, by rw [cells_one h1]⟩
      | ptr r o =>
        have h1 : (a.eval x).oneCell' = true := oneCell_of_sim (v := .ptr r o) rfl hev
        exact ⟨[a.eval x], by simp only [V.cells, simVs]; exact ⟨_, [], rfl, hev, rfl⟩, by rw [cells_one h1]⟩
      | eptr r v i o =>
        have h1 : (a.eval x).oneCell' = true := oneCell_of_sim (v := .eptr r v i o) rfl hev
        exact ⟨[a.eval x], by simp only [V.cells, simVs]; exact ⟨_, [], rfl, hev, rfl⟩, by rw [cells_one h1]⟩
      | rptr r o =>
        have h1 : (a.eval x).oneCell' = true := oneCell_of_sim (v := .rptr r o) rfl hev
        exact ⟨[a.eval x], by simp only [V.cells, simVs]; exact ⟨_, [], rfl, hev, rfl⟩, by rw [cells_one h1]⟩
      | clo f p q =>
        have h1 : (a.eval x).oneCell' = true := oneCell_of_sim (v := .clo f p q) rfl hev
        exact ⟨[a.eval x], by simp only [V.cells, simVs]; exact ⟨_, [], rfl, hev, rfl⟩, by rw [cells_one h1]⟩
      | tup vs => simp only [V.cells, toRow, toD] at h2; replace h2 := run_bind_some h2; obtain ⟨_, _, _, h4, _⟩ := h2; exact (run_fail h4).elim
      | undef => simp only [V.cells, toRow, toD] at h2; replace h2 := run_bind_some h2; obtain ⟨_, _, _, h4, _⟩ := h2; exact (run_fail h4).elim
    obtain ⟨gs, hgs, hge⟩ := hcells
    obtain ⟨G1, N1, t1, q1, hrl⟩ := toRow_ok hg hgs ho h2
    have hT1 : simT G1.μ m2 (Gh U w G1) tm a := fun t v hv => ⟨(hT t v hv).1, t1.le.simV (hT t v hv).2⟩
    obtain ⟨G2, N2, t2, q2, hl2, hs2, hz2⟩ := sliceParts_ok ps t1.ok (t1.out.trans ho) hT1 h3
    have hgl : gs.length = szT P e := by rw [simVs_length hgs, hlen]
    refine ⟨G2, N1 ++ N2, t1.trans t2, ?_, by simp [hl2], ?_, ?_⟩
    · simp only [owRows, List.map_cons, List.flatMap_cons, hge]
      refine ⟨by rw [hrl, hlen], N1, N2, rfl, owRow_take (by rw [hrl, ← simVs_length hgs]; simp) (owRow_keep t2.le.view q1), ?_⟩
      rw [List.drop_append_of_le_length (by omega), List.drop_eq_nil_of_le (by omega)]
      exact q2
    · intro v hv
      simp only [List.map_cons, List.mem_cons] at hv
      rcases hv with rfl | hv
      · rw [← Array.length_toList, hge, hgl]
      · exact hs2 v hv
    · simp only [List.map_cons, List.zipIdx_cons, hz2]
theorem buildSliceV_ok (hA : At base U M0 w0 w m G) {tm : Tmps} {a : Act} (hT : simT G.μ m (Gh U w G) tm a) {t : TypeId} {n k : Nat} {ps : Array (Nat × Operand)} {v : V} {l l' : Log} (h : (buildSliceV P k t n tm ps.toList).run m l = some (v, m', l')) :
    OpR base U M0 w0 w m G P (Instr.buildSlice t n (ps.map fun x => (x.1, a.eval x.2))) v m' := by
  simp only [buildSliceV] at h
  replace h := run_bind_some h; obtain ⟨e, m1, l1, h1, h⟩ := h
  obtain ⟨he, rfl, rfl⟩ := run_op' h1
  replace h := run_bind_some h; obtain ⟨_, m1, l1, h1, h⟩ := h
  obtain ⟨hs1, rfl, rfl⟩ := run_ck h1
  replace h := run_bind_some h; obtain ⟨_, m1, l1, h1, h⟩ := h
  obtain ⟨hn, rfl, rfl⟩ := run_ck h1
  replace h := run_bind_some h; obtain ⟨_, m1, l1, h1, h⟩ := h
  obtain ⟨hb, rfl, rfl⟩ := run_ck h1
  replace h := run_bind_some h; obtain ⟨z, m1, l1, h1, h⟩ := h
  obtain ⟨hz, rfl, rfl⟩ := run_op' h1
  obtain ⟨inf, zv, hi, hzv, _⟩ := zeroRow_ok (m := m1) (μ := G.μ) (h := Gh U w G) hz
  replace h := run_bind_some h; obtain ⟨rows, m2, l2, h2, h⟩ := h
  replace h := run_bind_some h; obtain ⟨_, m3, l3, h3, h⟩ := h
  simp only [run_pure, Option.some.injEq, Prod.mk.injEq] at h
  obtain ⟨rfl, rfl, _⟩ := h
  have hs1 := Nat.le_of_ble_eq_true hs1
  have hn := Nat.eq_of_beq_eq_true hn
  have hb := Nat.le_of_ble_eq_true hb
  have hu := elT_some he
  obtain ⟨G1, N1, t1, q1, hrl, hsz, hzip⟩ := sliceParts_ok (e := e) ps.toList hA.ok hA.out hT h2
  obtain ⟨hE1, ho1, hfr1⟩ := hA.took t1
  have hsz' : szT P e = inf.size := szT_eq hi
  have hrn : rows.length = n := by rw [hrl, hn]
  by_cases hn0 : n = 0
  · subst hn0
    have hps : ps.toList = [] := List.eq_nil_of_length_eq_zero hn
    have hrows : rows = [] := List.eq_nil_of_length_eq_zero hrn
    subst hrows
    have hpa : ps = #[] := by cases ps; simp_all
    subst hpa
    simp only [owRows] at q1
    obtain ⟨G2, hnx, hsim⟩ := newRows_ok (w1 := w) (cap := 0) (arr := #[]) (T := e) t1.ok ho1 hfr1 rfl (Keep.refl _ _) (k := k) (fl := flatT P e) (s := szT P e) (rows := []) (by rw [hE1, q1]; simp [owRows]) (by simp) (by simp) h3
    refine ⟨_, _, G2, ?_, Nx.after t1.le hnx, hsim⟩
    simp [Instr.buildSlice, run_underlying hu, sizeOf, typeInfo, hi, Instr.fill, newRow, Array.range_zero']
  · have hpos : ¬ n * inf.size = 0 := by
      rw [← hsz']
      intro e0
      rcases Nat.mul_eq_zero.1 e0 with e1 | e1 <;> omega
    have hsmall : ¬ n * inf.size > 2 ^ 24 := by rw [← hsz']; omega
    have hfill := Go.Great.fill_whole (s := szT P e) (by omega) (ps.toList.map fun x => a.eval x.2) ((Array.range (n * inf.size)).map (zv.cells[· % zv.cells.size]!)) hsz (by simp [← hsz']; rw [← hn]; simp)
    rw [← hzip] at hfill
    have hrun := run_buildSlice w t e n (ps.map fun x => (x.1, a.eval x.2)) _ inf zv hu hi hzv hsmall hpos (by rw [← hsz']; rw [← hsz'] at hfill; simpa [Array.toList_map] using hfill)
    have hcl : ((ps.toList.map fun x => a.eval x.2).flatMap fun v => v.cells.toList).length = n * szT P e := by
      have : ∀ (l : List Value), (∀ v ∈ l, v.cells.size = szT P e) → (l.flatMap fun v => v.cells.toList).length = l.length * szT P e := by
        intro l
        induction l with
        | nil => simp
        | cons v l ih =>
          intro hv
          simp only [List.flatMap_cons, List.length_append, List.length_cons, Nat.add_mul, Array.length_toList]
          rw [ih (fun u hu => hv u (by simp [hu])), hv v (by simp)]
          omega
      rw [this _ hsz]
      simp [← hn]
    obtain ⟨G2, hnx, hsim⟩ := newRows_ok (w1 := w) (cap := n) (arr := ((ps.toList.map fun x => a.eval x.2).flatMap fun v => v.cells.toList).toArray) (T := e) t1.ok ho1 hfr1 rfl (Keep.refl _ _) (k := k) (fl := flatT P e) (s := szT P e) (rows := rows) (by rw [hE1]; simpa using q1) (by omega) (by simp [hcl]) h3
    rw [hrn] at hsim
    exact ⟨_, _, G2, hrun, Nx.after t1.le hnx, hsim⟩
end
end Go.Vm
