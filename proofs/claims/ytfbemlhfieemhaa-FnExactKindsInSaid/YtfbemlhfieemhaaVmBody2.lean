/-
  A body: its results; every function's soundness.
-/
import Derived.Test.YtfbemlhfieemhaaVmBody
namespace Go.Vm
open Go

section
variable {base : Nat} {U : Nat → Prop} {w : World} {X : Ctx} {P : Program}

/-- what Go reads of one result -/
def resM (tmps : Array Value) : ResultVar → Sem Value
  | .tmp t => pure (tmps.getD t undef)
  | .cell a t => do loadVar t (← asAddr (tmps.getD a undef))

theorem run_mapM_list {α : Type} (f : α → Sem Value) : ∀ (l : List α) (gs : List Value), (∀ (i : Nat) x, l[i]? = some x → ∃ g, gs[i]? = some g ∧ (f x).run P w = .ok g w) → l.length = gs.length → (l.mapM f).run P w = .ok gs w
  | [], gs, _, hl => by
    have : gs = [] := List.length_eq_zero_iff.1 hl.symm
    subst this
    rfl
  | x :: l, gs, h, hl => by
    cases gs with
    | nil => simp at hl
    | cons g gs =>
      obtain ⟨g', h1, h2⟩ := h 0 x rfl
      simp only [List.getElem?_cons_zero, Option.some.injEq] at h1
      subst h1
      have ih := run_mapM_list f l gs (fun i y hy => by simpa using h (i + 1) y (by simpa using hy)) (by simpa using hl)
      rw [List.mapM_cons]
      simp only [Sem.run_bind, h2, Result.andThen_ok, ih]
      rfl

theorem results_run {fn : Func} {tmps : Array Value} {gs : List Value} (h : ∀ (i : Nat) x, fn.results.toList[i]? = some x → ∃ g, gs[i]? = some g ∧ (resM tmps x).run P w = .ok g w) (hl : fn.results.toList.length = gs.length) :
    (results fn tmps).run P w = .ok (retV gs) w := by
  have hm := run_mapM_list (P := P) (w := w) (resM tmps) fn.results.toList gs h hl
  have e : results fn tmps = (do
    let vs ← fn.results.mapM (resM tmps)
    pure (if h : vs.size = 1 then vs[0] else .tuple vs)) := by
    unfold results
    first
      | rfl
      | (congr 1; done)
      | (congr 1; congr 1; done)
  rw [e, Array.mapM_eq_mapM_toList]
  simp only [map_eq_pure_bind, Sem.run_bind, hm, Result.andThen_ok, Sem.run_pure]
  congr 1
  unfold retV
  cases gs with
  | nil => rfl
  | cons g gs => cases gs with
    | nil => simp
    | cons _ _ => simp

theorem resRow_ok {m : Mem} {G : GS} {tm : Tmps} {a : Act} {r : ResultVar} {t : TypeId} (hg : Gok base U w m G) (ho : G.out = []) (hT : simT G.μ m (Gh U w G) tm a) {row : Row} {m' : Mem} {l l' : Log} (h : (resRow P tm r t).run m l = some (row, m', l')) :
    ∃ G' N g cs, Took base U w m G m' G' N ∧ (resM a.tmps r).run P w = .ok g w ∧ valOf P t cs g ∧ owRow (heapOf w) (Gh U w G') row cs N ∧ row.length = cs.length := by
  cases r with
  | tmp x =>
    simp only [resRow] at h
    have hx := ev_ok (P := P) hT 0 (.tmp x)
    simp only [ev] at hx
    have hgo : ∀ v : V, simV G.μ m (Gh U w G) v (a.eval (.tmp x)) → aggT P t = false → (toRow [v]).run m l = some (row, m', l') →
        ∃ G' N g cs, Took base U w m G m' G' N ∧ (resM a.tmps (.tmp x)).run P w = .ok g w ∧ valOf P t cs g ∧ owRow (heapOf w) (Gh U w G') row cs N ∧ row.length = cs.length := by
      intro v hv ht h
      obtain ⟨G', N, t1, q1, hl⟩ := toRow_ok hg (vs := [v]) (gs := [a.eval (.tmp x)]) (by simp only [simVs]; exact ⟨_, _, rfl, hv, rfl⟩) ho h
      exact ⟨G', N, a.eval (.tmp x), [a.eval (.tmp x)], t1, rfl, by simp [valOf, ht], q1, by rw [hl]; rfl⟩
    cases ht : aggT P t with
    | true =>
      rw [ht] at h
      cases hv : getT x tm with
      | agg cs =>
        rw [hv] at h hx
        simp only [simV] at hx
        obtain ⟨arr, e, hs⟩ := hx
        obtain ⟨G', N, t1, q1, hl⟩ := toRow_ok hg hs ho h
        refine ⟨G', N, _, arr.toList, t1, rfl, ?_, q1, by rw [hl, simVs_length hs]⟩
        simp only [valOf, ht, if_true]
        exact e
      | _ => rw [hv] at h; exact (run_fail h).elim
    | false =>
      rw [ht] at h
      cases hv : getT x tm with
      | agg cs => rw [hv] at h; exact (run_fail h).elim
      | _ => rw [hv] at h hx; exact hgo _ hx ht h
  | cell y T =>
    simp only [resRow] at h
    have hx := ev_ok (P := P) hT 0 (.tmp y)
    simp only [ev] at hx
    split at h
    · rename_i r he
      rw [he] at hx
      replace h := run_bind_some h; obtain ⟨c, m2, l2, h2, h⟩ := h
      rw [run_rd] at h2
      cases h2
      cases hc : get r m with
      | none => rw [hc] at h; exact (run_fail h).elim
      | some c =>
        rw [hc] at h
        cases c with
        | arr _ _ _ _ _ => exact (run_fail h).elim
        | dead => exact (run_fail h).elim
        | box T' cs =>
          simp only at h
          replace h := run_bind_some h; obtain ⟨_, m2, l2, h2, h⟩ := h
          obtain ⟨hck, rfl, rfl⟩ := run_ck h2
          simp only [Bool.and_eq_true, Bool.or_eq_true] at hck
          obtain ⟨⟨hTt, hlen⟩, hok, hagg⟩ := hck
          have hTt := Nat.eq_of_beq_eq_true hTt
          have hlen := Nat.eq_of_beq_eq_true hlen
          subst hTt
          simp only [simV, hc] at hx
          obtain ⟨_, b, hμ, hg0⟩ := hx
          obtain ⟨b', arr, e1, e2, e3, e4⟩ := hg.cell r _ hc (by rw [ho]; simp)
          rw [hμ] at e1
          cases e1
          obtain ⟨G', N, t1, q1, hl⟩ := toRow_ok hg e3 ho h
          have hal := simVs_length e3
          obtain ⟨g, hvg⟩ : ∃ g, valOf P T arr.toList g := by
            unfold valOf
            cases ha : aggT P T with
            | true => exact ⟨_, rfl⟩
            | false =>
              have h1 : cs.length = 1 := by
                rcases hagg with h1 | h1
                · rw [ha] at h1; cases h1
                · exact Nat.eq_of_beq_eq_true h1
              cases hr : arr.toList with
              | nil => rw [hr] at hal; simp [h1] at hal
              | cons g r =>
                cases r with
                | nil => exact ⟨g, rfl⟩
                | cons _ _ => rw [hr] at hal; simp [h1] at hal
          refine ⟨G', N, g, arr.toList, t1, ?_, hvg, q1, by rw [hl, hal]⟩
          have hrun := run_loadAt (P := P) (w := w) (t := T) (b := b) (off := 0) (cs := arr.toList) (g := g) hok (by rw [hal, hlen]) (by
            intro j v hj
            have hH : w.heap[b]? = some (.cells arr T' (0, 0)) := e2
            simp only [World.cell?, hH, Nat.zero_add]
            simpa using hj) hvg
          simp only [resM]
          have hg0 : a.tmps.getD y undef = .pointer (some ⟨b, 0, none⟩) := hg0
          rw [hg0]
          simpa [Instr.loadAt, Instr.sureAddr, asAddr] using hrun
    · exact (run_fail h).elim

theorem resRows_ok {tm : Tmps} {a : Act} : ∀ {rs : List ResultVar} {ts : List TypeId} {m : Mem} {G : GS} (_ : Gok base U w m G) (_ : G.out = []) (_ : simT G.μ m (Gh U w G) tm a) {rows : List Row} {m' : Mem} {l l' : Log}
    (_ : (resRows P tm rs ts).run m l = some (rows, m', l')), ∃ G' N gs, Took base U w m G m' G' N ∧ (∀ (i : Nat) x, rs[i]? = some x → ∃ g, gs[i]? = some g ∧ (resM a.tmps x).run P w = .ok g w) ∧ rs.length = gs.length ∧
      retsS P (heapOf w) (Gh U w G') ts rows gs N
  | [], [], m, G, hg, ho, hT, rows, m', l, l', h => by
    simp only [resRows, run_pure, Option.some.injEq, Prod.mk.injEq] at h
    obtain ⟨rfl, rfl, rfl⟩ := h
    exact ⟨G, [], [], Took.same hg, fun i x h => by simp at h, rfl, rfl, rfl, rfl⟩
  | r :: rs, t :: ts, m, G, hg, ho, hT, rows, m', l, l', h => by
    simp only [resRows] at h
    replace h := run_bind_some h; obtain ⟨row, m1, l1, h1, h⟩ := h
    replace h := run_bind_some h; obtain ⟨rows', m2, l2, h2, h⟩ := h
    simp only [run_pure, Option.some.injEq, Prod.mk.injEq] at h
    obtain ⟨rfl, rfl, rfl⟩ := h
    obtain ⟨G1, N1, g, cs, t1, r1, v1, q1, e1⟩ := resRow_ok hg ho hT h1
    obtain ⟨G2, N2, gs, t2, r2, e2, q2⟩ := resRows_ok t1.ok (t1.out.trans ho) (fun t v hv => ⟨(hT t v hv).1, t1.le.simV (hT t v hv).2⟩) h2
    refine ⟨G2, N1 ++ N2, g :: gs, t1.trans t2, ?_, by simp [e2], row, rows', g, gs, cs, N1, N2, rfl, rfl, rfl, v1, owRow_keep t2.le.view q1, e1, q2⟩
    intro i x hx
    cases i with
    | zero =>
      simp only [List.getElem?_cons_zero, Option.some.injEq] at hx
      subst hx
      exact ⟨g, rfl, r1⟩
    | succ i => simpa using r2 i x (by simpa using hx)
  | [], _ :: _, _, _, _, _, _, _, _, _, _, h => (run_fail h).elim
  | _ :: _, [], _, _, _, _, _, _, _, _, _, h => (run_fail h).elim

/-- what a cell that came in has become -/
theorem kind_back {μ μ' : Nat → Value} {r : Nat} {c c' d : Cell} (hc : sameKind c c) (h : cellLe μ μ' r c c') (k : sameKind c' d) : μ' r = μ r ∧ sameKind c d := by
  cases c <;> cases c' <;> cases d <;> simp only [sameKind, cellLe] at hc h k ⊢
  · exact ⟨h.2, h.1.symm.trans k⟩
  · obtain ⟨a1, a2, a3, a4⟩ := k
    obtain ⟨b1, b2, b3⟩ := h
    obtain ⟨c1, _, _, _⟩ := hc
    have := b3 (c1.trans a1.symm)
    exact ⟨this.1, c1, a2, b2.symm.trans a3, this.2.symm.trans a4⟩
  all_goals trivial

theorem outs_back {μ μ' : Nat → Value} {m0 m1 : Mem} (hle : memLe μ m0 μ' m1) : ∀ {rs : List Nat} {cs ds : List Cell}, kinds m0 rs cs → kinds m1 rs ds → (∀ c, c ∈ cs → sameKind c c) → (∀ (i r : Nat) c, rs[i]? = some r → cs[i]? = some c → get r m0 = some c) → rs.map μ' = rs.map μ ∧ kindL cs ds
  | [], cs, ds, h, k, _, _ => by
    simp only [kinds] at h k
    subst h; subst k
    exact ⟨rfl, rfl⟩
  | r :: rs, cs, ds, ⟨c, c', cs', e1, h1, h2, h3⟩, ⟨d, d', ds', e2, k1, k2, k3⟩, hs, hg => by
    subst e1; subst e2
    have hc := hg 0 r c' rfl rfl
    obtain ⟨c2, q1, q2⟩ := hle r c' hc
    rw [k1] at q1
    cases q1
    obtain ⟨p1, p2⟩ := kind_back (hs c' (by simp)) q2 k2
    obtain ⟨r1, r2⟩ := outs_back hle h3 k3 (fun c hc => hs c (by simp [hc])) (fun i r c hr hc => hg (i + 1) r c (by simpa using hr) (by simpa using hc))
    exact ⟨by simp [p1, r1], d', ds', rfl, p2, r2⟩
theorem cellsB_same {H : Heap} {h : View} : ∀ {cs : List Cell} {gs : List Value} {N : List Nat}, cellsB H h cs gs N → ∀ c, c ∈ cs → sameKind c c
  | [], _, _, _, c, hc => by simp at hc
  | c :: cs, _, _, ⟨g, gs', N1, N2, e, _, q1, q2⟩, d, hd => by
    rcases List.mem_cons.1 hd with rfl | hd
    · exact cellB_same q1
    · exact cellsB_same q2 d hd

theorem leave_ok {f : Nat} {fn : Func} {args : List V} {cells outs : List Cell} {gargs gcells : List Value} {N1 N2 : List Nat} {w' : World} (hG : Given X base U w f args cells gargs gcells N1 N2) {S : St} {G : GS} {a : Act} {nt : Nat}
    (R : Rel base U (N1 ++ N2) w (impμ gcells) (impMem 0 cells) nt w' S G a) {rows : List Row} (h : leave X fn cells.length S = some (rows, outs)) :
    ∃ gs M1 M2, (results fn a.tmps).run X.P w' = .ok (retV gs) w' ∧ Did X.P U w w' (N1 ++ N2) fn.resultTypes.toList cells outs gcells rows gs M1 M2 := by
  simp only [leave] at h
  split at h
  · rename_i r m' l' hr
    simp only [Option.some.injEq] at h
    subst h
    replace hr := run_bind_some hr; obtain ⟨rows1, m1, l1, h1, hr⟩ := hr
    replace hr := run_bind_some hr; obtain ⟨cs1, m2, l2, h2, hr⟩ := hr
    simp only [run_pure, Option.some.injEq, Prod.mk.injEq] at hr
    obtain ⟨⟨rfl, rfl⟩, rfl, rfl⟩ := hr
    obtain ⟨G1, Nr, gs, t1, r1, e1, q1⟩ := resRows_ok R.at_.ok R.at_.out R.tm h1
    have ho1 : G1.out = [] := t1.out.trans R.at_.out
    obtain ⟨G2, Nc, t2, q2, kd2⟩ := expAll_ok t1.ok (impKeys_nodup cells.length) (fun r hr => ⟨hr, by rw [ho1]; simp⟩) (fun r hr => by rw [ho1] at hr; simp at hr) h2
    have hE2 : G2.E = Nr ++ Nc := by rw [t2.E, t1.E, R.at_.E]; rfl
    have hlen := cellsB_length hG.cells
    have hk0 : kinds (impMem 0 cells) (impKeys cells.length) cells := by
      rw [impKeys_eq]
      exact kinds_imp (fun i => by rw [Nat.zero_add]; exact get_impMem0 cells i) hG.cells
    obtain ⟨b1, b2⟩ := outs_back (memLe_trans R.imp t1.le.mem) hk0 kd2 (cellsB_same hG.cells) (by
      intro i r c hr hc
      have hi : i < cells.length := (List.getElem?_eq_some_iff.1 hc).1
      rw [impKeys_get hi] at hr
      cases hr
      rw [get_impMem0]; exact hc)
    have hv : (Gh U w' G2).le (view w' U (· ∈ Nc ++ Nr)) := view_le (fun _ x => x) (fun b hb => .inl (by rw [hE2]; simp only [List.mem_append] at hb ⊢; exact hb.symm))
    refine ⟨gs, Nc, Nr, results_run r1 e1, R.at_.fr.keep, ?_, ?_, b2, ?_, ?_⟩
    · have := t2.ok.ndE
      rw [hE2] at this
      exact (List.perm_append_comm.nodup_iff).1 this
    · intro b hb
      have hbE : b ∈ G2.E := by rw [hE2]; simp only [List.mem_append] at hb ⊢; exact hb.symm
      exact ⟨R.at_.fr.fr b (t1.le.ex b (t2.le.ex b (.inl hbE))), (t2.ok.lt b (.inl hbE)).1⟩
    · rw [b1, ← hlen, impKeys_map] at q2
      exact cellsB_grow hv q2
    · exact retsS_mono (t2.le.view.trans' hv) (fun _ _ => rfl) q1
  · cases h

theorem body_ok {K : Kont} (hK : Sound X K) {f : FuncId} {fn : Func} {args : List V} {cells : List Cell} {rows : List Row} {outs : List Cell} (hf : X.P.funcs[f]? = some fn) (h : body X K f args cells = some (rows, outs))
    {gargs gcells : List Value} {N1 N2 : List Nat} (hG : Given X base U w f args cells gargs gcells N1 N2) :
    Calls X.P f gargs.toArray w fun e w' => ∃ gs M1 M2, e = .returned (retV gs) ∧ Did X.P U w w' (N1 ++ N2) fn.resultTypes.toList cells outs gcells rows gs M1 M2 := by
  simp only [body, hf] at h
  cases hb : fn.body with
  | none => simp [hb] at h
  | some c =>
    simp only [hb] at h
    cases hn : (Nat.ble cells.length impBase && Nat.ble args.length fn.ntmps) with
    | false => simp [hn] at h
    | true =>
      simp only [hn, Bool.not_true, cond_false] at h
      simp only [Bool.and_eq_true] at hn
      have hn1 := Nat.le_of_ble_eq_true hn.1
      have hn2 := Nat.le_of_ble_eq_true hn.2
      split at h
      · rename_i tm m' l' he
        obtain ⟨G, R⟩ := entry_ok hG he hn2
        have hM : ∀ r c, get r (impMem 0 cells) = some c → impKey r = true := by
          intro r c hr
          obtain ⟨i, e, hi⟩ := get_impMem_some hr
          have hil : i < cells.length := (List.getElem?_eq_some_iff.1 hi).1
          subst e
          simp only [impKey, Bool.and_eq_true]
          exact ⟨Nat.ble_eq_true_of_le (by omega), by rw [Nat.blt_eq]; omega⟩
        have hnt : ntOf X.P f = fn.ntmps := by simp [ntOf, hf]
        have hreg := region_ok (base := base) (U := U) (M0 := N1 ++ N2) (w0 := w) (ν := impμ gcells) hK hnt hM
        have hfin : ∀ ex S, leave X fn cells.length S = some (rows, outs) → (ex = Ex.normal ∨ ex = Ex.ret) → ∀ w' G' a', Rel base U (N1 ++ N2) w (impμ gcells) (impMem 0 cells) fn.ntmps w' S G' a' → (Gh U w G).le (Gh U w' G') →
            bodyPost X.P fn (fun e w' => ∃ gs M1 M2, e = .returned (retV gs) ∧ Did X.P U w w' (N1 ++ N2) fn.resultTypes.toList cells outs gcells rows gs M1 M2) (exOf ex) a' w' := by
          intro ex S hl hex w' G' a' R' _
          obtain ⟨gs, M1, M2, hr, hd⟩ := leave_ok hG R' hl
          rcases hex with rfl | rfl <;> exact ⟨R'.defers, _, hr, gs, M1, M2, rfl, hd⟩
        split at h
        · rename_i S hd
          exact calls_of_wp hf hb (den_ok hreg c R hd (hfin _ _ h (.inl rfl)))
        · rename_i S hd
          exact calls_of_wp hf hb (den_ok hreg c R hd (hfin _ _ h (.inr rfl)))
        · cases h
      · cases h
end

/-- the primitives keep to their contracts -/
def PrimOk (X : Ctx) : Prop := ∀ (f : FuncId) (p : List V → List Cell → Option (List Row × List Cell)) (fn : Func) (args : List V) (cells : List Cell) (rows : List Row) (outs : List Cell), X.prim f = some p → X.P.funcs[f]? = some fn → fn.body.isSome = true → p args cells = some (rows, outs) →
  ∀ (base : Nat) (U : Nat → Prop) (w : World) (gargs gcells : List Value) (N1 N2 : List Nat), Given X base U w f args cells gargs gcells N1 N2 →
    Calls X.P f gargs.toArray w fun e w' => ∃ gs M1 M2, e = .returned (retV gs) ∧ Did X.P U w w' (N1 ++ N2) fn.resultTypes.toList cells outs gcells rows gs M1 M2
theorem callN_ok {X : Ctx} (hp : PrimOk X) : ∀ n, Sound X (callN X n)
  | 0 => by
    intro f fn args cells rows outs hf hb h
    simp [callN] at h
  | n + 1 => by
    intro f fn args cells rows outs hf hb h base U w gargs gcells N1 N2 hG
    simp only [callN] at h
    cases hx : X.prim f with
    | some p =>
      rw [hx] at h
      exact hp f p fn args cells rows outs hx hf hb h base U w gargs gcells N1 N2 hG
    | none =>
      rw [hx] at h
      exact body_ok (callN_ok hp n) hf h hG
theorem call_ok {X : Ctx} (hp : PrimOk X) : Sound X (call X) := by
  intro f fn args cells rows outs hf hb h base U w gargs gcells N1 N2 hG
  obtain ⟨n, hn⟩ := lim_some h
  exact callN_ok hp n f fn args cells rows outs hf hb hn base U w gargs gcells N1 N2 hG
end Go.Vm
