/-
  A slice in an array's row that is handed on to be written.
-/
import Derived.Test.YtfbemlhfieemhaaVmDraw3
namespace Go.Vm
open Go

theorem flat_ow {H : Heap} {h : View} {x : D} {v : Value} {N : List Nat} (hf : x.flat = true) (q : ow H h x v N) : N = [] ∧ ro h x v := by
  cases x with
  | sl o s rows => simp [D.flat] at hf
  | _ => simp only [ow] at q; exact ⟨q.2, by simp only [ro]; exact q.1⟩
theorem flat_owRow {H : Heap} {h : View} : ∀ {r : Row} {cs : List Value} {N : List Nat}, r.all D.flat = true → owRow H h r cs N → N = [] ∧ seenRow h r cs
  | [], cs, N, _, q => by simp only [owRow] at q; exact ⟨q, trivial⟩
  | x :: r, cs, N, hf, q => by
    simp only [owRow] at q
    obtain ⟨v, cs', N1, N2, rfl, rfl, q1, q2⟩ := q
    simp only [List.all_cons, Bool.and_eq_true] at hf
    obtain ⟨rfl, h1⟩ := flat_ow hf.1 q1
    obtain ⟨rfl, h2⟩ := flat_owRow hf.2 q2
    exact ⟨rfl, v, cs', rfl, h1, h2⟩
theorem flat_owRows {H : Heap} {h : View} {s : Nat} : ∀ {rs : List Row} {cs : List Value} {N : List Nat}, flatRows rs = true → owRows H h s rs cs N → N = [] ∧ seenRows h s rs cs
  | [], cs, N, _, q => by simp only [owRows] at q; exact ⟨q, trivial⟩
  | r :: rs, cs, N, hf, q => by
    simp only [owRows] at q
    obtain ⟨hl, N1, N2, rfl, q1, q2⟩ := q
    simp only [flatRows, List.all_cons, Bool.and_eq_true] at hf
    obtain ⟨rfl, h1⟩ := flat_owRow hf.1 q1
    obtain ⟨rfl, h2⟩ := flat_owRows (rs := rs) hf.2 q2
    exact ⟨rfl, hl, h1, h2⟩
theorem ow_arrS' {H : Heap} {h : View} {fl : Bool} {s : Nat} {rows : List Row} {v : Value} {N : List Nat} (ho : outOk fl rows = true) (q : ow H h (.sl true s rows) v N) : arrS H h fl s rows v N := by
  cases fl with
  | false => exact ow_arrS q
  | true =>
    simp only [ow] at q
    rcases q with q | ⟨b, cap, cs, t, N', h1, h2, h3, h4, h5, rfl⟩
    · exact .inl q
    · obtain ⟨rfl, h6⟩ := flat_owRows (by simpa [outOk] using ho) h5
      exact .inr ⟨b, cap, cs, t, [], h1, h2, h3, h4, ⟨h6, rfl⟩, rfl⟩

/-- one cell of a row apart from the others -/
theorem owRow_at {H : Heap} {h : View} {row : Row} {cs : List Value} {N : List Nat} {j : Nat} {x : D} (q : owRow H h row cs N) (hx : row[j]? = some x) :
    ∃ g Na N1 Nb, cs[j]? = some g ∧ N = Na ++ N1 ++ Nb ∧ ow H h x g N1 ∧
      ∀ (H' : Heap) (h' : View) (x' : D) (N' : List Nat), h.le h' → (∀ b, b ∈ Na ++ Nb → H' b = H b) → ow H' h' x' g N' → owRow H' h' (splice row j [x']) cs (Na ++ N' ++ Nb) := by
  obtain ⟨e1, e2⟩ := set_eq_take (b := x) hx
  have hjl := (List.getElem?_eq_some_iff.1 hx).1
  rw [e2] at q
  obtain ⟨Na, Nr, rfl, qa, qr⟩ := owRow_append.1 q
  have l1 : (row.take j).length = j := by simp; omega
  rw [l1] at qr
  simp only [owRow] at qr
  obtain ⟨g, cs', N1, Nb, ec, rfl, q1, qb⟩ := qr
  refine ⟨g, Na, N1, Nb, ?_, by simp, q1, ?_⟩
  · have : (cs.drop j)[0]? = some g := by rw [ec]; rfl
    simpa using this
  · intro H' h' x' N' hl hH q'
    have hs : splice row j [x'] = row.take j ++ (x' :: row.drop (j + 1)) := by simp [splice]
    rw [hs, List.append_assoc, owRow_append]
    refine ⟨Na, N' ++ Nb, rfl, owRow_mono hl _ _ _ (fun b hb => hH b (by simp [hb])) qa, ?_⟩
    rw [l1, ec]
    simp only [owRow]
    exact ⟨g, cs', N', Nb, rfl, rfl, q', owRow_mono hl _ _ _ (fun b hb => hH b (by simp [hb])) qb⟩
theorem owRows_at {H : Heap} {h : View} {s : Nat} {rows : List Row} {cs : List Value} {N : List Nat} {i : Nat} {row : Row} (q : owRows H h s rows cs N) (hi : rows[i]? = some row) :
    ∃ Na N1 Nb, N = Na ++ N1 ++ Nb ∧ row.length = s ∧ owRow H h row (cs.drop (i * s)) N1 ∧
      ∀ (H' : Heap) (h' : View) (row' : Row) (N' : List Nat), h.le h' → (∀ b, b ∈ Na ++ Nb → H' b = H b) → row'.length = s → owRow H' h' row' (cs.drop (i * s)) N' → owRows H' h' s (rows.set i row') cs (Na ++ N' ++ Nb) := by
  have hil := (List.getElem?_eq_some_iff.1 hi).1
  have e2 := (set_eq_take (b := row) hi).2
  rw [e2] at q
  obtain ⟨Na, Nr, rfl, qa, qr⟩ := owRows_append.1 q
  have l1 : (rows.take i).length = i := by simp; omega
  rw [l1] at qr
  simp only [owRows] at qr
  obtain ⟨hl, N1, Nb, rfl, q1, qb⟩ := qr
  refine ⟨Na, N1, Nb, by simp, hl, q1, ?_⟩
  intro H' h' row' N' hle hH hl' q'
  rw [(set_eq_take (b := row') hi).1, List.append_assoc, owRows_append]
  refine ⟨Na, N' ++ Nb, rfl, owRows_mono hle s _ _ _ (fun b hb => hH b (by simp [hb])) qa, ?_⟩
  rw [l1]
  simp only [owRows]
  exact ⟨hl', N', Nb, rfl, q', owRows_mono hle s _ _ _ (fun b hb => hH b (by simp [hb])) qb⟩

theorem fuseOut_some {e : Nat} {fl : Bool} {out : List Row × List Cell} {q : IntKind × Int × Bool × Nat × List Row} (h : fuseOut out = some q) (hc : fuseCk e fl q = true) :
    out = ([[.int q.1 q.2.1]], [.arr false fl 0 e q.2.2.2.2]) ∧ outOk fl q.2.2.2.2 = true ∧ pureRows q.2.2.2.2 = true := by
  unfold fuseOut at h
  split at h
  · rename_i k n fl' s' rs'
    simp only [Option.some.injEq] at h
    subst h
    simp only [fuseCk, Bool.and_eq_true, beq_iff_eq] at hc
    obtain ⟨h1, rfl, h3, h4⟩ := hc
    have h1 := Nat.eq_of_beq_eq_true h1
    subst h1
    exact ⟨rfl, h3, h4⟩
  · cases h

section
variable {base : Nat} {U : Nat → Prop} {M0 : List Nat} {w0 w : World} {ν : Nat → Value} {M : Mem} {nt : Nat} {S S' : St} {G : GS} {a : Act} {X : Ctx} {K : Kont} {fn : Nat}

theorem twoTs_some {args : Array Operand} {d1 d2 : Nat} (h : twoTs args d1 d2 = true) : args = #[.tmp d1, .tmp d2] := by
  unfold twoTs at h
  split at h
  · rename_i a b he
    simp only [Bool.and_eq_true] at h
    have h1 := Nat.eq_of_beq_eq_true h.1
    have h2 := Nat.eq_of_beq_eq_true h.2
    subst h1; subst h2
    cases args
    simp at he
    rw [he]
  · cases h

theorem fuse_ok (hK : Sound X K) (R : Rel base U M0 w0 ν M nt w S G a) {ops : Array Oper} {p : Nat} {rest : List Nat} {Q : Exit → Act → World → Prop} (hnt : ntOf X.P fn = nt) (h : runFuse X K fn ops p S = some S')
    (hn : ∀ w' G' a', Rel base U M0 w0 ν M nt w' S' G' a' → (Gh U w G).le (Gh U w' G') → wpOps X.P ops Q rest a' w') : wpOps X.P ops Q (p :: (p + 1) :: (p + 2) :: rest) a w := by
  simp only [runFuse] at h
  cases ho1 : ops[p]? with
  | none => simp [ho1] at h
  | some o1 =>
  cases ho2 : ops[p + 1]? with
  | none => simp [ho1, ho2] at h
  | some o2 =>
  cases ho3 : ops[p + 2]? with
  | none => simp [ho1, ho2, ho3] at h
  | some o3 =>
  simp only [ho1, ho2, ho3] at h
  cases hr : (fuseOp X K S.tm o1 o2 o3).run S.mem .none with
  | none => simp [hr] at h
  | some r =>
  obtain ⟨⟨d1, d2, kv, v⟩, m', l'⟩ := r
  simp only [hr] at h
  cases hd : (Nat.blt d1 (ntOf X.P fn) && (Nat.blt d2 (ntOf X.P fn) && dstOk (ntOf X.P fn) o3.dst)) with
  | false => simp [hd] at h
  | true =>
  simp only [hd, cond_true, Option.some.injEq] at h
  subst h
  simp only [Bool.and_eq_true] at hd
  obtain ⟨hd1, hd2, hd3⟩ := hd
  rw [hnt] at hd1 hd2 hd3
  rw [Nat.blt_eq] at hd1 hd2
  unfold fuseOp at hr
  split at hr
  case h_2 => exact (run_fail hr).elim
  case h_1 d1' t ta ty1 p1 af1 d2' x ty2 p2 af2 dst3 f args tys ty3 p3 af3 =>
  replace hr := run_bind_some hr; obtain ⟨_, m1, l1, h1, hr⟩ := hr
  obtain ⟨hck, rfl, rfl⟩ := run_ck h1
  simp only [Bool.and_eq_true, Bool.not_eq_true'] at hck
  obtain ⟨hne, hargs, hoff, hok, hsz, hagg, hf⟩ := hck
  have hargs := twoTs_some hargs
  subst hargs
  replace hr := run_bind_some hr; obtain ⟨e, m1, l1, h1, hr⟩ := hr
  obtain ⟨he, rfl, rfl⟩ := run_op' h1
  split at hr
  case h_2 => exact (run_fail hr).elim
  case h_1 r ver i off k n hga hkv =>
  replace hr := run_bind_some hr; obtain ⟨c, m2, l2, h2, hr⟩ := hr
  rw [run_rd] at h2
  cases h2
  cases hc : get r S.mem with
  | none => rw [hc] at hr; exact (run_fail hr).elim
  | some c =>
  rw [hc] at hr
  split at hr
  case h_2 => exact (run_fail hr).elim
  case h_1 _ ver' s rows hcc =>
  cases hcc
  replace hr := run_bind_some hr; obtain ⟨_, m2, l2, h2, hr⟩ := hr
  obtain ⟨hv, rfl, rfl⟩ := run_ck h2
  simp only [Bool.and_eq_true] at hv
  have hver := Nat.eq_of_beq_eq_true hv.1
  subst hver
  have hoffs := Nat.le_of_ble_eq_true hv.2
  replace hr := run_bind_some hr; obtain ⟨row, m2, l2, h2, hr⟩ := hr
  obtain ⟨hrow, rfl, rfl⟩ := run_op' h2
  replace hr := run_bind_some hr; obtain ⟨rs, m2, l2, h2, hr⟩ := hr
  obtain ⟨hown, rfl, rfl⟩ := run_op' h2
  replace hr := run_bind_some hr; obtain ⟨_, m2, l2, h2, hr⟩ := hr
  obtain ⟨hout1, rfl, rfl⟩ := run_ck h2
  replace hr := run_bind_some hr; obtain ⟨out, m2, l2, h2, hr⟩ := hr
  obtain ⟨hKc, rfl, rfl⟩ := run_op' h2
  replace hr := run_bind_some hr; obtain ⟨q, m2, l2, h2, hr⟩ := hr
  obtain ⟨hq, rfl, rfl⟩ := run_op' h2
  replace hr := run_bind_some hr; obtain ⟨_, m2, l2, h2, hr⟩ := hr
  obtain ⟨hqc, rfl, rfl⟩ := run_ck h2
  obtain ⟨rfl, hout2, hpure⟩ := fuseOut_some hq hqc
  replace hr := run_bind_some hr; obtain ⟨_, m2, l2, h2, hr⟩ := hr
  rw [run_wr] at h2
  cases h2
  simp only [run_pure, Option.some.injEq, Prod.mk.injEq] at hr
  obtain ⟨⟨rfl, rfl, rfl, rfl⟩, rfl, _⟩ := hr
  -- the address
  have ha := ev_ok (P := X.P) R.tm 0 (.tmp ta)
  simp only [ev] at ha
  rw [hga] at ha
  simp only [simV, hc] at ha
  obtain ⟨_, _, hptr⟩ := ha
  obtain ⟨b, n0, cap0, hμ, hadr⟩ := hptr trivial
  -- the array
  have hcell : arrS (heapOf w) (Gh U w G) false s rows (G.μ r) (G.F r) := R.at_.ok.cell r _ hc (by rw [R.at_.out]; simp)
  rcases hcell with ⟨hnil, _, _⟩ | ⟨b', cap, cs, tt, N', hμ', hcap, hH, hsize, hrows, hF⟩
  · rw [hnil] at hrow; simp at hrow
  rw [hμ] at hμ'
  simp only [Value.slice.injEq, Option.some.injEq, Addr.mk.injEq] at hμ'
  obtain ⟨⟨rfl, _, _⟩, rfl, rfl⟩ := hμ'
  simp only at hrows
  obtain ⟨Na, Nrow, Nb, hN', hlen, qrow, putRow⟩ := owRows_at hrows hrow
  -- the cell
  have hx1 := asOwn_some (by simpa [cOwn] using hown)
  have hx : row[off]? = some (.sl true (szT X.P e) rs) := nth_get hx1 (by simp)
  obtain ⟨g, Nca, Nc, Ncb, hcs, hNrow, qow, putCell⟩ := owRow_at qrow hx
  have hcs' : cs.toList[i * s + off]? = some g := by simpa using hcs
  have hcellw : w.cell? ⟨b, i * s + off, none⟩ = some g := by
    have := full_cell hH (i * s + off)
    rw [hcs'] at this
    exact this
  -- the load
  have hszv := Nat.eq_of_beq_eq_true hsz
  have hload : (Instr.loadAt t (a.eval (.tmp ta))).run X.P w = .ok g w := by
    rw [hadr]
    refine run_loadAt (cs := [g]) hok (by rw [hszv]; rfl) (fun j v hj => ?_) (by simp [valOf, hagg])
    cases j with
    | zero =>
      simp only [List.getElem?_cons_zero, Option.some.injEq] at hj
      subst hj
      simpa using hcellw
    | succ j => simp at hj
  have R1 := R.put (v := .undef) (g := g) (dst := some d1') R.at_.nx trivial (by simpa [dstOk] using hd1)
  -- the move
  have hkv1 : ev X.P (put d1' .undef S.tm) ty2 x = .d (.int k n) := by
    rw [← hkv]
    cases x with
    | tmp j =>
      simp only [offT, Bool.not_eq_true'] at hoff
      simp only [ev, getT]
      rw [get_put_other]
      intro e
      subst e
      simp at hoff
    | _ => rfl
  have hm1 := ev_ok (P := X.P) R1.tm ty2 x
  simp only [putT] at hm1
  rw [hkv1] at hm1
  have R2 := R1.put (v := .d (.int k n)) (dst := some d2') R1.at_.nx hm1 (by simpa [dstOk] using hd2)
  simp only [putT] at R1 R2
  have hgv : (a.put (some d1') g).eval x = .int k n := by simpa [simV, ro] using hm1
  -- the slots of the call's arguments
  have hd12 : d1' ≠ d2' := by
    intro e
    subst e
    simp at hne
  have hs1 : ((a.put (some d1') g).put (some d2') ((a.put (some d1') g).eval x)).eval (.tmp d1') = g := by
    simp only [Act.eval, Act.put]
    rw [Array.getD_eq_getD_getElem?, Array.getElem?_setIfInBounds_ne (Ne.symm hd12)]
    rw [Array.getElem?_setIfInBounds_self_of_lt (by rw [R.size]; exact hd1)]
    rfl
  have hs2 : ((a.put (some d1') g).put (some d2') ((a.put (some d1') g).eval x)).eval (.tmp d2') = .int k n := by
    rw [← hgv]
    simp only [Act.eval, Act.put]
    rw [Array.getD_eq_getD_getElem?, Array.getElem?_setIfInBounds_self_of_lt (by simp [R.size]; exact hd2)]
    rfl
  -- the function
  simp only [fuseF, Bool.and_eq_true] at hf
  obtain ⟨⟨hmo0, hmo1⟩, hfun⟩ := hf
  have hmo0 := Nat.eq_of_beq_eq_true hmo0
  have hmo1 := Nat.eq_of_beq_eq_true hmo1
  cases hg : X.P.funcs[f]? with
  | none => simp [hg] at hfun
  | some fnc =>
  simp only [hg, Bool.and_eq_true, Bool.not_eq_true'] at hfun
  obtain ⟨⟨hbody, hname⟩, hres⟩ := hfun
  cases hrt : fnc.resultTypes.toList with
  | nil => simp [hrt] at hres
  | cons rt rts =>
  cases rts with
  | cons _ _ => simp [hrt] at hres
  | nil =>
  simp only [hrt, Bool.not_eq_true'] at hres
  have hFd : G.F r = b :: (Na ++ (Nca ++ Nc ++ Ncb) ++ Nb) := by rw [hF, hN', hNrow]
  have hndF := R.at_.ok.nd r
  rw [hFd] at hndF
  have hsub : ∀ y, y ∈ Nc → y ∈ G.F r := fun y hy => by rw [hFd]; simp [hy]
  have hgiven : Given X base U w f [.own impBase 0, .d (.int k n)] [.arr false (flatT X.P e) 0 (szT X.P e) rs] [g, .int k n] [g] [] Nc := by
    have hndc : Nc.Nodup := by
      have h1 := (List.nodup_cons.1 hndF).2
      have h2 := (List.nodup_append.1 (List.nodup_append.1 h1).1).2.1
      exact (List.nodup_append.1 (List.nodup_append.1 h2).1).2.1
    have hv : (Gh U w G).le (view w U (· ∈ [] ++ Nc)) := view_le (fun _ x => x) (fun y hy => .inr ⟨r, hsub y (by simpa using hy)⟩)
    refine ⟨by simpa using hndc, fun y hy => R.at_.ok.lt y (.inr ⟨r, hsub y (by simpa using hy)⟩), R.at_.ok.up, R.at_.ok.bs, ?_, ?_⟩
    · have hsl : isSl g := by
        simp only [ow] at qow
        rcases qow with ⟨_, rfl, _⟩ | ⟨_, _, _, _, _, rfl, _⟩ <;> exact ⟨_, _, _, rfl⟩
      simp only [mixS, hmo0, hmo1]
      refine ⟨g, [.int k n], [], [], rfl, rfl, ⟨rfl, ?_⟩, .int k n, [], [], [], rfl, rfl, ⟨rfl, by simp [simV, ro]⟩, rfl, rfl⟩
      simp [simV, hsl, impMem, get, impμ]
    · exact ⟨g, [], Nc, [], rfl, by simp, ⟨rfl, rfl, arrS_mono hv (fun _ _ => rfl) (ow_arrS' hout1 qow)⟩, rfl, rfl⟩
  -- the run
  rw [wpOps_cons]
  unfold wpOp
  simp only [ho1, Region.wanted, if_true]
  refine .inl (wp_value (g := g) (w' := w) (by simp [execOp, hload]) ?_)
  rw [wpOps_cons]
  unfold wpOp
  simp only [ho2, Region.wanted, if_true]
  refine .inl (wp_value (w' := w) (by simp [execOp]; rfl) ?_)
  rw [wpOps_cons]
  unfold wpOp
  simp only [ho3, Region.wanted, if_true]
  left
  unfold Oper.wp
  have hrun : (execOp ((a.put (some d1') g).put (some d2') ((a.put (some d1') g).eval x)).eval ⟨dst3, .call ⟨.value (.func f), #[.tmp d1', .tmp d2'], tys⟩, ty3, p3, af3, none⟩).run X.P w = .ok (.enter f #[g, .int k n]) w := by
    have hnm : fnc.name ≠ "runtime.NumGoroutine" := by
      intro hh
      simp [hh] at hname
    have hbn : fnc.body ≠ none := by
      intro hh
      simp [hh] at hbody
    have e1 : (#[Operand.tmp d1', Operand.tmp d2'].map ((a.put (some d1') g).put (some d2') ((a.put (some d1') g).eval x)).eval) = #[g, .int k n] := by
      simp [hs1, hs2]
    have ef : ((a.put (some d1') g).put (some d2') ((a.put (some d1') g).eval x)).eval (.func f) = .func (.func f) #[] #[] := rfl
    simp only [execOp, resolve, ef, e1, Deferred.ofValue, Sem.run_bind, Sem.run_pure, Result.andThen_ok, invoke]
    simp [callFunc, hg, hnm, hbn]
  rw [hrun, Oper.upon_enter]
  refine Calls.mono (hK f fnc _ _ _ _ hg hbody hKc base U w [g, .int k n] [g] [] Nc hgiven) ?_
  rintro e w' ⟨gs, M1, M2, rfl, D⟩
  have hDr := D.res
  rw [hrt] at hDr
  simp only [retsS] at hDr
  obtain ⟨row0, rows0, g0, gs0, cs0, P1, P2, e1, e2, eM, hv0, ho0, hl0, e3, e4, e5⟩ := hDr
  simp only [List.cons.injEq] at e1
  obtain ⟨rfl, rfl⟩ := e1
  subst e4
  subst e2
  simp only [valOf, hres, Bool.false_eq_true, if_false] at hv0
  subst hv0
  simp only [owRow, ow] at ho0
  obtain ⟨v0, cs', Q1, Q2, e6, eQ, ⟨rfl, hQ1⟩, hQ2⟩ := ho0
  simp only [List.cons.injEq] at e6
  obtain ⟨rfl, _⟩ := e6
  have hM2 : M2 = [] := by rw [eM, eQ, hQ1, hQ2, e5]; rfl
  obtain ⟨g1, gs1, C1, C2, e7, e8, hcb, hcn⟩ := D.cells
  simp only [List.cons.injEq] at e7
  obtain ⟨rfl, rfl⟩ := e7
  obtain ⟨_, hC2⟩ := hcn
  obtain ⟨_, _, harr⟩ := hcb
  have hM1 : M1 = C1 := by rw [e8, hC2]; simp
  subst hM1
  have hkeepF : Keep (G.F r) w w' := ⟨D.keep.os, D.keep.tape, D.keep.output, D.keep.size, fun y hy hn' => D.keep.block y hy (fun h' => hn' (hsub y (by simpa using h')))⟩
  have hM1m : ∀ y, y ∈ M1 → (y ∈ Nc ∨ w.heap.size ≤ y) ∧ y < w'.heap.size := fun y hy => by
    have := D.mem y (by simp [hy])
    simpa using this
  have hM1n : M1.Nodup := by have := D.nd; rw [hM2] at this; simpa using this
  have hltF : ∀ y, y ∈ G.F r → y < w.heap.size := fun y hy => (R.at_.ok.lt y (.inr ⟨r, hy⟩)).1
  have hother : ∀ y, y ∈ G.F r → y ∉ Nc → w'.heap[y]? = w.heap[y]? := fun y hy hn' => D.keep.block y (hltF y hy) (by simpa using hn')
  have hnew : (b :: (Na ++ (Nca ++ M1 ++ Ncb) ++ Nb)).Nodup := by
    have hperm : (b :: (Na ++ (Nca ++ M1 ++ Ncb) ++ Nb)).Perm ((b :: (Na ++ (Nca ++ Ncb) ++ Nb)) ++ M1) := by
      refine List.Perm.trans (List.Perm.cons b ?_) (by rw [List.cons_append])
      have h1 : (Nca ++ M1 ++ Ncb).Perm ((Nca ++ Ncb) ++ M1) := by
        rw [List.append_assoc, List.append_assoc]
        exact List.Perm.append_left _ List.perm_append_comm
      have h2 : (Na ++ (Nca ++ M1 ++ Ncb) ++ Nb).Perm (Na ++ ((Nca ++ Ncb) ++ M1) ++ Nb) := List.Perm.append_right _ (List.Perm.append_left _ h1)
      refine h2.trans ?_
      rw [← List.append_assoc Na, List.append_assoc _ M1 Nb, List.append_assoc _ Nb M1]
      exact List.Perm.append_left _ List.perm_append_comm
    rw [hperm.nodup_iff]
    have hold : (b :: (Na ++ (Nca ++ Ncb) ++ Nb)).Nodup ∧ ∀ y, y ∈ (b :: (Na ++ (Nca ++ Ncb) ++ Nb)) → y ∉ Nc := by
      have hperm2 : (b :: (Na ++ (Nca ++ Nc ++ Ncb) ++ Nb)).Perm ((b :: (Na ++ (Nca ++ Ncb) ++ Nb)) ++ Nc) := by
        refine List.Perm.trans (List.Perm.cons b ?_) (by rw [List.cons_append])
        have h1 : (Nca ++ Nc ++ Ncb).Perm ((Nca ++ Ncb) ++ Nc) := by
          rw [List.append_assoc, List.append_assoc]
          exact List.Perm.append_left _ List.perm_append_comm
        have h2 : (Na ++ (Nca ++ Nc ++ Ncb) ++ Nb).Perm (Na ++ ((Nca ++ Ncb) ++ Nc) ++ Nb) := List.Perm.append_right _ (List.Perm.append_left _ h1)
        refine h2.trans ?_
        rw [← List.append_assoc Na, List.append_assoc _ Nc Nb, List.append_assoc _ Nb Nc]
        exact List.Perm.append_left _ List.perm_append_comm
      have := hperm2.nodup_iff.1 hndF
      have h3 := List.nodup_append.1 this
      exact ⟨h3.1, fun y hy hy' => h3.2.2 y hy y hy' rfl⟩
    refine List.nodup_append.2 ⟨hold.1, hM1n, fun y hy z hz hyz => ?_⟩
    subst hyz
    rcases (hM1m y hz).1 with h' | h'
    · exact hold.2 y hy h'
    · have : y ∈ G.F r := by
        rw [hFd]
        simp only [List.mem_cons, List.mem_append] at hy ⊢
        rcases hy with h1 | (h1 | h1 | h1) | h1 <;> simp [h1]
      have := hltF y this
      omega
  have hnotc : ∀ y, y ∈ b :: (Na ++ (Nca ++ Ncb) ++ Nb) → y ∈ G.F r ∧ y ∉ Nc := by
    intro y hy
    refine ⟨by
      rw [hFd]
      simp only [List.mem_cons, List.mem_append] at hy ⊢
      rcases hy with h1 | (h1 | h1 | h1) | h1 <;> simp [h1], fun hc' => ?_⟩
    have hperm2 : (b :: (Na ++ (Nca ++ Nc ++ Ncb) ++ Nb)).Perm ((b :: (Na ++ (Nca ++ Ncb) ++ Nb)) ++ Nc) := by
      refine List.Perm.trans (List.Perm.cons b ?_) (by rw [List.cons_append])
      have h1 : (Nca ++ Nc ++ Ncb).Perm ((Nca ++ Ncb) ++ Nc) := by
        rw [List.append_assoc, List.append_assoc]
        exact List.Perm.append_left _ List.perm_append_comm
      have h2 : (Na ++ (Nca ++ Nc ++ Ncb) ++ Nb).Perm (Na ++ ((Nca ++ Ncb) ++ Nc) ++ Nb) := List.Perm.append_right _ (List.Perm.append_left _ h1)
      refine h2.trans ?_
      rw [← List.append_assoc Na, List.append_assoc _ Nc Nb, List.append_assoc _ Nb Nc]
      exact List.Perm.append_left _ List.perm_append_comm
    exact (List.nodup_append.1 (hperm2.nodup_iff.1 hndF)).2.2 y hy y hc' rfl
  have hsame : ∀ y, y ∈ b :: (Na ++ (Nca ++ Ncb) ++ Nb) → heapOf w' y = heapOf w y := fun y hy => hother y (hnotc y hy).1 (hnotc y hy).2
  have hx := R2.at_.rewrite (c' := .arr false false ver s (rows.set i (splice row off [.sl true (szT X.P e) q.2.2.2.2]))) (μ' := G.μ) (N := b :: (Na ++ (Nca ++ M1 ++ Ncb) ++ Nb)) hc hkeepF hnew
    (fun y hy => by
      have : y ∈ M1 ∨ y ∈ b :: (Na ++ (Nca ++ Ncb) ++ Nb) := by
        simp only [List.mem_cons, List.mem_append] at hy ⊢
        rcases hy with h1 | (h1 | (h1 | h1) | h1) | h1 <;> simp [h1]
      rcases this with h1 | h1
      · exact ⟨(hM1m y h1).1.imp (hsub y) id, (hM1m y h1).2⟩
      · exact ⟨.inl (hnotc y h1).1, Nat.lt_of_lt_of_le (hltF y (hnotc y h1).1) D.keep.size⟩)
    (fun _ _ => rfl) ⟨Nat.le_refl _, rfl, fun _ => ⟨rfl, rfl⟩⟩
    (fun h' hle hml => by
      show arrS (heapOf w') h' false s _ (G.μ r) _
      refine .inr ⟨b, cap0, cs, tt, Na ++ (Nca ++ M1 ++ Ncb) ++ Nb, ?_, ?_, ?_, hsize, ?_, rfl⟩
      · rw [hμ]; simp
      · simpa using hcap
      · rw [hsame b (by simp)]; exact hH
      · refine putRow (heapOf w') h' _ _ hle (fun y hy => hsame y (by
          simp only [List.mem_cons, List.mem_append] at hy ⊢
          rcases hy with h1 | h1 <;> simp [h1])) ?_ ?_
        · rw [splice_length (by simpa [hlen] using hoffs), hlen]
        · refine putCell (heapOf w') h' _ M1 hle (fun y hy => hsame y (by
            simp only [List.mem_cons, List.mem_append] at hy ⊢
            rcases hy with h1 | h1 <;> simp [h1])) ?_
          exact pure_ow (.sl true (szT X.P e) q.2.2.2.2) _ _ hpure (arrS_ow hout2 harr))
  have hfin := R2.put (v := .d (.int q.1 q.2.1)) (g := .int q.1 q.2.1) (dst := dst3) hx (by simp [simV, ro]) hd3
  exact hn w' _ _ hfin hx.view
end
end Go.Vm
