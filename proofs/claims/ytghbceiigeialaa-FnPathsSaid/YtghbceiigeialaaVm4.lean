import Derived.Test.YtghbceiigeialaaVm3
import Derived.IntWalk
set_option linter.unusedVariables false
set_option linter.unusedSimpArgs false

namespace Go.Vm
open Go
theorem owRow_at {H : Heap} {h : View} {row : Row} {cs : List Value} {N : List Nat} {j : Nat} {x : D} (q : owRow H h row cs N) (hx : row[j]? = some x) :
    ∃ g Na N1 Nb, cs[j]? = some g ∧ N = Na ++ N1 ++ Nb ∧ ow H h x g N1 ∧
      ∀ (H' : Heap) (h' : View) (x' : D) (N' : List Nat), h.le h' → (∀ b, b ∈ Na ++ Nb → H' b = H b) → ow H' h' x' g N' → owRow H' h' (splice row j [x']) cs (Na ++ N' ++ Nb) := by
  obtain ⟨e1, e2⟩ := set_eq_take (b := x) hx
  have hjl := (List.getElem?_eq_some_iff.1 hx).1
  rw [e2] at q
  obtain ⟨Na, Nr, rfl, qa, qr⟩ := owRow_append.1 q
  have l1 : (row.take j).length = j := by simp; omega
  rw [l1] at qr
  simp only [owRow] at qr
  obtain ⟨g, cs', N1, Nb, ec, rfl, q1, qb⟩ := qr
  refine ⟨g, Na, N1, Nb, ?_, by simp, q1, ?_⟩
  · have : (cs.drop j)[0]? = some g := by rw [ec]; rfl
    simpa using this
  · intro H' h' x' N' hl hH q'
    have hs : splice row j [x'] = row.take j ++ (x' :: row.drop (j + 1)) := by simp [splice]
    rw [hs, List.append_assoc, owRow_append]
    refine ⟨Na, N' ++ Nb, rfl, owRow_mono hl _ _ _ (fun b hb => hH b (by simp [hb])) qa, ?_⟩
    rw [l1, ec]
    simp only [owRow]
    exact ⟨g, cs', N', Nb, rfl, rfl, q', owRow_mono hl _ _ _ (fun b hb => hH b (by simp [hb])) qb⟩
theorem owRows_at {H : Heap} {h : View} {s : Nat} {rows : List Row} {cs : List Value} {N : List Nat} {i : Nat} {row : Row} (q : owRows H h s rows cs N) (hi : rows[i]? = some row) :
    ∃ Na N1 Nb, N = Na ++ N1 ++ Nb ∧ row.length = s ∧ owRow H h row (cs.drop (i * s)) N1 ∧
      ∀ (H' : Heap) (h' : View) (row' : Row) (N' : List Nat), h.le h' → (∀ b, b ∈ Na ++ Nb → H' b = H b) → row'.length = s → owRow H' h' row' (cs.drop (i * s)) N' → owRows H' h' s (rows.set i row') cs (Na ++ N' ++ Nb) := by
  have hil := (List.getElem?_eq_some_iff.1 hi).1
  have e2 := (set_eq_take (b := row) hi).2
  rw [e2] at q
  obtain ⟨Na, Nr, rfl, qa, qr⟩ := owRows_append.1 q
  have l1 : (rows.take i).length = i := by simp; omega
  rw [l1] at qr
  simp only [owRows] at qr
  obtain ⟨hl, N1, Nb, rfl, q1, qb⟩ := qr
  refine ⟨Na, N1, Nb, by simp, hl, q1, ?_⟩
  intro H' h' row' N' hle hH hl' q'
  rw [(set_eq_take (b := row') hi).1, List.append_assoc, owRows_append]
  refine ⟨Na, N' ++ Nb, rfl, owRows_mono hle s _ _ _ (fun b hb => hH b (by simp [hb])) qa, ?_⟩
  rw [l1]
  simp only [owRows]
  exact ⟨hl', N', Nb, rfl, q', owRows_mono hle s _ _ _ (fun b hb => hH b (by simp [hb])) qb⟩
theorem fuseOut_some {e : Nat} {fl : Bool} {out : List Row × List Cell} {q : IntKind × Int × Bool × Nat × List Row} (h : fuseOut out = some q) (hc : fuseCk e fl q = true) :
    out = ([[.int q.1 q.2.1]], [.arr false fl 0 e q.2.2.2.2]) ∧ outOk fl q.2.2.2.2 = true ∧ pureRows q.2.2.2.2 = true := by
  unfold fuseOut at h
  split at h
  · rename_i k n fl' s' rs'
    simp only [Option.some.injEq] at h
    subst h
    simp only [fuseCk, Bool.and_eq_true, beq_iff_eq] at hc
    obtain ⟨h1, rfl, h3, h4⟩ := hc
    have h1 := Nat.eq_of_beq_eq_true h1
    subst h1
    exact ⟨rfl, h3, h4⟩
  · cases h
section
variable {base : Nat} {U : Nat → Prop} {M0 : List Nat} {w0 w : World} {ν : Nat → Value} {M : Mem} {nt : Nat} {S S' : St} {G : GS} {a : Act} {X : Ctx} {K : Kont} {fn : Nat}
theorem twoTs_some {args : Array Operand} {d1 d2 : Nat} (h : twoTs args d1 d2 = true) : args = #[.tmp d1, .tmp d2] := by
  unfold twoTs at h
  split at h
  · rename_i a b he
    simp only [Bool.and_eq_true] at h
    have h1 := Nat.eq_of_beq_eq_true h.1
    have h2 := Nat.eq_of_beq_eq_true h.2
    subst h1; subst h2
    cases args
    simp at he
    rw [he]
  · cases h
theorem fuse_ok (hK : SoundG X K U M0 w0) (R : Rel base U M0 w0 ν M nt w S G a) {ops : Array Oper} {p : Nat} {rest : List Nat} {Q : Exit → Act → World → Prop} (hnt : ntOf X.P fn = nt) (h : runFuse X K fn ops p S = some S')
    (hn : ∀ w' G' a', Rel base U M0 w0 ν M nt w' S' G' a' → (Gh U w G).le (Gh U w' G') → wpOps X.P ops Q rest a' w') : wpOps X.P ops Q (p :: (p + 1) :: (p + 2) :: rest) a w := by
  simp only [runFuse] at h
  cases ho1 : ops[p]? with
  | none => simp [ho1] at h
  | some o1 =>
  cases ho2 : ops[p + 1]? with
  | none => simp [ho1, ho2] at h
  | some o2 =>
  cases ho3 : ops[p + 2]? with
  | none => simp [ho1, ho2, ho3] at h
  | some o3 =>
  simp only [ho1, ho2, ho3] at h
  cases hr : (fuseOp X K S.tm o1 o2 o3).run S.mem .none with
  | none => simp [hr] at h
  | some r =>
  obtain ⟨⟨d1, d2, kv, v⟩, m', l'⟩ := r
  simp only [hr] at h
  cases hd : (Nat.blt d1 (ntOf X.P fn) && (Nat.blt d2 (ntOf X.P fn) && dstOk (ntOf X.P fn) o3.dst)) with
  | false => simp [hd] at h
  | true =>
  simp only [hd, cond_true, Option.some.injEq] at h
  subst h
  simp only [Bool.and_eq_true] at hd
  obtain ⟨hd1, hd2, hd3⟩ := hd
  rw [hnt] at hd1 hd2 hd3
  rw [Nat.blt_eq] at hd1 hd2
  unfold fuseOp at hr
  split at hr
  case h_2 => exact (run_fail hr).elim
  case h_1 d1' t ta ty1 p1 af1 d2' x ty2 p2 af2 dst3 f args tys ty3 p3 af3 =>
  replace hr := run_bind_some hr; obtain ⟨_, m1, l1, h1, hr⟩ := hr
  obtain ⟨hck, rfl, rfl⟩ := run_ck h1
  simp only [Bool.and_eq_true, Bool.not_eq_true'] at hck
  obtain ⟨hne, hargs, hoff, hok, hsz, hagg, hf⟩ := hck
  have hargs := twoTs_some hargs
  subst hargs
  replace hr := run_bind_some hr; obtain ⟨e, m1, l1, h1, hr⟩ := hr
  obtain ⟨he, rfl, rfl⟩ := run_op' h1
  split at hr
  case h_2 => exact (run_fail hr).elim
  case h_1 r ver i off k n hga hkv =>
  replace hr := run_bind_some hr; obtain ⟨c, m2, l2, h2, hr⟩ := hr
  rw [run_rd] at h2
  cases h2
  cases hc : get r S.mem with
  | none => rw [hc] at hr; exact (run_fail hr).elim
  | some c =>
  rw [hc] at hr
  split at hr
  case h_2 => exact (run_fail hr).elim
  case h_1 _ ver' s rows hcc =>
  cases hcc
  replace hr := run_bind_some hr; obtain ⟨_, m2, l2, h2, hr⟩ := hr
  obtain ⟨hv, rfl, rfl⟩ := run_ck h2
  simp only [Bool.and_eq_true] at hv
  have hver := Nat.eq_of_beq_eq_true hv.1
  subst hver
  have hoffs := Nat.le_of_ble_eq_true hv.2
  replace hr := run_bind_some hr; obtain ⟨row, m2, l2, h2, hr⟩ := hr
  obtain ⟨hrow, rfl, rfl⟩ := run_op' h2
  replace hr := run_bind_some hr; obtain ⟨rs, m2, l2, h2, hr⟩ := hr
  obtain ⟨hown, rfl, rfl⟩ := run_op' h2
  replace hr := run_bind_some hr; obtain ⟨_, m2, l2, h2, hr⟩ := hr
  obtain ⟨hout1, rfl, rfl⟩ := run_ck h2
  replace hr := run_bind_some hr; obtain ⟨out, m2, l2, h2, hr⟩ := hr
  obtain ⟨hKc, rfl, rfl⟩ := run_op' h2
  replace hr := run_bind_some hr; obtain ⟨q, m2, l2, h2, hr⟩ := hr
  obtain ⟨hq, rfl, rfl⟩ := run_op' h2
  replace hr := run_bind_some hr; obtain ⟨_, m2, l2, h2, hr⟩ := hr
  obtain ⟨hqc, rfl, rfl⟩ := run_ck h2
  obtain ⟨rfl, hout2, hpure⟩ := fuseOut_some hq hqc
  replace hr := run_bind_some hr; obtain ⟨_, m2, l2, h2, hr⟩ := hr
  rw [run_wr] at h2
  cases h2
  simp only [run_pure, Option.some.injEq, Prod.mk.injEq] at hr
  obtain ⟨⟨rfl, rfl, rfl, rfl⟩, rfl, _⟩ := hr
  have ha := ev_ok (P := X.P) R.tm 0 (.tmp ta)
  simp only [ev] at ha
  rw [hga] at ha
  simp only [simV, hc] at ha
  obtain ⟨_, _, hptr⟩ := ha
  obtain ⟨b, n0, cap0, hμ, hadr⟩ := hptr trivial
  have hcell : arrS (heapOf w) (Gh U w G) false s rows (G.μ r) (G.F r) := R.at_.ok.cell r _ hc (by rw [R.at_.out]; simp)
  rcases hcell with ⟨hnil, _, _⟩ | ⟨b', cap, cs, tt, N', hμ', hcap, hH, hsize, hrows, hF⟩
  · rw [hnil] at hrow; simp at hrow
  rw [hμ] at hμ'
  simp only [Value.slice.injEq, Option.some.injEq, Addr.mk.injEq] at hμ'
  obtain ⟨⟨rfl, _, _⟩, rfl, rfl⟩ := hμ'
  simp only at hrows
  obtain ⟨Na, Nrow, Nb, hN', hlen, qrow, putRow⟩ := owRows_at hrows hrow
  have hx1 := asOwn_some (by simpa [cOwn] using hown)
  have hx : row[off]? = some (.sl true (szT X.P e) rs) := nth_get hx1 (by simp)
  obtain ⟨g, Nca, Nc, Ncb, hcs, hNrow, qow, putCell⟩ := owRow_at qrow hx
  have hcs' : cs.toList[i * s + off]? = some g := by simpa using hcs
  have hcellw : w.cell? ⟨b, i * s + off, none⟩ = some g := by
    have := full_cell hH (i * s + off)
    rw [hcs'] at this
    exact this
  have hszv := Nat.eq_of_beq_eq_true hsz
  have hload : (Instr.loadAt t (a.eval (.tmp ta))).run X.P w = .ok g w := by
    rw [hadr]
    refine run_loadAt (cs := [g]) hok (by rw [hszv]; rfl) (fun j v hj => ?_) (by simp [valOf, hagg])
    cases j with
    | zero =>
      simp only [List.getElem?_cons_zero, Option.some.injEq] at hj
      subst hj
      simpa using hcellw
    | succ j => simp at hj
  have R1 := R.put (v := .undef) (g := g) (dst := some d1') R.at_.nx trivial (by simpa [dstOk] using hd1)
  have hkv1 : ev X.P (put d1' .undef S.tm) ty2 x = .d (.int k n) := by
    rw [← hkv]
    cases x with
    | tmp j =>
      simp only [offT, Bool.not_eq_true'] at hoff
      simp only [ev, getT]
      rw [get_put_other]
      intro e
      subst e
      simp at hoff
    | _ => rfl
  have hm1 := ev_ok (P := X.P) R1.tm ty2 x
  simp only [putT] at hm1
  rw [hkv1] at hm1
  have R2 := R1.put (v := .d (.int k n)) (dst := some d2') R1.at_.nx hm1 (by simpa [dstOk] using hd2)
  simp only [putT] at R1 R2
  have hgv : (a.put (some d1') g).eval x = .int k n := by simpa [simV, ro] using hm1
  have hd12 : d1' ≠ d2' := by
    intro e
    subst e
    simp at hne
  have hs1 : ((a.put (some d1') g).put (some d2') ((a.put (some d1') g).eval x)).eval (.tmp d1') = g := by
    simp only [Act.eval, Act.put]
    rw [Array.getD_eq_getD_getElem?, Array.getElem?_setIfInBounds_ne (Ne.symm hd12)]
    rw [Array.getElem?_setIfInBounds_self_of_lt (by rw [R.size]; exact hd1)]
    rfl
  have hs2 : ((a.put (some d1') g).put (some d2') ((a.put (some d1') g).eval x)).eval (.tmp d2') = .int k n := by
    rw [← hgv]
    simp only [Act.eval, Act.put]
    rw [Array.getD_eq_getD_getElem?, Array.getElem?_setIfInBounds_self_of_lt (by simp [R.size]; exact hd2)]
    rfl
  simp only [fuseF, Bool.and_eq_true] at hf
  obtain ⟨⟨hmo0, hmo1⟩, hfun⟩ := hf
  have hmo0 := Nat.eq_of_beq_eq_true hmo0
  have hmo1 := Nat.eq_of_beq_eq_true hmo1
  cases hg : X.P.funcs[f]? with
  | none => simp [hg] at hfun
  | some fnc =>
  simp only [hg, Bool.and_eq_true, Bool.not_eq_true'] at hfun
  obtain ⟨⟨hbody, hname⟩, hres⟩ := hfun
  cases hrt : fnc.resultTypes.toList with
  | nil => simp [hrt] at hres
  | cons rt rts =>
  cases rts with
  | cons _ _ => simp [hrt] at hres
  | nil =>
  simp only [hrt, Bool.and_eq_true, Bool.not_eq_true'] at hres
  obtain ⟨hres, hptr0⟩ := hres
  have hFd : G.F r = b :: (Na ++ (Nca ++ Nc ++ Ncb) ++ Nb) := by rw [hF, hN', hNrow]
  have hndF := R.at_.ok.nd r
  rw [hFd] at hndF
  have hsub : ∀ y, y ∈ Nc → y ∈ G.F r := fun y hy => by rw [hFd]; simp [hy]
  have hgiven : Given X base U w f [.own impBase 0, .d (.int k n)] [.arr false (flatT X.P e) 0 (szT X.P e) rs] [g, .int k n] [g] [] Nc := by
    have hndc : Nc.Nodup := by
      have h1 := (List.nodup_cons.1 hndF).2
      have h2 := (List.nodup_append.1 (List.nodup_append.1 h1).1).2.1
      exact (List.nodup_append.1 (List.nodup_append.1 h2).1).2.1
    have hv : (Gh U w G).le (view w U (· ∈ [] ++ Nc)) := view_le (fun _ x => x) (fun y hy => .inr ⟨r, hsub y (by simpa using hy)⟩)
    refine ⟨by simpa using hndc, fun y hy => R.at_.ok.lt y (.inr ⟨r, hsub y (by simpa using hy)⟩), R.at_.ok.up, R.at_.ok.bs, ?_, ?_, globS_mono hv (globS_mono R.at_.first hK.gl), tabS_keep hK.gl R.at_.fr.keep hK.tab⟩
    · have hsl : isSl g := by
        simp only [ow] at qow
        rcases qow with ⟨_, rfl, _⟩ | ⟨_, _, _, _, _, rfl, _⟩ <;> exact ⟨_, _, _, rfl⟩
      simp only [mixS, hmo0, hmo1]
      refine ⟨g, [.int k n], [], [], rfl, rfl, ⟨rfl, ?_⟩, .int k n, [], [], [], rfl, rfl, ⟨rfl, by simp [simV, ro]⟩, rfl, rfl⟩
      simp [simV, hsl, impMem, get, impμ]
    · exact ⟨g, [], Nc, [], rfl, by simp, ⟨rfl, rfl, arrS_mono hv (fun _ _ => rfl) (ow_arrS' hout1 qow)⟩, rfl, rfl⟩
  rw [wpOps_cons]
  unfold wpOp
  simp only [ho1, Region.wanted, if_true]
  refine .inl (wp_value (g := g) (w' := w) (by simp [execOp, hload]) ?_)
  rw [wpOps_cons]
  unfold wpOp
  simp only [ho2, Region.wanted, if_true]
  refine .inl (wp_value (w' := w) (by simp [execOp]; rfl) ?_)
  rw [wpOps_cons]
  unfold wpOp
  simp only [ho3, Region.wanted, if_true]
  left
  unfold Oper.wp
  have hrun : (execOp ((a.put (some d1') g).put (some d2') ((a.put (some d1') g).eval x)).eval ⟨dst3, .call ⟨.value (.func f), #[.tmp d1', .tmp d2'], tys⟩, ty3, p3, af3, none⟩).run X.P w = .ok (.enter f #[g, .int k n]) w := by
    have hnm : fnc.name ≠ "runtime.NumGoroutine" := by
      intro hh
      simp [hh] at hname
    have hbn : fnc.body ≠ none := by
      intro hh
      simp [hh] at hbody
    have e1 : (#[Operand.tmp d1', Operand.tmp d2'].map ((a.put (some d1') g).put (some d2') ((a.put (some d1') g).eval x)).eval) = #[g, .int k n] := by
      simp [hs1, hs2]
    have ef : ((a.put (some d1') g).put (some d2') ((a.put (some d1') g).eval x)).eval (.func f) = .func (.func f) #[] #[] := rfl
    simp only [execOp, resolve, ef, e1, Deferred.ofValue, Sem.run_bind, Sem.run_pure, Result.andThen_ok, invoke]
    simp [callFunc, hg, hnm, hbn]
  rw [hrun, Oper.upon_enter]
  refine Calls.mono (hK.sound f fnc _ _ _ _ hg hbody hKc base U w [g, .int k n] [g] [] Nc hgiven) ?_
  rintro e w' ⟨gs, M1, M2, rfl, D⟩
  have hDr := D.res
  rw [hrt] at hDr
  simp only [retsS] at hDr
  obtain ⟨row0, rows0, g0, gs0, P1, P2, e1, e2, eM, hv0, e3, e4, e5⟩ := hDr
  rw [retS_val (by simpa using hptr0)] at hv0
  obtain ⟨cs0, hv0, ho0, hl0⟩ := hv0
  simp only [List.cons.injEq] at e1
  obtain ⟨rfl, rfl⟩ := e1
  subst e4
  subst e2
  simp only [valOf, hres, Bool.false_eq_true, if_false] at hv0
  subst hv0
  simp only [owRow, ow] at ho0
  obtain ⟨v0, cs', Q1, Q2, e6, eQ, ⟨rfl, hQ1⟩, hQ2⟩ := ho0
  simp only [List.cons.injEq] at e6
  obtain ⟨rfl, _⟩ := e6
  have hM2 : M2 = [] := by rw [eM, eQ, hQ1, hQ2, e5]; rfl
  obtain ⟨g1, gs1, C1, C2, e7, e8, hcb, hcn⟩ := D.cells
  simp only [List.cons.injEq] at e7
  obtain ⟨rfl, rfl⟩ := e7
  obtain ⟨_, hC2⟩ := hcn
  obtain ⟨_, _, harr⟩ := hcb
  have hM1 : M1 = C1 := by rw [e8, hC2]; simp
  subst hM1
  have hkeepF : Keep (G.F r) w w' := ⟨D.keep.os, D.keep.tape, D.keep.output, D.keep.size, fun y hy hn' => D.keep.block y hy (fun h' => hn' (hsub y (by simpa using h')))⟩
  have hM1m : ∀ y, y ∈ M1 → (y ∈ Nc ∨ w.heap.size ≤ y) ∧ y < w'.heap.size := fun y hy => by
    have := D.mem y (by simp [hy])
    simpa using this
  have hM1n : M1.Nodup := by have := D.nd; rw [hM2] at this; simpa using this
  have hltF : ∀ y, y ∈ G.F r → y < w.heap.size := fun y hy => (R.at_.ok.lt y (.inr ⟨r, hy⟩)).1
  have hother : ∀ y, y ∈ G.F r → y ∉ Nc → w'.heap[y]? = w.heap[y]? := fun y hy hn' => D.keep.block y (hltF y hy) (by simpa using hn')
  have hnew : (b :: (Na ++ (Nca ++ M1 ++ Ncb) ++ Nb)).Nodup := by
    have hperm : (b :: (Na ++ (Nca ++ M1 ++ Ncb) ++ Nb)).Perm ((b :: (Na ++ (Nca ++ Ncb) ++ Nb)) ++ M1) := by
      refine List.Perm.trans (List.Perm.cons b ?_) (by rw [List.cons_append])
      have h1 : (Nca ++ M1 ++ Ncb).Perm ((Nca ++ Ncb) ++ M1) := by
        rw [List.append_assoc, List.append_assoc]
        exact List.Perm.append_left _ List.perm_append_comm
      have h2 : (Na ++ (Nca ++ M1 ++ Ncb) ++ Nb).Perm (Na ++ ((Nca ++ Ncb) ++ M1) ++ Nb) := List.Perm.append_right _ (List.Perm.append_left _ h1)
      refine h2.trans ?_
      rw [← List.append_assoc Na, List.append_assoc _ M1 Nb, List.append_assoc _ Nb M1]
      exact List.Perm.append_left _ List.perm_append_comm
    rw [hperm.nodup_iff]
    have hold : (b :: (Na ++ (Nca ++ Ncb) ++ Nb)).Nodup ∧ ∀ y, y ∈ (b :: (Na ++ (Nca ++ Ncb) ++ Nb)) → y ∉ Nc := by
      have hperm2 : (b :: (Na ++ (Nca ++ Nc ++ Ncb) ++ Nb)).Perm ((b :: (Na ++ (Nca ++ Ncb) ++ Nb)) ++ Nc) := by
        refine List.Perm.trans (List.Perm.cons b ?_) (by rw [List.cons_append])
        have h1 : (Nca ++ Nc ++ Ncb).Perm ((Nca ++ Ncb) ++ Nc) := by
          rw [List.append_assoc, List.append_assoc]
          exact List.Perm.append_left _ List.perm_append_comm
        have h2 : (Na ++ (Nca ++ Nc ++ Ncb) ++ Nb).Perm (Na ++ ((Nca ++ Ncb) ++ Nc) ++ Nb) := List.Perm.append_right _ (List.Perm.append_left _ h1)
        refine h2.trans ?_
        rw [← List.append_assoc Na, List.append_assoc _ Nc Nb, List.append_assoc _ Nb Nc]
        exact List.Perm.append_left _ List.perm_append_comm
      have := hperm2.nodup_iff.1 hndF
      have h3 := List.nodup_append.1 this
      exact ⟨h3.1, fun y hy hy' => h3.2.2 y hy y hy' rfl⟩
    refine List.nodup_append.2 ⟨hold.1, hM1n, fun y hy z hz hyz => ?_⟩
    subst hyz
    rcases (hM1m y hz).1 with h' | h'
    · exact hold.2 y hy h'
    · have : y ∈ G.F r := by
        rw [hFd]
        simp only [List.mem_cons, List.mem_append] at hy ⊢
        rcases hy with h1 | (h1 | h1 | h1) | h1 <;> simp [h1]
      have := hltF y this
      omega
  have hnotc : ∀ y, y ∈ b :: (Na ++ (Nca ++ Ncb) ++ Nb) → y ∈ G.F r ∧ y ∉ Nc := by
    intro y hy
    refine ⟨by
      rw [hFd]
      simp only [List.mem_cons, List.mem_append] at hy ⊢
      rcases hy with h1 | (h1 | h1 | h1) | h1 <;> simp [h1], fun hc' => ?_⟩
    have hperm2 : (b :: (Na ++ (Nca ++ Nc ++ Ncb) ++ Nb)).Perm ((b :: (Na ++ (Nca ++ Ncb) ++ Nb)) ++ Nc) := by
      refine List.Perm.trans (List.Perm.cons b ?_) (by rw [List.cons_append])
      have h1 : (Nca ++ Nc ++ Ncb).Perm ((Nca ++ Ncb) ++ Nc) := by
        rw [List.append_assoc, List.append_assoc]
        exact List.Perm.append_left _ List.perm_append_comm
      have h2 : (Na ++ (Nca ++ Nc ++ Ncb) ++ Nb).Perm (Na ++ ((Nca ++ Ncb) ++ Nc) ++ Nb) := List.Perm.append_right _ (List.Perm.append_left _ h1)
      refine h2.trans ?_
      rw [← List.append_assoc Na, List.append_assoc _ Nc Nb, List.append_assoc _ Nb Nc]
      exact List.Perm.append_left _ List.perm_append_comm
    exact (List.nodup_append.1 (hperm2.nodup_iff.1 hndF)).2.2 y hy y hc' rfl
  have hsame : ∀ y, y ∈ b :: (Na ++ (Nca ++ Ncb) ++ Nb) → heapOf w' y = heapOf w y := fun y hy => hother y (hnotc y hy).1 (hnotc y hy).2
  have hx := R2.at_.rewrite (c' := .arr false false ver s (rows.set i (splice row off [.sl true (szT X.P e) q.2.2.2.2]))) (μ' := G.μ) (N := b :: (Na ++ (Nca ++ M1 ++ Ncb) ++ Nb)) hc hkeepF hnew
    (fun y hy => by
      have : y ∈ M1 ∨ y ∈ b :: (Na ++ (Nca ++ Ncb) ++ Nb) := by
        simp only [List.mem_cons, List.mem_append] at hy ⊢
        rcases hy with h1 | (h1 | (h1 | h1) | h1) | h1 <;> simp [h1]
      rcases this with h1 | h1
      · exact ⟨(hM1m y h1).1.imp (hsub y) id, (hM1m y h1).2⟩
      · exact ⟨.inl (hnotc y h1).1, Nat.lt_of_lt_of_le (hltF y (hnotc y h1).1) D.keep.size⟩)
    (fun _ _ => rfl) ⟨Nat.le_refl _, rfl, fun _ => ⟨rfl, rfl⟩⟩
    (fun h' hle hml => by
      show arrS (heapOf w') h' false s _ (G.μ r) _
      refine .inr ⟨b, cap0, cs, tt, Na ++ (Nca ++ M1 ++ Ncb) ++ Nb, ?_, ?_, ?_, hsize, ?_, rfl⟩
      · rw [hμ]; simp
      · simpa using hcap
      · rw [hsame b (by simp)]; exact hH
      · refine putRow (heapOf w') h' _ _ hle (fun y hy => hsame y (by
          simp only [List.mem_cons, List.mem_append] at hy ⊢
          rcases hy with h1 | h1 <;> simp [h1])) ?_ ?_
        · rw [splice_length (by simpa [hlen] using hoffs), hlen]
        · refine putCell (heapOf w') h' _ M1 hle (fun y hy => hsame y (by
            simp only [List.mem_cons, List.mem_append] at hy ⊢
            rcases hy with h1 | h1 <;> simp [h1])) ?_
          exact pure_ow (.sl true (szT X.P e) q.2.2.2.2) _ _ hpure (arrS_ow hout2 harr))
  have hfin := R2.put (v := .d (.int q.1 q.2.1)) (g := .int q.1 q.2.1) (dst := dst3) hx (by simp [simV, ro]) hd3
  exact hn w' _ _ hfin hx.view
end
end Go.Vm

namespace Go.Vm
open Go
section
variable {base : Nat} {U : Nat → Prop} {M0 : List Nat} {w0 w : World} {ν : Nat → Value} {M : Mem} {nt : Nat} {S T : St} {G : GS} {a : Act} {X : Ctx} {K : Kont} {fn : Nat} {ops : Array Oper}
theorem runOps_tr : ∀ {is : List Nat} {S S' : St} {L L' : List (Nat × Log)}, runOps X K fn ops is S L = some (S', L') →
    ∃ T : List (Nat × Log), L' = T.reverse ++ L ∧ Tr X K fn ops T S S' ∧ T.map (·.1) = is
  | [], S, S', L, L', h => by
    simp only [runOps, Option.some.injEq, Prod.mk.injEq] at h
    obtain ⟨rfl, rfl⟩ := h
    exact ⟨[], rfl, rfl, rfl⟩
  | i :: is, S, S', L, L', h => by
    simp only [runOps] at h
    cases h1 : runOp X K fn ops i S with
    | none => simp [h1] at h
    | some r =>
      obtain ⟨S1, l1⟩ := r
      simp only [h1] at h
      obtain ⟨T, e, t, m⟩ := runOps_tr h
      exact ⟨(i, l1) :: T, by rw [e]; simp, ⟨S1, h1, t⟩, by simp [m]⟩
theorem backFrom_spec : ∀ {l : List Oper} {n k : Nat} {o : Oper}, backFrom n l = true → l[k]? = some o → ∀ e, e ∈ o.after → Region.binds .any e = true → e.on < n + k
  | [], _, _, _, _, h => by simp at h
  | o' :: l, n, 0, o, hb, h => by
    simp only [List.getElem?_cons_zero, Option.some.injEq] at h
    subst h
    simp only [backFrom, Bool.and_eq_true] at hb
    intro e he hbi
    have := List.all_eq_true.1 hb.1 e (by simpa using he)
    rw [hbi] at this
    simpa using this
  | o' :: l, n, k + 1, o, hb, h => by
    simp only [backFrom, Bool.and_eq_true] at hb
    intro e he hbi
    have := backFrom_spec hb.2 (by simpa using h) e he hbi
    omega
theorem backOk_spec {k : Nat} {o : Oper} (hb : backOk ops = true) (h : ops[k]? = some o) : ∀ e, e ∈ o.after → Region.binds .any e = true → e.on < k := by
  intro e he hbi
  have := backFrom_spec (n := 0) hb (k := k) (o := o) (by simpa using h) e he hbi
  omega
theorem any_ok (hK : SoundG X K U M0 w0) (hnt : ntOf X.P fn = nt) (hb : backOk ops = true) {Q : Exit → Act → World → Prop} : ∀ (fuel : Nat) {listed : Array Bool} {L : List (Nat × Log)} {w : World} {S S' : St} {G : GS} {a : Act}
    (_ : L.length ≤ fuel) (_ : listed.size = ops.size) (_ : Cl ops listed) (_ : ∀ i, i < ops.size → (listed.getD i true = false ↔ i ∈ L.map (·.1))) (_ : (L.map (·.1)).Nodup)
    (_ : Ok ops L) (_ : Tr X K fn ops L S S') (_ : Rel base U M0 w0 ν M nt w S G a)
    (_ : ∀ w' G' a', Rel base U M0 w0 ν M nt w' S' G' a' → (Gh U w G).le (Gh U w' G') → Q .normal a' w'), wpAny X.P .any ops Q fuel listed a w
  | 0, listed, L, w, S, S', G, a, hf, hs, hcl, hl, hnd, hok, htr, R, hn => by
    have : L = [] := List.length_eq_zero_iff.1 (Nat.le_zero.1 hf)
    subst this
    cases htr
    refine ⟨?_, hn w G a R (View.le_refl _)⟩
    rw [List.eq_nil_iff_forall_not_mem]
    intro i hi
    obtain ⟨h1, o, h2, _⟩ := mem_ready.1 hi
    have hlt : i < ops.size := (Array.getElem?_eq_some_iff.1 h2).1
    simpa using (hl i hlt).1 h1
  | fuel + 1, listed, L, w, S, S', G, a, hf, hs, hcl, hl, hnd, hok, htr, R, hn => by
    refine ⟨fun hr => ?_, fun i hi => ?_⟩
    · have hL : L = [] := by
        rw [List.eq_nil_iff_forall_not_mem]
        have hall : ∀ i, i ∉ L.map (·.1) := by
          intro i
          induction i using Nat.strongRecOn with
          | _ i ih =>
            intro hi
            have hlt : i < ops.size := by
              rcases Nat.lt_or_ge i ops.size with h | h
              · exact h
              · obtain ⟨⟨i', l⟩, hx, rfl⟩ := List.mem_map.1 hi
                exfalso
                have : ∀ {L : List (Nat × Log)} {S S' : St}, Tr X K fn ops L S S' → ∀ x, x ∈ L → ∃ o, ops[x.1]? = some o := by
                  intro L
                  induction L with
                  | nil => intro _ _ _ x hx; simp at hx
                  | cons y L ihL =>
                    rintro S S' ⟨S1, h1, h2⟩ x hx
                    rcases List.mem_cons.1 hx with rfl | hx
                    · exact runOp_op h1
                    · exact ihL h2 x hx
                obtain ⟨o, ho⟩ := this htr _ hx
                have := (Array.getElem?_eq_some_iff.1 ho).1
                simp at this h
                omega
            have hni : i ∉ Region.ready .any ops listed := by rw [hr]; simp
            apply hni
            rw [mem_ready]
            refine ⟨(hl i hlt).2 hi, ops[i], by simp [hlt], fun e he hbi => ?_⟩
            have hei := backOk_spec hb (k := i) (by simp [hlt]) e he hbi
            have hel : e.on < ops.size := Nat.lt_trans hei hlt
            have := ih e.on hei
            rw [← hl e.on hel] at this
            have hsz : e.on < listed.size := by rw [hs]; exact hel
            simp only [Array.getD, hsz, dite_true] at this ⊢
            simpa using this
        intro x hx
        exact hall x.1 (List.mem_map.2 ⟨x, hx, rfl⟩)
      subst hL
      cases htr
      exact hn w G a R (View.le_refl _)
    · obtain ⟨h1, o, h2, h3⟩ := mem_ready.1 hi
      have hlt : i < ops.size := (Array.getElem?_eq_some_iff.1 h2).1
      obtain ⟨⟨i', l⟩, hx, rfl⟩ := List.mem_map.1 ((hl i hlt).1 h1)
      obtain ⟨pre, post, rfl⟩ := List.append_of_mem hx
      simp only at h1 h2 h3 hlt hi
      have hsz : i' < listed.size := by rw [hs]; exact hlt
      have hun : ∀ x, x ∈ pre → listed.getD x.1 false = false ∧ x.1 < ops.size := by
        intro x hxp
        have hxo : ∃ o, ops[x.1]? = some o := by
          have : ∀ {L : List (Nat × Log)} {S S' : St}, Tr X K fn ops L S S' → ∀ x, x ∈ L → ∃ o, ops[x.1]? = some o := by
            intro L
            induction L with
            | nil => intro _ _ _ x hx; simp at hx
            | cons y L ihL =>
              rintro S S' ⟨S1, h1, h2⟩ x hx
              rcases List.mem_cons.1 hx with rfl | hx
              · exact runOp_op h1
              · exact ihL h2 x hx
          exact this htr x (by simp [hxp])
        obtain ⟨ox, hox⟩ := hxo
        have hxl := (Array.getElem?_eq_some_iff.1 hox).1
        have := (hl x.1 hxl).2 (List.mem_map.2 ⟨x, by simp [hxp], rfl⟩)
        have hsx : x.1 < listed.size := by rw [hs]; exact hxl
        simp only [Array.getD, hsx, dite_true] at this ⊢
        exact ⟨this, hxl⟩
      have hind : ∀ x, x ∈ pre → Indep ops x.1 i' x.2 l := by
        intro x hxp
        have := (List.pairwise_append.1 hok).2.2 x hxp (i', l) (by simp)
        rcases this with ho | ho
        · exfalso
          obtain ⟨o', e, q1, q2, q3, q4⟩ := before_bit ho
          simp only at q1
          rw [h2] at q1
          cases q1
          have hel := h3 e q2 q3
          have hx0 := (hun x hxp).1
          rcases q4 with q4 | ⟨_, q4⟩
          · rw [q4, hel] at hx0; cases hx0
          · rw [hcl.path e.on x.1 hel q4] at hx0; cases hx0
        · exact ho
      obtain ⟨S'', ⟨S1, r1, r2⟩, hE⟩ := Tr.front htr hind
      refine runOp_ok hK hnt R r1 fun w1 G1 a1 R1 v1 => ?_
      have hnd' : ((pre ++ post).map (·.1)).Nodup ∧ i' ∉ (pre ++ post).map (·.1) := by
        have h' : (pre.map (·.1) ++ i' :: post.map (·.1)).Nodup := by simpa using hnd
        have h'' := (List.perm_middle (a := i') (l₁ := pre.map (·.1)) (l₂ := post.map (·.1))).nodup_iff.1 h'
        rw [List.nodup_cons] at h''
        exact ⟨by simpa using h''.2, by simpa using h''.1⟩
      refine any_ok hK hnt hb fuel (L := pre ++ post) ?_ ?_ ?_ ?_ hnd'.1 ?_ r2 R1 ?_
      · simp at hf ⊢; omega
      · simp [hs]
      · intro k hk o' ho' e he hbd
        by_cases hki : k = i'
        · subst hki
          rw [h2] at ho'
          cases ho'
          have := h3 e he hbd
          by_cases hei : k = e.on
          · simp [Array.getD, ← hei, hsz]
          · rw [getD_set_ne false hei]; exact this
        · rw [getD_set_ne false (Ne.symm hki)] at hk
          have := hcl k hk o' ho' e he hbd
          by_cases hei : i' = e.on
          · simp [Array.getD, ← hei, hsz]
          · rw [getD_set_ne false hei]; exact this
      · intro k hk
        by_cases hki : k = i'
        · subst hki
          have e1 : (listed.setIfInBounds k true).getD k true = true := by simp [Array.getD, hsz]
          rw [e1]
          exact ⟨fun h => by simp at h, fun h => absurd h hnd'.2⟩
        · rw [getD_set_ne true (Ne.symm hki), hl k hk]
          simp [hki]
      · have h' := List.pairwise_append.1 hok
        exact List.pairwise_append.2 ⟨h'.1, (List.pairwise_cons.1 h'.2.1).2, fun x hx y hy => h'.2.2 x hx y (by simp [hy])⟩
      · intro w' G' a' R' v'
        exact hn w' G' a' (R'.eqv hE.symm) (v1.trans' v')
theorem range_drop {n p : Nat} (h : p + 2 < n) : List.range n = List.range p ++ (p :: (p + 1) :: (p + 2) :: (List.range n).drop (p + 3)) := by
  have e : ∀ k, k < n → (List.range n).drop k = k :: (List.range n).drop (k + 1) := by
    intro k hk
    rw [List.drop_eq_getElem_cons (by simpa using hk)]
    simp
  rw [← e (p + 2) h, ← e (p + 1) (by omega), ← e p (by omega)]
  have : List.range p = (List.range n).take p := by rw [List.take_range, Nat.min_eq_left (by omega)]
  rw [this, List.take_append_drop]
theorem region_ok (hK : SoundG X K U M0 w0) (hnt : ntOf X.P fn = nt) (hM : ∀ r c, get r M = some c → impKey r = true) : RegOk base U M0 w0 ν M nt X K fn := by
  intro id ops draw w S S' G a Q R h hn
  simp only [region] at h
  cases hr : regionRun X K fn id ops draw S with
  | none => simp [hr] at h
  | some r =>
    obtain ⟨S1, L⟩ := r
    simp only [hr] at h
    have hfin : prune (X.adv.keep fn id) S1 = some S' → ∀ w1 G1 a1, Rel base U M0 w0 ν M nt w1 S1 G1 a1 → (Gh U w G).le (Gh U w1 G1) → Q .normal a1 w1 := by
      intro hp w1 G1 a1 R1 v1
      obtain ⟨G2, R2, v2⟩ := prune_ok R1 hM hp
      exact hn w1 G2 a1 R2 (v1.trans' v2)
    simp only [regionRun] at hr
    cases hfu : X.adv.fuse fn id with
    | succ p =>
      rw [hfu] at hr
      cases draw with
      | true => simp at hr
      | false =>
        simp only at hr
        simp only [cond_true] at h
        cases h1 : runOps X K fn ops (List.range p) S [] with
        | none => simp [h1] at hr
        | some r1 =>
          obtain ⟨T1, L1⟩ := r1
          simp only [h1] at hr
          cases h2 : runFuse X K fn ops p T1 with
          | none => simp [h2] at hr
          | some T2 =>
            simp only [h2] at hr
            have hlt : p + 2 < ops.size := by
              simp only [runFuse] at h2
              cases hq : ops[p + 2]? with
              | some o => exact (Array.getElem?_eq_some_iff.1 hq).1
              | none =>
                rw [hq] at h2
                split at h2
                · rename_i h3; simp at h3
                · cases h2
            refine wp_region ?_
            rw [range_drop hlt]
            refine runOps_ok' hK hnt R h1 fun w1 G1 a1 R1 v1 => ?_
            refine fuse_ok hK R1 hnt h2 fun w2 G2 a2 R2 v2 => ?_
            exact runOps_ok hK hnt R2 hr fun w3 G3 a3 R3 v3 => hfin h w3 G3 a3 R3 ((v1.trans' v2).trans' v3)
    | zero =>
    rw [hfu] at hr
    simp only at hr
    cases draw with
    | false =>
      simp only [cond_true] at h
      exact wp_region (runOps_ok hK hnt R hr (hfin h))
    | true =>
      simp only at h
      cases hc : (X.P.follows .mixedOrders && (backOk ops && drawOk ops (Region.before ops) L)) with
      | false => simp [hc] at h
      | true =>
        simp only [hc, cond_true] at h
        simp only [Bool.and_eq_true] at hc
        obtain ⟨hm, hb, hd⟩ := hc
        obtain ⟨T, e, ht, hmp⟩ := runOps_tr hr
        simp only [List.append_nil] at e
        subst e
        have hok : Ok ops T := by
          have := drawOk_spec hd
          rw [List.pairwise_reverse] at this
          exact this
        have hlen : T.length = ops.size := by
          have := congrArg List.length hmp
          simpa using this
        have hR' : Rel base U M0 w0 ν M nt { w with drawn := w.drawn + 1 } S G a := by
          have ok := R.at_.ok
          have fr := R.at_.fr
          have kp := fr.keep
          exact ⟨⟨⟨ok.cell, ok.dj, ok.djE, ok.nd, ok.ndE, ok.lt, ok.up, ok.bs, ok.none_, ok.out_⟩, R.at_.E, R.at_.out, ⟨⟨kp.os, kp.tape, kp.output, kp.size, kp.block⟩, fr.fr⟩⟩, R.tm, R.size, R.defers, R.imp⟩
        refine wp_region_any hm (any_ok hK hnt hb ops.size (L := T) (by omega) (by simp) ?_ ?_ ?_ hok ht hR' ?_)
        · intro k hk
          simp [Array.getD] at hk
        · intro i hi
          simp [Array.getD, hi, hmp]
        · rw [hmp]; exact List.nodup_range
        · intro w' G' a' R' v'
          exact hfin h w' G' a' R' v'
end
end Go.Vm

namespace Go.Vm
open Go
section
variable {base : Nat} {U : Nat → Prop} {w : World} {X : Ctx}
theorem entArg_ok {f i : Nat} {fl : Bool} {m : Mem} {G : GS} {v v' : V} {g : Value} {N N1 N2 E : List Nat} (hg : Gok base U w m G) (ho : G.out = []) (hN : N = N1 ++ N2) (hE : (N ++ E).Perm G.E)
    (hq : match modeOf X.adv f i with
      | 1 => ∃ x, v = .d x ∧ ow (heapOf w) (Gh U w G) x g N1
      | _ => N1 = [] ∧ simV G.μ m (Gh U w G) v g) {m' : Mem} {l l' : Log} (h : (entArg X.adv f i fl v).run m l = some (v', m', l')) :
    ∃ G', Gok base U w m' G' ∧ GLe m G m' G' ∧ (N2 ++ E).Perm G'.E ∧ G'.out = [] ∧ simV G'.μ m' (Gh U w G') v' g := by
  subst hN
  rw [List.append_assoc] at hE
  unfold entArg at h
  split at hq
  · rename_i hmo
    obtain ⟨x, rfl, hx⟩ := hq
    rw [hmo] at h
    simp only at h
    have hdef : ∀ y, ow (heapOf w) (Gh U w G) y g N1 → (Pure.pure (V.d (roD y)) : Acc V).run m l = some (v', m', l') →
        ∃ G', Gok base U w m' G' ∧ GLe m G m' G' ∧ (N2 ++ E).Perm G'.E ∧ G'.out = [] ∧ simV G'.μ m' (Gh U w G') v' g := by
      intro y hy h
      simp only [run_pure, Option.some.injEq, Prod.mk.injEq] at h
      obtain ⟨rfl, rfl, rfl⟩ := h
      obtain ⟨d1, d2, d3⟩ := hg.dropN hE
      refine ⟨_, d1, d2, List.Perm.refl _, ho, ?_⟩
      simp only [simV]
      exact ro_roD (d3 hy)
    split at h
    · rename_i s rows he
      cases he
      replace h := run_bind_some h; obtain ⟨x1, m1, l1, h1, h⟩ := h
      simp only [run_pure, Option.some.injEq, Prod.mk.injEq] at h
      obtain ⟨rfl, rfl, rfl⟩ := h
      obtain ⟨G1, g1, s1⟩ := newArr_ok hg (fun r hr => by rw [ho] at hr; simp at hr) hE hx h1
      exact ⟨G1, g1.ok, g1.le, by rw [g1.E], g1.out.trans ho, s1⟩
    · rename_i y hne he
      cases he
      exact hdef _ hx h
    · exact (run_fail h).elim
  · rename_i hmo
    obtain ⟨rfl, hs⟩ := hq
    split at h
    · rename_i e; exact absurd e hmo
    · simp only [run_pure, Option.some.injEq, Prod.mk.injEq] at h
      obtain ⟨rfl, rfl, rfl⟩ := h
      exact ⟨G, hg, GLe.refl _ _, by simpa using hE, ho, hs⟩
theorem entArgs_ok {f : Nat} : ∀ {vs : List V} {i : Nat} {ts : List TypeId} {gs : List Value} {m : Mem} {G : GS} {N E : List Nat} (_ : Gok base U w m G) (_ : G.out = []) (_ : (N ++ E).Perm G.E)
    (_ : mixS X.adv f G.μ m (heapOf w) (Gh U w G) i vs gs N) {tm : Tmps} {m' : Mem} {l l' : Log} (_ : (entArgs X f i ts vs).run m l = some (tm, m', l')),
    ∃ G', Came base U w m G m' G' E ∧ ∀ t v, get t tm = some v → ∃ k g, t = i + k ∧ gs[k]? = some g ∧ simV G'.μ m' (Gh U w G') v g
  | [], i, ts, gs, m, G, N, E, hg, ho, hE, hq, tm, m', l, l', h => by
    simp only [entArgs, run_pure, Option.some.injEq, Prod.mk.injEq] at h
    obtain ⟨rfl, rfl, rfl⟩ := h
    obtain ⟨d1, d2, _⟩ := hg.dropN hE
    exact ⟨_, ⟨d1, d2, rfl, ho⟩, fun t v ht => by simp [get] at ht⟩
  | v :: vs, i, ts, gs, m, G, N, E, hg, ho, hE, hq, tm, m', l, l', h => by
    simp only [mixS] at hq
    obtain ⟨g, gs', N1, N2, rfl, hN, q1, q2⟩ := hq
    simp only [entArgs] at h
    replace h := run_bind_some h; obtain ⟨v1, m1, l1, h1, h⟩ := h
    replace h := run_bind_some h; obtain ⟨r, m2, l2, h2, h⟩ := h
    simp only [run_pure, Option.some.injEq, Prod.mk.injEq] at h
    obtain ⟨rfl, rfl, rfl⟩ := h
    obtain ⟨G1, g1, le1, e1, o1, s1⟩ := entArg_ok hg ho hN hE q1 h1
    have q2' := mixS_mono (A := X.adv) (f := f) le1.mem le1.view (H' := heapOf w) (fun _ _ => rfl) q2
    obtain ⟨G2, c2, s2⟩ := entArgs_ok g1 o1 e1 q2' h2
    refine ⟨G2, ⟨c2.ok, le1.trans c2.le, c2.E, c2.out⟩, fun t u ht => ?_⟩
    simp only [get] at ht
    by_cases hti : t = i
    · subst hti
      simp only [Nat.beq_refl, cond_true, Option.some.injEq] at ht
      subst ht
      exact ⟨0, g, by simp, rfl, c2.le.simV s1⟩
    · rw [beq_no hti] at ht
      simp only [cond_false] at ht
      obtain ⟨k, g', e, hk, hs⟩ := s2 t u ht
      exact ⟨k + 1, g', by omega, by simpa using hk, hs⟩
theorem mixS_length {A : Adv} {f : Nat} {μ : Nat → Value} {m : Mem} {H : Heap} {h : View} : ∀ {vs : List V} {i : Nat} {gs : List Value} {N : List Nat}, mixS A f μ m H h i vs gs N → gs.length = vs.length
  | [], _, _, _, q => by simp only [mixS] at q; simp [q.1]
  | v :: vs, i, _, _, q => by
    simp only [mixS] at q
    obtain ⟨g, gs', N1, N2, rfl, _, _, q2⟩ := q
    simp [mixS_length q2]
theorem cellsB_length {H : Heap} {h : View} : ∀ {cs : List Cell} {gs : List Value} {N : List Nat}, cellsB H h cs gs N → gs.length = cs.length
  | [], _, _, q => by simp [q.1]
  | c :: cs, _, _, ⟨g, gs', N1, N2, e, _, _, q⟩ => by subst e; simp [cellsB_length q]
theorem cellB_same {H : Heap} {h : View} {c : Cell} {g : Value} {N : List Nat} (q : cellB H h c g N) : sameKind c c := by
  cases c with
  | box t vs => exact rfl
  | arr fz fl ver s rows => obtain ⟨_, hv, _⟩ := q; exact ⟨hv, hv, rfl, rfl⟩
  | dead => exact q
  | que _ _ _ => exact q
  | kbox _ _ => exact q
  | loan _ _ _ _ _ => exact q
theorem kinds_imp {H : Heap} {h : View} {m : Mem} : ∀ {cs : List Cell} {k : Nat} {gs : List Value} {N : List Nat}, (∀ i, get (impBase + (k + i)) m = cs[i]?) → cellsB H h cs gs N → kinds m ((List.range' k cs.length).map (impBase + ·)) cs
  | [], k, gs, N, _, _ => by simp [kinds]
  | c :: cs, k, _, _, hm, ⟨g, gs', N1, N2, e, _, q1, q2⟩ => by
    rw [List.length_cons, List.range'_succ, List.map_cons]
    refine ⟨c, c, cs, rfl, by have := hm 0; simpa using this, cellB_same q1, kinds_imp (fun i => ?_) q2⟩
    have := hm (i + 1)
    rw [show k + 1 + i = k + (i + 1) by omega]
    simpa using this
theorem impKeys_eq (n : Nat) : impKeys n = (List.range' 0 n).map (impBase + ·) := by rw [impKeys, List.range_eq_range']
theorem impKeys_nodup (n : Nat) : (impKeys n).Nodup := by
  unfold impKeys
  exact List.Pairwise.map _ (fun a b h e => h (Nat.add_left_cancel e)) List.nodup_range
theorem impKeys_get {n i : Nat} (h : i < n) : (impKeys n)[i]? = some (impBase + i) := by simp [impKeys, h]
theorem impKeys_length (n : Nat) : (impKeys n).length = n := by simp [impKeys]
theorem impKeys_map (gs : List Value) : (impKeys gs.length).map (impμ gs) = gs := by
  apply List.ext_getElem?
  intro i
  rw [List.getElem?_map]
  by_cases h : i < gs.length
  · rw [impKeys_get h]
    simp [impμ, h]
  · rw [List.getElem?_eq_none (by rw [impKeys_length]; omega), List.getElem?_eq_none (by omega)]
    rfl
theorem get_impMem_some : ∀ {cs : List Cell} {k r : Nat} {c : Cell}, get r (impMem k cs) = some c → ∃ i, r = impBase + (k + i) ∧ cs[i]? = some c
  | [], _, _, _, h => by simp [impMem, get] at h
  | c' :: cs, k, r, c, h => by
    simp only [impMem, get] at h
    by_cases e : r = impBase + k
    · subst e
      simp only [Nat.beq_refl, cond_true, Option.some.injEq] at h
      exact ⟨0, by simp, by simp [h]⟩
    · rw [beq_no e] at h
      simp only [cond_false] at h
      obtain ⟨i, h1, h2⟩ := get_impMem_some h
      exact ⟨i + 1, by omega, by simpa using h2⟩
theorem entry_ok {f : Nat} {fn : Func} {args : List V} {cells : List Cell} {gargs gcells : List Value} {N1 N2 : List Nat} (hG : Given X base U w f args cells gargs gcells N1 N2) {tm : Tmps} {m' : Mem} {l' : Log}
    (h : (entry X f fn args cells).run (impMem 0 cells) .none = some (tm, m', l')) (hn : args.length ≤ fn.ntmps) :
    ∃ G, Rel base U (N1 ++ N2) w (impμ gcells) (impMem 0 cells) fn.ntmps w ⟨tm, m'⟩ G { tmps := gargs.toArray ++ Array.replicate (fn.ntmps - gargs.toArray.size) undef, defers := [] } := by
  simp only [entry] at h
  replace h := run_bind_some h; obtain ⟨_, m1, l1, h1, h⟩ := h
  have hlen := cellsB_length hG.cells
  have hexF : ∀ b, excl (fun _ => []) (N1 ++ N2) b ↔ b ∈ N1 ++ N2 := by
    intro b
    constructor
    · rintro (hb | ⟨r, hb⟩)
      · exact hb
      · simp at hb
    · exact fun hb => .inl hb
  have hg0 : Gok base U w (impMem 0 cells) ⟨impμ gcells, fun _ => [], N1 ++ N2, impKeys cells.length⟩ := by
    refine ⟨?_, ?_, ?_, ?_, hG.nd, ?_, hG.up, hG.bs, ?_, ?_⟩
    · intro r c hr hro
      exfalso
      apply hro
      obtain ⟨i, e, hi⟩ := get_impMem_some hr
      have hil : i < cells.length := (List.getElem?_eq_some_iff.1 hi).1
      show r ∈ impKeys cells.length
      rw [e, impKeys]
      exact List.mem_map.2 ⟨0 + i, List.mem_range.2 (by omega), rfl⟩
    · intro r r' _ b hb; simp at hb
    · intro r b hb; simp at hb
    · intro r; simp
    · intro b hb
      exact hG.lt b ((hexF b).1 hb)
    · intro r _; rfl
    · intro r _; rfl
  have hv : (view w U (· ∈ N1 ++ N2)).le (Gh U w ⟨impμ gcells, fun _ => [], N1 ++ N2, impKeys cells.length⟩) := view_le (fun _ x => x) (fun b hb => (hexF b).1 hb)
  have hk0 : kinds (impMem 0 cells) (impKeys cells.length) (cells.drop 0) := by
    rw [List.drop_zero, impKeys_eq]
    exact kinds_imp (fun i => by rw [Nat.zero_add]; exact get_impMem0 cells i) hG.cells
  obtain ⟨G1, c1⟩ := reAll_ok (i := 0) (N := N2) (E := N1) hg0 (impKeys_nodup _) rfl hk0 List.perm_append_comm (by
    rw [List.drop_zero, ← hlen, impKeys_map]
    exact cellsB_grow hv hG.cells) h1
  obtain ⟨G2, c2, s2⟩ := entArgs_ok (N := N1) (E := []) c1.ok c1.out (by rw [c1.E]; simp) (mixS_mono c1.le.mem (hv.trans' c1.le.view) (fun _ _ => rfl) hG.args) h
  have hal := mixS_length hG.args
  refine ⟨G2, ⟨c2.ok, c2.E, c2.out, ⟨Keep.refl _ _, fun b hb => .inl ((hexF b).1 (c1.le.ex b (c2.le.ex b hb)))⟩⟩, ?_, ?_, rfl, memLe_trans c1.le.mem c2.le.mem⟩
  · intro t v ht
    obtain ⟨k, g, e, hk, hs⟩ := s2 t v ht
    have hkl : k < gargs.length := (List.getElem?_eq_some_iff.1 hk).1
    have ht' : t < (gargs.toArray ++ Array.replicate (fn.ntmps - gargs.toArray.size) undef).size := by simp; omega
    refine ⟨ht', ?_⟩
    have : (gargs.toArray ++ Array.replicate (fn.ntmps - gargs.toArray.size) undef).getD t undef = g := by
      rw [Array.getD_eq_getD_getElem?, Array.getElem?_append_left (by simp; omega)]
      have : t = k := by omega
      subst this
      simp [hk]
    simp only [this]
    exact hs
  · simp
    omega
end
end Go.Vm

namespace Go.Vm
open Go
section
variable {base : Nat} {U : Nat → Prop} {w : World} {X : Ctx} {P : Program}
def resM (tmps : Array Value) : ResultVar → Sem Value
  | .tmp t => pure (tmps.getD t undef)
  | .cell a t => do loadVar t (← asAddr (tmps.getD a undef))
theorem run_mapM_list {α : Type} (f : α → Sem Value) : ∀ (l : List α) (gs : List Value), (∀ (i : Nat) x, l[i]? = some x → ∃ g, gs[i]? = some g ∧ (f x).run P w = .ok g w) → l.length = gs.length → (l.mapM f).run P w = .ok gs w
  | [], gs, _, hl => by
    have : gs = [] := List.length_eq_zero_iff.1 hl.symm
    subst this
    rfl
  | x :: l, gs, h, hl => by
    cases gs with
    | nil => simp at hl
    | cons g gs =>
      obtain ⟨g', h1, h2⟩ := h 0 x rfl
      simp only [List.getElem?_cons_zero, Option.some.injEq] at h1
      subst h1
      have ih := run_mapM_list f l gs (fun i y hy => by simpa using h (i + 1) y (by simpa using hy)) (by simpa using hl)
      rw [List.mapM_cons]
      simp only [Sem.run_bind, h2, Result.andThen_ok, ih]
      rfl
theorem results_run {fn : Func} {tmps : Array Value} {gs : List Value} (h : ∀ (i : Nat) x, fn.results.toList[i]? = some x → ∃ g, gs[i]? = some g ∧ (resM tmps x).run P w = .ok g w) (hl : fn.results.toList.length = gs.length) :
    (results fn tmps).run P w = .ok (retV gs) w := by
  have hm := run_mapM_list (P := P) (w := w) (resM tmps) fn.results.toList gs h hl
  have e : results fn tmps = (do
    let vs ← fn.results.mapM (resM tmps)
    pure (if h : vs.size = 1 then vs[0] else .tuple vs)) := by
    unfold results
    first
      | rfl
      | (congr 1; done)
      | (congr 1; congr 1; done)
  rw [e, Array.mapM_eq_mapM_toList]
  simp only [map_eq_pure_bind, Sem.run_bind, hm, Result.andThen_ok, Sem.run_pure]
  congr 1
  unfold retV
  cases gs with
  | nil => rfl
  | cons g gs => cases gs with
    | nil => simp
    | cons _ _ => simp
theorem leaveBox_ok {m0 : Mem} {G : GS} {T : TypeId} {v : V} {g : Value} (hg : Gok base U w m0 G) (ho : G.out = []) (hx : simV G.μ m0 (Gh U w G) v g) {row : Row} {m' : Mem} {l l' : Log} (h : (leaveBox T v).run m0 l = some (row, m', l')) :
    ∃ G' N g', Took base U w m0 G m' G' N ∧ g = g' ∧ ∃ b a N1, g' = .pointer (some ⟨b, 0, none⟩) ∧ heapOf w b = some (.cells a T (0, 0)) ∧ owRow (heapOf w) (Gh U w G') row a.toList N1 ∧ row.length = a.size ∧ N = b :: N1 := by
  unfold leaveBox at h
  split at h
  · rename_i r off
    replace h := run_bind_some h; obtain ⟨c, m2, l2, h2, h⟩ := h
    rw [run_rd] at h2
    cases h2
    cases hc : get r m0 with
    | none => rw [hc] at h; exact (run_fail h).elim
    | some c =>
      rw [hc] at h
      cases c with
      | arr _ _ _ _ _ => exact (run_fail h).elim
      | dead => exact (run_fail h).elim
      | que _ _ _ => exact (run_fail h).elim
      | kbox _ _ => exact (run_fail h).elim
      | loan _ _ _ _ _ => exact (run_fail h).elim
      | box T' cs =>
        simp only at h
        replace h := run_bind_some h; obtain ⟨_, m2, l2, h2, h⟩ := h
        obtain ⟨hck, rfl, rfl⟩ := run_ck h2
        simp only [Bool.and_eq_true] at hck
        have e1 := Nat.eq_of_beq_eq_true hck.1
        have e2 := Nat.eq_of_beq_eq_true hck.2
        subst e1 e2
        replace h := run_bind_some h; obtain ⟨_, m3, l3, h3, h⟩ := h
        rw [run_wr] at h3
        cases h3
        have hr : r ∉ G.out := by simp [ho]
        obtain ⟨b, a, q1, q2, q3, q4⟩ := hg.cell r _ hc hr
        simp only [simV, hc] at hx
        obtain ⟨_, b', hμ, rfl⟩ := hx
        rw [hμ] at q1
        cases q1
        have hbF : b ∈ G.F r := by rw [q4]; simp
        have hle := memLe_put (μ := G.μ) (μ' := G.μ) (c' := .dead) (fun _ _ => rfl) (fun c h => by rw [hc] at h; cases h; trivial)
        obtain ⟨k1, k2⟩ := hg.set r .dead G.μ [] (G.E ++ [b]) G.out (by
          simpa using List.nodup_append.2 ⟨hg.ndE, by simp, fun x hx y hy e => by
            simp only [List.mem_singleton] at hy
            subst hy; subst e
            exact hg.djE r _ hbF hx⟩) (by
          simp only [List.nil_append, List.mem_append, List.mem_singleton]
          rintro x (hx | rfl)
          · exact .inr hx
          · exact .inl hbF) hle (fun _ _ => rfl) (fun _ _ => Iff.rfl) (fun _ => rfl) (fun _ _ => rfl)
        have t0 : Took base U w _ G _ ⟨G.μ, upF G.F r [], G.E ++ [b], G.out⟩ [b] := ⟨k1, k2, rfl, rfl, rfl⟩
        obtain ⟨G', N, t1, p1, hl⟩ := toRow_ok k1 (k2.simVs q3) ho h
        exact ⟨G', [b] ++ N, _, t0.trans t1, rfl, b, a, N, rfl, q2, p1, by rw [hl, ← simVs_length q3, Array.length_toList], rfl⟩
  · exact (run_fail h).elim
theorem resRow_ok {m : Mem} {G : GS} {tm : Tmps} {a : Act} {r : ResultVar} {t : TypeId} (hg : Gok base U w m G) (ho : G.out = []) (hT : simT G.μ m (Gh U w G) tm a) {row : Row} {m' : Mem} {l l' : Log} (h : (resRow P tm r t).run m l = some (row, m', l')) :
    ∃ G' N g, Took base U w m G m' G' N ∧ (resM a.tmps r).run P w = .ok g w ∧ retS P (heapOf w) (Gh U w G') t row g N := by
  cases r with
  | tmp x =>
    simp only [resRow] at h
    have hx := ev_ok (P := P) hT 0 (.tmp x)
    simp only [ev] at hx
    cases hpt : ptrT P t with
    | some T =>
      rw [hpt] at h
      simp only [retS, hpt]
      obtain ⟨G', N, g, t1, hg1, q1⟩ := leaveBox_ok hg ho hx h
      exact ⟨G', N, g, t1, by rw [← hg1]; rfl, q1⟩
    | none =>
    rw [hpt] at h
    simp only [retS_val hpt]
    have hgo : ∀ v : V, simV G.μ m (Gh U w G) v (a.eval (.tmp x)) → aggT P t = false → (toRow [v]).run m l = some (row, m', l') →
        ∃ G' N g, Took base U w m G m' G' N ∧ (resM a.tmps (.tmp x)).run P w = .ok g w ∧ ∃ cs, valOf P t cs g ∧ owRow (heapOf w) (Gh U w G') row cs N ∧ row.length = cs.length := by
      intro v hv ht h
      obtain ⟨G', N, t1, q1, hl⟩ := toRow_ok hg (vs := [v]) (gs := [a.eval (.tmp x)]) (by simp only [simVs]; exact ⟨_, _, rfl, hv, rfl⟩) ho h
      exact ⟨G', N, a.eval (.tmp x), t1, rfl, [a.eval (.tmp x)], by simp [valOf, ht], q1, by rw [hl]; rfl⟩
    cases ht : aggT P t with
    | true =>
      rw [ht] at h
      cases hv : getT x tm with
      | agg cs =>
        rw [hv] at h hx
        simp only [simV] at hx
        obtain ⟨arr, e, hs⟩ := hx
        obtain ⟨G', N, t1, q1, hl⟩ := toRow_ok hg hs ho h
        refine ⟨G', N, _, t1, rfl, arr.toList, ?_, q1, by rw [hl, simVs_length hs]⟩
        simp only [valOf, ht, if_true]
        exact e
      | _ => rw [hv] at h; exact (run_fail h).elim
    | false =>
      rw [ht] at h
      cases hv : getT x tm with
      | agg cs => rw [hv] at h; exact (run_fail h).elim
      | _ => rw [hv] at h hx; exact hgo _ hx ht h
  | cell y T =>
    simp only [resRow] at h
    have hx := ev_ok (P := P) hT 0 (.tmp y)
    simp only [ev] at hx
    split at h
    · rename_i r he
      rw [he] at hx
      replace h := run_bind_some h; obtain ⟨c, m2, l2, h2, h⟩ := h
      rw [run_rd] at h2
      cases h2
      cases hc : get r m with
      | none => rw [hc] at h; exact (run_fail h).elim
      | some c =>
        rw [hc] at h
        cases c with
        | arr _ _ _ _ _ => exact (run_fail h).elim
        | dead => exact (run_fail h).elim
        | que _ _ _ => exact (run_fail h).elim
        | kbox _ _ => exact (run_fail h).elim
        | loan _ _ _ _ _ => exact (run_fail h).elim
        | box T' cs =>
          simp only at h
          replace h := run_bind_some h; obtain ⟨_, m2, l2, h2, h⟩ := h
          obtain ⟨hck, rfl, rfl⟩ := run_ck h2
          simp only [Bool.and_eq_true, Bool.or_eq_true] at hck
          obtain ⟨⟨⟨hTt, hlen⟩, hok, hagg⟩, hptn⟩ := hck
          have hptn : ptrT P t = none := by simpa using hptn
          have hTt := Nat.eq_of_beq_eq_true hTt
          have hlen := Nat.eq_of_beq_eq_true hlen
          subst hTt
          simp only [simV, hc] at hx
          obtain ⟨_, b, hμ, hg0⟩ := hx
          obtain ⟨b', arr, e1, e2, e3, e4⟩ := hg.cell r _ hc (by rw [ho]; simp)
          rw [hμ] at e1
          cases e1
          obtain ⟨G', N, t1, q1, hl⟩ := toRow_ok hg e3 ho h
          have hal := simVs_length e3
          obtain ⟨g, hvg⟩ : ∃ g, valOf P T arr.toList g := by
            unfold valOf
            cases ha : aggT P T with
            | true => exact ⟨_, rfl⟩
            | false =>
              have h1 : cs.length = 1 := by
                rcases hagg with h1 | h1
                · rw [ha] at h1; cases h1
                · exact Nat.eq_of_beq_eq_true h1
              cases hr : arr.toList with
              | nil => rw [hr] at hal; simp [h1] at hal
              | cons g r =>
                cases r with
                | nil => exact ⟨g, rfl⟩
                | cons _ _ => rw [hr] at hal; simp [h1] at hal
          refine ⟨G', N, g, t1, ?_, (retS_val hptn).2 ⟨arr.toList, hvg, q1, by rw [hl, hal]⟩⟩
          have hrun := run_loadAt (P := P) (w := w) (t := T) (b := b) (off := 0) (cs := arr.toList) (g := g) hok (by rw [hal, hlen]) (by
            intro j v hj
            have hH : w.heap[b]? = some (.cells arr T' (0, 0)) := e2
            simp only [World.cell?, hH, Nat.zero_add]
            simpa using hj) hvg
          simp only [resM]
          have hg0 : a.tmps.getD y undef = .pointer (some ⟨b, 0, none⟩) := hg0
          rw [hg0]
          simpa [Instr.loadAt, Instr.sureAddr, asAddr] using hrun
    · exact (run_fail h).elim
theorem resRows_ok {tm : Tmps} {a : Act} : ∀ {rs : List ResultVar} {ts : List TypeId} {m : Mem} {G : GS} (_ : Gok base U w m G) (_ : G.out = []) (_ : simT G.μ m (Gh U w G) tm a) {rows : List Row} {m' : Mem} {l l' : Log}
    (_ : (resRows P tm rs ts).run m l = some (rows, m', l')), ∃ G' N gs, Took base U w m G m' G' N ∧ (∀ (i : Nat) x, rs[i]? = some x → ∃ g, gs[i]? = some g ∧ (resM a.tmps x).run P w = .ok g w) ∧ rs.length = gs.length ∧
      retsS P (heapOf w) (Gh U w G') ts rows gs N
  | [], [], m, G, hg, ho, hT, rows, m', l, l', h => by
    simp only [resRows, run_pure, Option.some.injEq, Prod.mk.injEq] at h
    obtain ⟨rfl, rfl, rfl⟩ := h
    exact ⟨G, [], [], Took.same hg, fun i x h => by simp at h, rfl, rfl, rfl, rfl⟩
  | r :: rs, t :: ts, m, G, hg, ho, hT, rows, m', l, l', h => by
    simp only [resRows] at h
    replace h := run_bind_some h; obtain ⟨row, m1, l1, h1, h⟩ := h
    replace h := run_bind_some h; obtain ⟨rows', m2, l2, h2, h⟩ := h
    simp only [run_pure, Option.some.injEq, Prod.mk.injEq] at h
    obtain ⟨rfl, rfl, rfl⟩ := h
    obtain ⟨G1, N1, g, t1, r1, v1⟩ := resRow_ok hg ho hT h1
    obtain ⟨G2, N2, gs, t2, r2, e2, q2⟩ := resRows_ok t1.ok (t1.out.trans ho) (fun t v hv => ⟨(hT t v hv).1, t1.le.simV (hT t v hv).2⟩) h2
    refine ⟨G2, N1 ++ N2, g :: gs, t1.trans t2, ?_, by simp [e2], row, rows', g, gs, N1, N2, rfl, rfl, rfl, retS_mono t2.le.view (fun _ _ => rfl) v1, q2⟩
    intro i x hx
    cases i with
    | zero =>
      simp only [List.getElem?_cons_zero, Option.some.injEq] at hx
      subst hx
      exact ⟨g, rfl, r1⟩
    | succ i => simpa using r2 i x (by simpa using hx)
  | [], _ :: _, _, _, _, _, _, _, _, _, _, h => (run_fail h).elim
  | _ :: _, [], _, _, _, _, _, _, _, _, _, h => (run_fail h).elim
theorem kind_back {μ μ' : Nat → Value} {r : Nat} {c c' d : Cell} (hc : sameKind c c) (h : cellLe μ μ' r c c') (k : sameKind c' d) : μ' r = μ r ∧ sameKind c d := by
  cases c <;> cases c' <;> cases d <;> simp only [sameKind, cellLe] at hc h k ⊢
  · exact ⟨h.2, h.1.symm.trans k⟩
  · obtain ⟨a1, a2, a3, a4⟩ := k
    obtain ⟨b1, b2, b3⟩ := h
    obtain ⟨c1, _, _, _⟩ := hc
    have := b3 (c1.trans a1.symm)
    exact ⟨this.1, c1, a2, b2.symm.trans a3, this.2.symm.trans a4⟩
  all_goals trivial
theorem outs_back {μ μ' : Nat → Value} {m0 m1 : Mem} (hle : memLe μ m0 μ' m1) : ∀ {rs : List Nat} {cs ds : List Cell}, kinds m0 rs cs → kinds m1 rs ds → (∀ c, c ∈ cs → sameKind c c) → (∀ (i r : Nat) c, rs[i]? = some r → cs[i]? = some c → get r m0 = some c) → rs.map μ' = rs.map μ ∧ kindL cs ds
  | [], cs, ds, h, k, _, _ => by
    simp only [kinds] at h k
    subst h; subst k
    exact ⟨rfl, rfl⟩
  | r :: rs, cs, ds, ⟨c, c', cs', e1, h1, h2, h3⟩, ⟨d, d', ds', e2, k1, k2, k3⟩, hs, hg => by
    subst e1; subst e2
    have hc := hg 0 r c' rfl rfl
    obtain ⟨c2, q1, q2⟩ := hle r c' hc
    rw [k1] at q1
    cases q1
    obtain ⟨p1, p2⟩ := kind_back (hs c' (by simp)) q2 k2
    obtain ⟨r1, r2⟩ := outs_back hle h3 k3 (fun c hc => hs c (by simp [hc])) (fun i r c hr hc => hg (i + 1) r c (by simpa using hr) (by simpa using hc))
    exact ⟨by simp [p1, r1], d', ds', rfl, p2, r2⟩
theorem cellsB_same {H : Heap} {h : View} : ∀ {cs : List Cell} {gs : List Value} {N : List Nat}, cellsB H h cs gs N → ∀ c, c ∈ cs → sameKind c c
  | [], _, _, _, c, hc => by simp at hc
  | c :: cs, _, _, ⟨g, gs', N1, N2, e, _, q1, q2⟩, d, hd => by
    rcases List.mem_cons.1 hd with rfl | hd
    · exact cellB_same q1
    · exact cellsB_same q2 d hd
theorem leave_ok {f : Nat} {fn : Func} {args : List V} {cells outs : List Cell} {gargs gcells : List Value} {N1 N2 : List Nat} {w' : World} (hG : Given X base U w f args cells gargs gcells N1 N2) {S : St} {G : GS} {a : Act} {nt : Nat}
    (R : Rel base U (N1 ++ N2) w (impμ gcells) (impMem 0 cells) nt w' S G a) {rows : List Row} (h : leave X fn cells.length S = some (rows, outs)) :
    ∃ gs M1 M2, (results fn a.tmps).run X.P w' = .ok (retV gs) w' ∧ Did X.P U w w' (N1 ++ N2) fn.resultTypes.toList cells outs gcells rows gs M1 M2 := by
  simp only [leave] at h
  split at h
  · rename_i r m' l' hr
    simp only [Option.some.injEq] at h
    subst h
    replace hr := run_bind_some hr; obtain ⟨rows1, m1, l1, h1, hr⟩ := hr
    replace hr := run_bind_some hr; obtain ⟨cs1, m2, l2, h2, hr⟩ := hr
    simp only [run_pure, Option.some.injEq, Prod.mk.injEq] at hr
    obtain ⟨⟨rfl, rfl⟩, rfl, rfl⟩ := hr
    obtain ⟨G1, Nr, gs, t1, r1, e1, q1⟩ := resRows_ok R.at_.ok R.at_.out R.tm h1
    have ho1 : G1.out = [] := t1.out.trans R.at_.out
    obtain ⟨G2, Nc, t2, q2, kd2⟩ := expAll_ok t1.ok (impKeys_nodup cells.length) (fun r hr => ⟨hr, by rw [ho1]; simp⟩) (fun r hr => by rw [ho1] at hr; simp at hr) h2
    have hE2 : G2.E = Nr ++ Nc := by rw [t2.E, t1.E, R.at_.E]; rfl
    have hlen := cellsB_length hG.cells
    have hk0 : kinds (impMem 0 cells) (impKeys cells.length) cells := by
      rw [impKeys_eq]
      exact kinds_imp (fun i => by rw [Nat.zero_add]; exact get_impMem0 cells i) hG.cells
    obtain ⟨b1, b2⟩ := outs_back (memLe_trans R.imp t1.le.mem) hk0 kd2 (cellsB_same hG.cells) (by
      intro i r c hr hc
      have hi : i < cells.length := (List.getElem?_eq_some_iff.1 hc).1
      rw [impKeys_get hi] at hr
      cases hr
      rw [get_impMem0]; exact hc)
    have hv : (Gh U w' G2).le (view w' U (· ∈ Nc ++ Nr)) := view_le (fun _ x => x) (fun b hb => .inl (by rw [hE2]; simp only [List.mem_append] at hb ⊢; exact hb.symm))
    refine ⟨gs, Nc, Nr, results_run r1 e1, R.at_.fr.keep, ?_, ?_, b2, ?_, ?_⟩
    · have := t2.ok.ndE
      rw [hE2] at this
      exact (List.perm_append_comm.nodup_iff).1 this
    · intro b hb
      have hbE : b ∈ G2.E := by rw [hE2]; simp only [List.mem_append] at hb ⊢; exact hb.symm
      exact ⟨R.at_.fr.fr b (t1.le.ex b (t2.le.ex b (.inl hbE))), (t2.ok.lt b (.inl hbE)).1⟩
    · rw [b1, ← hlen, impKeys_map] at q2
      exact cellsB_grow hv q2
    · exact retsS_mono (t2.le.view.trans' hv) (fun _ _ => rfl) q1
  · cases h
theorem body_ok {K : Kont} (hK : Sound X K) {f : FuncId} {fn : Func} {args : List V} {cells : List Cell} {rows : List Row} {outs : List Cell} (hf : X.P.funcs[f]? = some fn) (h : body X K f args cells = some (rows, outs))
    {gargs gcells : List Value} {N1 N2 : List Nat} (hG : Given X base U w f args cells gargs gcells N1 N2) :
    Calls X.P f gargs.toArray w fun e w' => ∃ gs M1 M2, e = .returned (retV gs) ∧ Did X.P U w w' (N1 ++ N2) fn.resultTypes.toList cells outs gcells rows gs M1 M2 := by
  simp only [body, hf] at h
  cases hb : fn.body with
  | none => simp [hb] at h
  | some c =>
    simp only [hb] at h
    cases hn : (Nat.ble cells.length impBase && Nat.ble args.length fn.ntmps) with
    | false => simp [hn] at h
    | true =>
      simp only [hn, Bool.not_true, cond_false] at h
      simp only [Bool.and_eq_true] at hn
      have hn1 := Nat.le_of_ble_eq_true hn.1
      have hn2 := Nat.le_of_ble_eq_true hn.2
      split at h
      · rename_i tm m' l' he
        obtain ⟨G, R⟩ := entry_ok hG he hn2
        have hM : ∀ r c, get r (impMem 0 cells) = some c → impKey r = true := by
          intro r c hr
          obtain ⟨i, e, hi⟩ := get_impMem_some hr
          have hil : i < cells.length := (List.getElem?_eq_some_iff.1 hi).1
          subst e
          simp only [impKey, Bool.and_eq_true]
          exact ⟨Nat.ble_eq_true_of_le (by omega), by rw [Nat.blt_eq]; omega⟩
        have hnt : ntOf X.P f = fn.ntmps := by simp [ntOf, hf]
        have hreg := region_ok (base := base) (U := U) (M0 := N1 ++ N2) (w0 := w) (ν := impμ gcells) ⟨hK, hG.gl, hG.tab⟩ hnt hM
        have hfin : ∀ ex S, leave X fn cells.length S = some (rows, outs) → (ex = Ex.normal ∨ ex = Ex.ret) → ∀ w' G' a', Rel base U (N1 ++ N2) w (impμ gcells) (impMem 0 cells) fn.ntmps w' S G' a' → (Gh U w G).le (Gh U w' G') →
            bodyPost X.P fn (fun e w' => ∃ gs M1 M2, e = .returned (retV gs) ∧ Did X.P U w w' (N1 ++ N2) fn.resultTypes.toList cells outs gcells rows gs M1 M2) (exOf ex) a' w' := by
          intro ex S hl hex w' G' a' R' _
          obtain ⟨gs, M1, M2, hr, hd⟩ := leave_ok hG R' hl
          rcases hex with rfl | rfl <;> exact ⟨R'.defers, _, hr, gs, M1, M2, rfl, hd⟩
        split at h
        · rename_i S hd
          exact calls_of_wp hf hb (den_ok hreg c R hd (hfin _ _ h (.inl rfl)))
        · rename_i S hd
          exact calls_of_wp hf hb (den_ok hreg c R hd (hfin _ _ h (.inr rfl)))
        · cases h
      · cases h
end
def PrimOk (X : Ctx) : Prop := ∀ (f : FuncId) (p : List V → List Cell → Option (List Row × List Cell)) (fn : Func) (args : List V) (cells : List Cell) (rows : List Row) (outs : List Cell), X.prim f = some p → X.P.funcs[f]? = some fn → fn.body.isSome = true → p args cells = some (rows, outs) →
  ∀ (base : Nat) (U : Nat → Prop) (w : World) (gargs gcells : List Value) (N1 N2 : List Nat), Given X base U w f args cells gargs gcells N1 N2 →
    Calls X.P f gargs.toArray w fun e w' => ∃ gs M1 M2, e = .returned (retV gs) ∧ Did X.P U w w' (N1 ++ N2) fn.resultTypes.toList cells outs gcells rows gs M1 M2
theorem callN_ok {X : Ctx} (hp : PrimOk X) : ∀ n, Sound X (callN X n)
  | 0 => by
    intro f fn args cells rows outs hf hb h
    simp [callN] at h
  | n + 1 => by
    intro f fn args cells rows outs hf hb h base U w gargs gcells N1 N2 hG
    simp only [callN] at h
    cases hx : X.prim f with
    | some p =>
      rw [hx] at h
      exact hp f p fn args cells rows outs hx hf hb h base U w gargs gcells N1 N2 hG
    | none =>
      rw [hx] at h
      exact body_ok (callN_ok hp n) hf h hG
theorem call_ok {X : Ctx} (hp : PrimOk X) : Sound X (call X) := by
  intro f fn args cells rows outs hf hb h base U w gargs gcells N1 N2 hG
  obtain ⟨n, hn⟩ := lim_some h
  exact callN_ok hp n f fn args cells rows outs hf hb hn base U w gargs gcells N1 N2 hG
end Go.Vm

namespace Go.Vm
open Go
def KLe (K K' : Kont) : Prop := ∀ f args cells r, K f args cells = some r → K' f args cells = some r
theorem KLe.refl (K : Kont) : KLe K K := fun _ _ _ _ h => h
theorem KLe.trans {K1 K2 K3 : Kont} (h : KLe K1 K2) (k : KLe K2 K3) : KLe K1 K3 := fun f a c r q => k f a c r (h f a c r q)
def AUp {α : Type} (A : Kont → Acc α) : Prop := ∀ K K', KLe K K' → ∀ m l r, (A K).run m l = some r → (A K').run m l = some r
theorem AUp.const {α : Type} (a : Acc α) : AUp fun _ => a := fun _ _ _ _ _ _ h => h
theorem AUp.bind {α β : Type} {A : Kont → Acc α} {B : Kont → α → Acc β} (h : AUp A) (k : ∀ x, AUp fun K => B K x) : AUp fun K => A K >>= B K := by
  intro K K' hK m l r hr
  obtain ⟨y, m', l'⟩ := r
  obtain ⟨x, m1, l1, h1, h2⟩ := run_bind_some hr
  rw [run_bind, h K K' hK m l _ h1]
  exact k x K K' hK m1 l1 _ h2
theorem AUp.op {f : Nat} {args : List V} {cells : List Cell} : AUp fun K => op' (K f args cells) := by
  intro K K' hK m l r hr
  obtain ⟨x, m', l'⟩ := r
  obtain ⟨h1, rfl, rfl⟩ := run_op' hr
  simp only
  rw [hK f args cells x h1]
  rfl
def ACt {α : Type} (Kn : Nat → Kont) (K : Kont) (A : Kont → Acc α) : Prop := ∀ m l r, (A K).run m l = some r → ∃ n, (A (Kn n)).run m l = some r
def Chain (Kn : Nat → Kont) : Prop := ∀ n, KLe (Kn n) (Kn (n + 1))
theorem Chain.le {Kn : Nat → Kont} (h : Chain Kn) {n k : Nat} (hk : n ≤ k) : KLe (Kn n) (Kn k) := by
  induction hk with
  | refl => exact KLe.refl _
  | step _ ih => exact ih.trans (h _)
section
variable {Kn : Nat → Kont} {K : Kont} (hc : Chain Kn)
theorem ACt.const {α : Type} (a : Acc α) : ACt Kn K fun _ => a := fun _ _ _ h => ⟨0, h⟩
include hc in
theorem ACt.bind {α β : Type} {A : Kont → Acc α} {B : Kont → α → Acc β} (hu : AUp A) (ku : ∀ x, AUp fun K => B K x) (h : ACt Kn K A) (k : ∀ x, ACt Kn K fun K => B K x) : ACt Kn K fun K => A K >>= B K := by
  intro m l r hr
  obtain ⟨y, m', l'⟩ := r
  obtain ⟨x, m1, l1, h1, h2⟩ := run_bind_some hr
  obtain ⟨n1, q1⟩ := h m l _ h1
  obtain ⟨n2, q2⟩ := k x m1 l1 _ h2
  refine ⟨max n1 n2, ?_⟩
  rw [run_bind, hu _ _ (hc.le (Nat.le_max_left n1 n2)) m l _ q1]
  exact ku x _ _ (hc.le (Nat.le_max_right n1 n2)) m1 l1 _ q2
theorem ACt.op (hK : ∀ f args cells r, K f args cells = some r → ∃ n, Kn n f args cells = some r) {f : Nat} {args : List V} {cells : List Cell} : ACt Kn K fun K => op' (K f args cells) := by
  intro m l r hr
  obtain ⟨x, m', l'⟩ := r
  obtain ⟨h1, rfl, rfl⟩ := run_op' hr
  obtain ⟨n, hn⟩ := hK f args cells x h1
  refine ⟨n, ?_⟩
  simp only
  rw [hn]
  rfl
end
theorem callV_up (X : Ctx) (fn dst f : Nat) (args : List V) : AUp fun K => callV X K fn dst f args := by
  unfold callV
  refine AUp.bind (AUp.const _) fun g => AUp.bind (AUp.const _) fun _ => AUp.bind (AUp.const _) fun args => AUp.bind (AUp.const _) fun cells => AUp.bind (AUp.const _) fun ⟨args, lent⟩ => AUp.bind (AUp.const _) fun _ => AUp.bind AUp.op fun out => AUp.const _
theorem callV_ct {Kn : Nat → Kont} {K : Kont} (hc : Chain Kn) (hK : ∀ f args cells r, K f args cells = some r → ∃ n, Kn n f args cells = some r) (X : Ctx) (fn dst f : Nat) (args : List V) : ACt Kn K fun K => callV X K fn dst f args := by
  unfold callV
  refine ACt.bind hc (AUp.const _) ?_ (ACt.const _) fun g => ?_
  · exact fun g => AUp.bind (AUp.const _) fun _ => AUp.bind (AUp.const _) fun args => AUp.bind (AUp.const _) fun cells => AUp.bind (AUp.const _) fun ⟨args, lent⟩ => AUp.bind (AUp.const _) fun _ => AUp.bind AUp.op fun out => AUp.const _
  refine ACt.bind hc (AUp.const _) ?_ (ACt.const _) fun _ => ?_
  · exact fun g => AUp.bind (AUp.const _) fun args => AUp.bind (AUp.const _) fun cells => AUp.bind (AUp.const _) fun ⟨args, lent⟩ => AUp.bind (AUp.const _) fun _ => AUp.bind AUp.op fun out => AUp.const _
  refine ACt.bind hc (AUp.const _) ?_ (ACt.const _) fun args => ?_
  · exact fun g => AUp.bind (AUp.const _) fun cells => AUp.bind (AUp.const _) fun ⟨args, lent⟩ => AUp.bind (AUp.const _) fun _ => AUp.bind AUp.op fun out => AUp.const _
  refine ACt.bind hc (AUp.const _) ?_ (ACt.const _) fun cells => ?_
  · exact fun g => AUp.bind (AUp.const _) fun ⟨args, lent⟩ => AUp.bind (AUp.const _) fun _ => AUp.bind AUp.op fun out => AUp.const _
  refine ACt.bind hc (AUp.const _) ?_ (ACt.const _) fun ⟨args, lent⟩ => ?_
  · exact fun ⟨args, lent⟩ => AUp.bind (AUp.const _) fun _ => AUp.bind AUp.op fun out => AUp.const _
  refine ACt.bind hc (AUp.const _) ?_ (ACt.const _) fun _ => ?_
  · exact fun _ => AUp.bind AUp.op fun out => AUp.const _
  exact ACt.bind hc AUp.op (fun out => AUp.const _) (ACt.op hK) fun out => ACt.const _
theorem vop_up (X : Ctx) (fn : Nat) (tm : Tmps) (o : Oper) : AUp fun K => vop X K fn tm o := by
  obtain ⟨dst, op, type, pos, after, guard⟩ := o
  cases op <;> try exact AUp.const _
  case call c =>
    obtain ⟨callee, args, tys⟩ := c
    cases callee with
    | value f =>
      simp only [vop]
      split
      · exact callV_up X fn _ _ _
      · exact AUp.const _
    | invoke r m => exact AUp.const _
    | builtin b => cases b <;> exact AUp.const _
  case makeFunc f a b => cases f <;> exact AUp.const _
  case slice a b c d e => cases e <;> exact AUp.const _
theorem vop_ct {Kn : Nat → Kont} {K : Kont} (hc : Chain Kn) (hK : ∀ f args cells r, K f args cells = some r → ∃ n, Kn n f args cells = some r) (X : Ctx) (fn : Nat) (tm : Tmps) (o : Oper) : ACt Kn K fun K => vop X K fn tm o := by
  obtain ⟨dst, op, type, pos, after, guard⟩ := o
  cases op <;> try exact ACt.const _
  case call c =>
    obtain ⟨callee, args, tys⟩ := c
    cases callee with
    | value f =>
      simp only [vop]
      split
      · exact callV_ct hc hK X fn _ _ _
      · exact ACt.const _
    | invoke r m => exact ACt.const _
    | builtin b => cases b <;> exact ACt.const _
  case makeFunc f a b => cases f <;> exact ACt.const _
  case slice a b c d e => cases e <;> exact ACt.const _
def Up {β : Type} (E : Kont → Option β) : Prop := ∀ K K', KLe K K' → ∀ r, E K = some r → E K' = some r
def Ct {β : Type} (Kn : Nat → Kont) (K : Kont) (E : Kont → Option β) : Prop := ∀ r, E K = some r → ∃ n, E (Kn n) = some r
theorem Up.const {β : Type} (e : Option β) : Up fun _ => e := fun _ _ _ _ h => h
theorem Ct.const {β : Type} {Kn : Nat → Kont} {K : Kont} (e : Option β) : Ct Kn K fun _ => e := fun _ h => ⟨0, h⟩
theorem Up.bind {α β : Type} {E : Kont → Option α} {F : Kont → α → Option β} (h : Up E) (k : ∀ x, Up fun K => F K x) : Up fun K => (E K).bind (F K) := by
  intro K K' hK r hr
  simp only [Option.bind_eq_some_iff] at hr ⊢
  obtain ⟨x, h1, h2⟩ := hr
  exact ⟨x, h K K' hK x h1, k x K K' hK r h2⟩
theorem Ct.bind {α β : Type} {Kn : Nat → Kont} {K : Kont} (hc : Chain Kn) {E : Kont → Option α} {F : Kont → α → Option β} (hu : Up E) (ku : ∀ x, Up fun K => F K x) (h : Ct Kn K E) (k : ∀ x, Ct Kn K fun K => F K x) : Ct Kn K fun K => (E K).bind (F K) := by
  intro r hr
  simp only [Option.bind_eq_some_iff] at hr ⊢
  obtain ⟨x, h1, h2⟩ := hr
  obtain ⟨n1, q1⟩ := h x h1
  obtain ⟨n2, q2⟩ := k x r h2
  exact ⟨max n1 n2, x, hu _ _ (hc.le (Nat.le_max_left n1 n2)) x q1, ku x _ _ (hc.le (Nat.le_max_right n1 n2)) r q2⟩
theorem runOp_up (X : Ctx) (fn : Nat) (ops : Array Oper) (i : Nat) (S : St) : Up fun K => runOp X K fn ops i S := by
  intro K K' hK r hr
  simp only [runOp] at hr ⊢
  cases ho : ops[i]? with
  | none => simp [ho] at hr
  | some o =>
    simp only [ho] at hr ⊢
    cases hw : wantedV ops S.tm o with
    | none => simp [hw] at hr
    | some bt =>
      obtain ⟨b, tm⟩ := bt
      cases b with
      | false => simpa [hw] using hr
      | true =>
        simp only [hw] at hr ⊢
        cases hv : (vop X K fn tm o).run S.mem .none with
        | none => simp [hv] at hr
        | some q => rw [vop_up X fn tm o K K' hK S.mem .none q hv]; rw [hv] at hr; exact hr
theorem runOp_ct {Kn : Nat → Kont} {K : Kont} (hc : Chain Kn) (hK : ∀ f args cells r, K f args cells = some r → ∃ n, Kn n f args cells = some r) (X : Ctx) (fn : Nat) (ops : Array Oper) (i : Nat) (S : St) : Ct Kn K fun K => runOp X K fn ops i S := by
  intro r hr
  simp only [runOp] at hr ⊢
  cases ho : ops[i]? with
  | none => simp [ho] at hr
  | some o =>
    simp only [ho] at hr ⊢
    cases hw : wantedV ops S.tm o with
    | none => simp [hw] at hr
    | some bt =>
      obtain ⟨b, tm⟩ := bt
      cases b with
      | false => exact ⟨0, by simpa [hw] using hr⟩
      | true =>
        simp only [hw] at hr ⊢
        cases hv : (vop X K fn tm o).run S.mem .none with
        | none => simp [hv] at hr
        | some q =>
          obtain ⟨n, hn⟩ := vop_ct hc hK X fn tm o S.mem .none q hv
          exact ⟨n, by rw [hn]; rw [hv] at hr; exact hr⟩
theorem runOps_eq (X : Ctx) (fn : Nat) (ops : Array Oper) (i : Nat) (is : List Nat) (S : St) (L : List (Nat × Log)) (K : Kont) :
    runOps X K fn ops (i :: is) S L = (runOp X K fn ops i S).bind fun r => runOps X K fn ops is r.1 ((i, r.2) :: L) := by
  simp only [runOps]
  cases runOp X K fn ops i S with
  | none => rfl
  | some r => rfl
theorem runOps_up (X : Ctx) (fn : Nat) (ops : Array Oper) : ∀ (is : List Nat) (S : St) (L : List (Nat × Log)), Up fun K => runOps X K fn ops is S L
  | [], S, L => Up.const _
  | i :: is, S, L => by
    simp only [runOps_eq]
    exact Up.bind (runOp_up X fn ops i S) fun r => runOps_up X fn ops is r.1 _
theorem runOps_ct {Kn : Nat → Kont} {K : Kont} (hc : Chain Kn) (hK : ∀ f args cells r, K f args cells = some r → ∃ n, Kn n f args cells = some r) (X : Ctx) (fn : Nat) (ops : Array Oper) : ∀ (is : List Nat) (S : St) (L : List (Nat × Log)), Ct Kn K fun K => runOps X K fn ops is S L
  | [], S, L => Ct.const _
  | i :: is, S, L => by
    simp only [runOps_eq]
    exact Ct.bind hc (runOp_up X fn ops i S) (fun r => runOps_up X fn ops is r.1 _) (runOp_ct hc hK X fn ops i S) fun r => runOps_ct hc hK X fn ops is r.1 _
theorem fuseOp_up (X : Ctx) (tm : Tmps) (o1 o2 o3 : Oper) : AUp fun K => fuseOp X K tm o1 o2 o3 := by
  unfold fuseOp
  split
  · refine AUp.bind (AUp.const _) fun _ => AUp.bind (AUp.const _) fun e => ?_
    split
    · refine AUp.bind (AUp.const _) fun c => ?_
      split
      · exact AUp.bind (AUp.const _) fun _ => AUp.bind (AUp.const _) fun row => AUp.bind (AUp.const _) fun rs => AUp.bind (AUp.const _) fun _ => AUp.bind AUp.op fun out => AUp.const _
      · exact AUp.const _
    · exact AUp.const _
  · exact AUp.const _
theorem fuseOp_ct {Kn : Nat → Kont} {K : Kont} (hc : Chain Kn) (hK : ∀ f args cells r, K f args cells = some r → ∃ n, Kn n f args cells = some r) (X : Ctx) (tm : Tmps) (o1 o2 o3 : Oper) : ACt Kn K fun K => fuseOp X K tm o1 o2 o3 := by
  unfold fuseOp
  split
  · refine ACt.bind hc (AUp.const _) ?_ (ACt.const _) fun _ => ACt.bind hc (AUp.const _) ?_ (ACt.const _) fun e => ?_
    · intro _
      refine AUp.bind (AUp.const _) fun e => ?_
      split
      · refine AUp.bind (AUp.const _) fun c => ?_
        split
        · exact AUp.bind (AUp.const _) fun _ => AUp.bind (AUp.const _) fun row => AUp.bind (AUp.const _) fun rs => AUp.bind (AUp.const _) fun _ => AUp.bind AUp.op fun out => AUp.const _
        · exact AUp.const _
      · exact AUp.const _
    · intro e
      split
      · refine AUp.bind (AUp.const _) fun c => ?_
        split
        · exact AUp.bind (AUp.const _) fun _ => AUp.bind (AUp.const _) fun row => AUp.bind (AUp.const _) fun rs => AUp.bind (AUp.const _) fun _ => AUp.bind AUp.op fun out => AUp.const _
        · exact AUp.const _
      · exact AUp.const _
    · split
      · refine ACt.bind hc (AUp.const _) ?_ (ACt.const _) fun c => ?_
        · intro c
          split
          · exact AUp.bind (AUp.const _) fun _ => AUp.bind (AUp.const _) fun row => AUp.bind (AUp.const _) fun rs => AUp.bind (AUp.const _) fun _ => AUp.bind AUp.op fun out => AUp.const _
          · exact AUp.const _
        · split
          · refine ACt.bind hc (AUp.const _) ?_ (ACt.const _) fun _ => ACt.bind hc (AUp.const _) ?_ (ACt.const _) fun row => ACt.bind hc (AUp.const _) ?_ (ACt.const _) fun rs => ACt.bind hc (AUp.const _) ?_ (ACt.const _) fun _ => ACt.bind hc AUp.op (fun out => AUp.const _) (ACt.op hK) fun out => ACt.const _
            · exact fun _ => AUp.bind (AUp.const _) fun row => AUp.bind (AUp.const _) fun rs => AUp.bind (AUp.const _) fun _ => AUp.bind AUp.op fun out => AUp.const _
            · exact fun row => AUp.bind (AUp.const _) fun rs => AUp.bind (AUp.const _) fun _ => AUp.bind AUp.op fun out => AUp.const _
            · exact fun rs => AUp.bind (AUp.const _) fun _ => AUp.bind AUp.op fun out => AUp.const _
            · exact fun _ => AUp.bind AUp.op fun out => AUp.const _
          · exact ACt.const _
      · exact ACt.const _
  · exact ACt.const _
theorem runFuse_eq (X : Ctx) (fn : Nat) (ops : Array Oper) (p : Nat) (S : St) (K : Kont) : runFuse X K fn ops p S =
    match ops[p]?, ops[p + 1]?, ops[p + 2]? with
    | some o1, some o2, some o3 => ((fuseOp X K S.tm o1 o2 o3).run S.mem .none).bind fun r =>
      bif Nat.blt r.1.1 (ntOf X.P fn) && (Nat.blt r.1.2.1 (ntOf X.P fn) && dstOk (ntOf X.P fn) o3.dst) then some ⟨putT o3.dst r.1.2.2.2 (put r.1.2.1 r.1.2.2.1 (put r.1.1 .undef S.tm)), r.2.1⟩ else none
    | _, _, _ => none := by
  simp only [runFuse]
  cases ops[p]? with
  | none => rfl
  | some o1 => cases ops[p + 1]? with
    | none => rfl
    | some o2 => cases ops[p + 2]? with
      | none => rfl
      | some o3 =>
        simp only
        cases (fuseOp X K S.tm o1 o2 o3).run S.mem .none with
        | none => rfl
        | some r => rfl
theorem runFuse_up (X : Ctx) (fn : Nat) (ops : Array Oper) (p : Nat) (S : St) : Up fun K => runFuse X K fn ops p S := by
  simp only [runFuse_eq]
  cases ops[p]? with
  | none => exact Up.const _
  | some o1 => cases ops[p + 1]? with
    | none => exact Up.const _
    | some o2 => cases ops[p + 2]? with
      | none => exact Up.const _
      | some o3 => exact Up.bind (fun K K' hK r hr => fuseOp_up X S.tm o1 o2 o3 K K' hK S.mem .none r hr) fun r => Up.const _
theorem runFuse_ct {Kn : Nat → Kont} {K : Kont} (hc : Chain Kn) (hK : ∀ f args cells r, K f args cells = some r → ∃ n, Kn n f args cells = some r) (X : Ctx) (fn : Nat) (ops : Array Oper) (p : Nat) (S : St) : Ct Kn K fun K => runFuse X K fn ops p S := by
  simp only [runFuse_eq]
  cases ops[p]? with
  | none => exact Ct.const _
  | some o1 => cases ops[p + 1]? with
    | none => exact Ct.const _
    | some o2 => cases ops[p + 2]? with
      | none => exact Ct.const _
      | some o3 => exact Ct.bind hc (fun K K' hK r hr => fuseOp_up X S.tm o1 o2 o3 K K' hK S.mem .none r hr) (fun r => Up.const _) (fun r hr => fuseOp_ct hc hK X S.tm o1 o2 o3 S.mem .none r hr) fun r => Ct.const _
theorem regionRun_eq (X : Ctx) (fn id : Nat) (ops : Array Oper) (draw : Bool) (S : St) (K : Kont) : regionRun X K fn id ops draw S =
    match X.adv.fuse fn id with
    | 0 => runOps X K fn ops (List.range ops.size) S []
    | p + 1 => match draw with
      | true => none
      | false => (runOps X K fn ops (List.range p) S []).bind fun r => (runFuse X K fn ops p r.1).bind fun S2 => runOps X K fn ops ((List.range ops.size).drop (p + 3)) S2 [] := by
  simp only [regionRun]
  cases X.adv.fuse fn id with
  | zero => rfl
  | succ p =>
    cases draw with
    | true => rfl
    | false =>
      simp only
      cases runOps X K fn ops (List.range p) S [] with
      | none => rfl
      | some r =>
        simp only [Option.bind_some]
        cases runFuse X K fn ops p r.1 <;> rfl
theorem regionRun_up (X : Ctx) (fn id : Nat) (ops : Array Oper) (draw : Bool) (S : St) : Up fun K => regionRun X K fn id ops draw S := by
  simp only [regionRun_eq]
  cases X.adv.fuse fn id with
  | zero => exact runOps_up X fn ops _ S _
  | succ p =>
    cases draw with
    | true => exact Up.const _
    | false => exact Up.bind (runOps_up X fn ops _ S _) fun r => Up.bind (runFuse_up X fn ops p r.1) fun S2 => runOps_up X fn ops _ S2 _
theorem regionRun_ct {Kn : Nat → Kont} {K : Kont} (hc : Chain Kn) (hK : ∀ f args cells r, K f args cells = some r → ∃ n, Kn n f args cells = some r) (X : Ctx) (fn id : Nat) (ops : Array Oper) (draw : Bool) (S : St) : Ct Kn K fun K => regionRun X K fn id ops draw S := by
  simp only [regionRun_eq]
  cases X.adv.fuse fn id with
  | zero => exact runOps_ct hc hK X fn ops _ S _
  | succ p =>
    cases draw with
    | true => exact Ct.const _
    | false =>
      exact Ct.bind hc (runOps_up X fn ops _ S _) (fun r => Up.bind (runFuse_up X fn ops p r.1) fun S2 => runOps_up X fn ops _ S2 _) (runOps_ct hc hK X fn ops _ S _) fun r =>
        Ct.bind hc (runFuse_up X fn ops p r.1) (fun S2 => runOps_up X fn ops _ S2 _) (runFuse_ct hc hK X fn ops p r.1) fun S2 => runOps_ct hc hK X fn ops _ S2 _
theorem region_eq (X : Ctx) (fn id : Nat) (ops : Array Oper) (draw : Bool) (S : St) (K : Kont) :
    region X K fn id ops draw S = (regionRun X K fn id ops draw S).bind fun r =>
      bif (match draw with | false => true | true => X.P.follows .mixedOrders && (backOk ops && drawOk ops (Region.before ops) r.2)) then prune (X.adv.keep fn id) r.1 else none := by
  simp only [region]
  cases regionRun X K fn id ops draw S with
  | none => rfl
  | some r => rfl
theorem region_up (X : Ctx) (fn id : Nat) (ops : Array Oper) (draw : Bool) (S : St) : Up fun K => region X K fn id ops draw S := by
  simp only [region_eq]
  exact Up.bind (regionRun_up X fn id ops draw S) fun r => Up.const _
theorem region_ct {Kn : Nat → Kont} {K : Kont} (hc : Chain Kn) (hK : ∀ f args cells r, K f args cells = some r → ∃ n, Kn n f args cells = some r) (X : Ctx) (fn id : Nat) (ops : Array Oper) (draw : Bool) (S : St) : Ct Kn K fun K => region X K fn id ops draw S := by
  simp only [region_eq]
  exact Ct.bind hc (regionRun_up X fn id ops draw S) (fun r => Up.const _) (regionRun_ct hc hK X fn id ops draw S) fun r => Ct.const _
theorem iter_more {b : St → Option (Ex × St)} : ∀ {n k : Nat} {S : St} {r : Ex × St}, iter b n S = some r → n ≤ k → iter b k S = some r
  | 0, _, _, _, h, _ => by simp [iter] at h
  | n + 1, 0, _, _, _, hk => by omega
  | n + 1, k + 1, S, r, h, hk => by
    simp only [iter] at h ⊢
    cases hb : b S with
    | none => simp [hb] at h
    | some q =>
      obtain ⟨e, S'⟩ := q
      rw [hb] at h
      cases e with
      | normal => exact iter_more h (by omega)
      | exit id => exact h
      | ret => exact h
theorem lim_of {α : Type} {f : Nat → Option α} {x : α} {n : Nat} (hn : f n = some x) (h : ∀ m y, f m = some y → y = x) : lim f = some x := by
  unfold lim
  rw [dif_pos ⟨x, n, hn⟩]
  congr 1
  obtain ⟨m, hm⟩ := Classical.choose_spec (⟨x, n, hn⟩ : ∃ a n, f n = some a)
  exact h m _ hm
theorem loopL_of {b : St → Option (Ex × St)} {S : St} {r : Ex × St} {n : Nat} (h : iter b n S = some r) : loopL b S = some r := by
  refine lim_of h fun m y hy => ?_
  have h1 := iter_more h (Nat.le_max_left n m)
  rw [iter_more hy (Nat.le_max_right n m)] at h1
  exact Option.some.inj h1
theorem loopL_some {b : St → Option (Ex × St)} {S : St} {r : Ex × St} (h : loopL b S = some r) : ∃ n, iter b n S = some r := lim_some h
theorem iter_eq {b : St → Option (Ex × St)} {n : Nat} {S : St} : iter b (n + 1) S = (b S).bind fun q => match q with | (.normal, S') => iter b n S' | (e, S') => some (e, S') := by
  simp only [iter]
  cases b S with
  | none => rfl
  | some q => obtain ⟨e, S'⟩ := q; cases e <;> rfl
theorem iter_up {B : Kont → St → Option (Ex × St)} (h : ∀ S, Up fun K => B K S) : ∀ (n : Nat) (S : St), Up fun K => iter (B K) n S
  | 0, S => Up.const _
  | n + 1, S => by
    simp only [iter_eq]
    refine Up.bind (h S) fun q => ?_
    obtain ⟨e, S'⟩ := q
    cases e with
    | normal => exact iter_up h n S'
    | exit id => exact Up.const _
    | ret => exact Up.const _
theorem iter_ct {Kn : Nat → Kont} {K : Kont} (hc : Chain Kn) {B : Kont → St → Option (Ex × St)} (hu : ∀ S, Up fun K => B K S) (h : ∀ S, Ct Kn K fun K => B K S) : ∀ (n : Nat) (S : St), Ct Kn K fun K => iter (B K) n S
  | 0, S => Ct.const _
  | n + 1, S => by
    simp only [iter_eq]
    refine Ct.bind hc (hu S) (fun q => ?_) (h S) fun q => ?_
    all_goals
      obtain ⟨e, S'⟩ := q
      cases e
    · exact iter_up hu n S'
    · exact Up.const _
    · exact Up.const _
    · exact iter_ct hc hu h n S'
    · exact Ct.const _
    · exact Ct.const _
theorem loopL_up {B : Kont → St → Option (Ex × St)} (h : ∀ S, Up fun K => B K S) (S : St) : Up fun K => loopL (B K) S := by
  intro K K' hK r hr
  obtain ⟨n, hn⟩ := loopL_some hr
  exact loopL_of (iter_up h n S K K' hK r hn)
theorem loopL_ct {Kn : Nat → Kont} {K : Kont} (hc : Chain Kn) {B : Kont → St → Option (Ex × St)} (hu : ∀ S, Up fun K => B K S) (h : ∀ S, Ct Kn K fun K => B K S) (S : St) : Ct Kn K fun K => loopL (B K) S := by
  intro r hr
  obtain ⟨n, hn⟩ := loopL_some hr
  obtain ⟨k, hk⟩ := iter_ct hc hu h n S r hn
  exact ⟨k, loopL_of hk⟩
theorem den_up (X : Ctx) (fn : Nat) (c : Code) : ∀ S, Up fun K => den X K fn c S := by
  induction c with
  | region id ops draw =>
    intro S K K' hK r hr
    simp only [den] at hr ⊢
    cases h : region X K fn id ops draw S with
    | none => simp [h] at hr
    | some S' =>
      have he0 := region_up X fn id ops draw S K K' hK S' h
      dsimp only at he0
      rw [he0]; rw [h] at hr; exact hr
  | seq a b iha ihb =>
    intro S K K' hK r hr
    simp only [den] at hr ⊢
    cases h : den X K fn a S with
    | none => simp [h] at hr
    | some q =>
      have he0 := iha S K K' hK q h
      dsimp only at he0
      rw [he0]
      rw [h] at hr
      obtain ⟨e, S'⟩ := q
      cases e with
      | normal => exact ihb S' K K' hK r hr
      | exit id => exact hr
      | ret => exact hr
  | cond c a b iha ihb =>
    intro S K K' hK r hr
    simp only [den] at hr ⊢
    cases h : condV X.P S.tm c with
    | none => simp [h] at hr
    | some q =>
      rw [h] at hr
      cases q with
      | true => exact iha S K K' hK r hr
      | false => exact ihb S K K' hK r hr
  | block id c ih =>
    intro S K K' hK r hr
    simp only [den] at hr ⊢
    cases h : den X K fn c S with
    | none => simp [h] at hr
    | some q =>
      have he0 := ih S K K' hK q h
      dsimp only at he0
      rw [he0]; rw [h] at hr; exact hr
  | loop c ih =>
    intro S
    exact loopL_up ih S
  | _ => intro S; exact Up.const _
theorem den_ct {Kn : Nat → Kont} {K : Kont} (hc : Chain Kn) (hK : ∀ f args cells r, K f args cells = some r → ∃ n, Kn n f args cells = some r) (X : Ctx) (fn : Nat) (c : Code) : ∀ S, Ct Kn K fun K => den X K fn c S := by
  induction c with
  | region id ops draw =>
    intro S r hr
    simp only [den] at hr ⊢
    cases h : region X K fn id ops draw S with
    | none => simp [h] at hr
    | some S' =>
      obtain ⟨n, hn⟩ := region_ct hc hK X fn id ops draw S S' h
      dsimp only at hn
      exact ⟨n, by rw [hn]; rw [h] at hr; exact hr⟩
  | seq a b iha ihb =>
    intro S r hr
    simp only [den] at hr ⊢
    cases h : den X K fn a S with
    | none => simp [h] at hr
    | some q =>
      obtain ⟨n, hn⟩ := iha S q h
      dsimp only at hn
      rw [h] at hr
      obtain ⟨e, S'⟩ := q
      cases e with
      | normal =>
        obtain ⟨k, hk⟩ := ihb S' r hr
        dsimp only at hk
        refine ⟨max n k, ?_⟩
        have he0 := den_up X fn a S _ _ (hc.le (Nat.le_max_left n k)) _ hn
        dsimp only at he0
        rw [he0]
        exact den_up X fn b S' _ _ (hc.le (Nat.le_max_right n k)) _ hk
      | exit id => exact ⟨n, by rw [hn]; exact hr⟩
      | ret => exact ⟨n, by rw [hn]; exact hr⟩
  | cond c a b iha ihb =>
    intro S r hr
    simp only [den] at hr ⊢
    cases h : condV X.P S.tm c with
    | none => simp [h] at hr
    | some q =>
      rw [h] at hr
      cases q with
      | true => exact iha S r hr
      | false => exact ihb S r hr
  | block id c ih =>
    intro S r hr
    simp only [den] at hr ⊢
    cases h : den X K fn c S with
    | none => simp [h] at hr
    | some q =>
      obtain ⟨n, hn⟩ := ih S q h
      dsimp only at hn
      exact ⟨n, by rw [hn]; rw [h] at hr; exact hr⟩
  | loop c ih =>
    intro S
    exact loopL_ct hc (den_up X fn c) ih S
  | _ => intro S; exact Ct.const _
theorem body_up (X : Ctx) (f : Nat) (args : List V) (cells : List Cell) : Up fun K => body X K f args cells := by
  intro K K' hK r hr
  simp only [body] at hr ⊢
  cases hg : X.P.funcs[f]? with
  | none => simp [hg] at hr
  | some g =>
    simp only [hg] at hr ⊢
    cases hcd : g.body with
    | none => simp [hcd] at hr
    | some c =>
      simp only [hcd] at hr ⊢
      revert hr
      generalize (!(Nat.ble cells.length impBase && Nat.ble args.length g.ntmps)) = q
      cases q with
      | true => exact id
      | false =>
        simp only [cond_false]
        intro hr
        split at hr
        · rename_i tm m l he
          cases h : den X K f c ⟨tm, m⟩ with
          | none => simp [h] at hr
          | some q =>
            have he0 := den_up X f c ⟨tm, m⟩ K K' hK q h
            dsimp only at he0
            rw [he0]; rw [h] at hr; exact hr
        · cases hr
theorem body_ct {Kn : Nat → Kont} {K : Kont} (hc : Chain Kn) (hK : ∀ f args cells r, K f args cells = some r → ∃ n, Kn n f args cells = some r) (X : Ctx) (f : Nat) (args : List V) (cells : List Cell) : Ct Kn K fun K => body X K f args cells := by
  intro r hr
  simp only [body] at hr ⊢
  cases hg : X.P.funcs[f]? with
  | none => simp [hg] at hr
  | some g =>
    simp only [hg] at hr ⊢
    cases hcd : g.body with
    | none => simp [hcd] at hr
    | some c =>
      simp only [hcd] at hr ⊢
      revert hr
      generalize (!(Nat.ble cells.length impBase && Nat.ble args.length g.ntmps)) = q
      cases q with
      | true => exact fun h => ⟨0, h⟩
      | false =>
        simp only [cond_false]
        intro hr
        split at hr
        · rename_i tm m l he
          cases h : den X K f c ⟨tm, m⟩ with
          | none => simp [h] at hr
          | some q =>
            obtain ⟨n, hn⟩ := den_ct hc hK X f c ⟨tm, m⟩ q h
            dsimp only at hn
            exact ⟨n, by rw [hn]; rw [h] at hr; exact hr⟩
        · cases hr
theorem callN_chain (X : Ctx) : Chain (callN X)
  | 0 => fun f args cells r h => by simp [callN] at h
  | n + 1 => fun f args cells r h => by
    simp only [callN] at h ⊢
    cases hp : X.prim f with
    | some p => simpa [hp] using h
    | none =>
      simp only [hp] at h ⊢
      exact body_up X f args cells _ _ (callN_chain X n) r h
theorem call_of_n {X : Ctx} {n : Nat} {f : Nat} {args : List V} {cells : List Cell} {r : List Row × List Cell} (h : callN X n f args cells = some r) : call X f args cells = some r := by
  refine lim_of h fun m y hy => ?_
  have h1 := (callN_chain X).le (Nat.le_max_left n m) f args cells r h
  rw [(callN_chain X).le (Nat.le_max_right n m) f args cells y hy] at h1
  exact Option.some.inj h1
theorem call_of {X : Ctx} {K : Kont} (hK : KLe K (call X)) {f : Nat} {args : List V} {cells : List Cell} {r : List Row × List Cell} (hp : X.prim f = none) (h : body X K f args cells = some r) : call X f args cells = some r := by
  have h1 := body_up X f args cells K (call X) hK r h
  obtain ⟨n, hn⟩ := body_ct (callN_chain X) (fun f a c r hr => lim_some hr) X f args cells r h1
  dsimp only at hn
  refine call_of_n (n := n + 1) ?_
  simp only [callN, hp]
  exact hn
theorem call_of_prim {X : Ctx} {f : Nat} {p : List V → List Cell → Option (List Row × List Cell)} {args : List V} {cells : List Cell} {r : List Row × List Cell} (hp : X.prim f = some p) (h : p args cells = some r) : call X f args cells = some r :=
  call_of_n (n := 1) (by simp only [callN, hp]; exact h)
end Go.Vm

namespace Go.Vm
open Go
abbrev Loops := Nat → St → Option (Ex × St)
def lid : Code → Nat
  | .region id _ _ => id
  | .seq a b => match lid a with
    | 0 => lid b
    | n => n
  | .block _ c => lid c
  | .loop c => lid c
  | .cond _ a b => match lid a with
    | 0 => lid b
    | n => n
  | _ => 0
def loops : Code → List Code
  | .seq a b => loops a ++ loops b
  | .cond _ a b => loops a ++ loops b
  | .block _ c => loops c
  | .loop c => [c]
  | _ => []
def denL (X : Ctx) (K : Kont) (L : Loops) (fn : Nat) : Code → St → Option (Ex × St)
  | .skip, S => some (.normal, S)
  | .region id ops draw, S => match region X K fn id ops draw S with
    | some S' => some (.normal, S')
    | none => none
  | .seq a b, S => match denL X K L fn a S with
    | some (.normal, S') => denL X K L fn b S'
    | r => r
  | .cond c a b, S => match condV X.P S.tm c with
    | some true => denL X K L fn a S
    | some false => denL X K L fn b S
    | none => none
  | .block id c, S => match denL X K L fn c S with
    | some (.exit j, S') => bif Nat.beq j id then some (.normal, S') else some (.exit j, S')
    | r => r
  | .loop c, S => L (lid c) S
  | .exit id, S => some (.exit id, S)
  | .ret, S => some (.ret, S)
  | _, _ => none
def codeOf (P : Program) (f : Nat) : Code := match P.funcs[f]? with
  | some g => match g.body with
    | some c => c
    | none => .skip
  | none => .skip
def bodyL (X : Ctx) (K : Kont) (L : Loops) (f : Nat) (args : List V) (cells : List Cell) : Option (List Row × List Cell) :=
  match X.P.funcs[f]? with
  | some g => match g.body with
    | some c => bif !(Nat.ble cells.length impBase && Nat.ble args.length g.ntmps) then none else match (entry X f g args cells).run (impMem 0 cells) .none with
      | some (tm, m, _) => (match denL X K L f c ⟨tm, m⟩ with
        | some (.normal, S) => leave X g cells.length S
        | some (.ret, S) => leave X g cells.length S
        | _ => none)
      | none => none
    | none => none
  | none => none
def LOk (X : Ctx) (K : Kont) (fn : Nat) (L : Loops) (cs : List Code) : Prop := ∀ c, c ∈ cs → ∀ S r, L (lid c) S = some r → loopL (den X K fn c) S = some r
theorem LOk.nil {X : Ctx} {K : Kont} {fn : Nat} {L : Loops} : LOk X K fn L [] := fun _ h => by simp at h
theorem LOk.cons {X : Ctx} {K : Kont} {fn : Nat} {L : Loops} {c : Code} {cs : List Code} (h : ∀ S r, L (lid c) S = some r → loopL (den X K fn c) S = some r) (k : LOk X K fn L cs) : LOk X K fn L (c :: cs) := by
  intro d hd
  rcases List.mem_cons.1 hd with rfl | hd
  · exact h
  · exact k d hd
theorem den_of {X : Ctx} {K : Kont} {L : Loops} {fn : Nat} : ∀ {c : Code} {S : St} {r : Ex × St}, LOk X K fn L (loops c) → denL X K L fn c S = some r → den X K fn c S = some r := by
  intro c
  induction c with
  | seq a b iha ihb =>
    intro S r hL h
    have hLa : LOk X K fn L (loops a) := fun d hd => hL d (by simp [loops, hd])
    have hLb : LOk X K fn L (loops b) := fun d hd => hL d (by simp [loops, hd])
    simp only [denL] at h
    simp only [den]
    cases ha : denL X K L fn a S with
    | none => simp [ha] at h
    | some q =>
      rw [iha hLa ha]
      rw [ha] at h
      obtain ⟨e, S'⟩ := q
      cases e with
      | normal => exact ihb hLb h
      | exit id => exact h
      | ret => exact h
  | cond c a b iha ihb =>
    intro S r hL h
    have hLa : LOk X K fn L (loops a) := fun d hd => hL d (by simp [loops, hd])
    have hLb : LOk X K fn L (loops b) := fun d hd => hL d (by simp [loops, hd])
    simp only [denL] at h
    simp only [den]
    cases hc : condV X.P S.tm c with
    | none => simp [hc] at h
    | some q =>
      rw [hc] at h
      cases q with
      | true => exact iha hLa h
      | false => exact ihb hLb h
  | block id c ih =>
    intro S r hL h
    simp only [denL] at h
    simp only [den]
    cases ha : denL X K L fn c S with
    | none => simp [ha] at h
    | some q => rw [ih hL ha]; rw [ha] at h; exact h
  | loop c ih =>
    intro S r hL h
    exact hL c (by simp [loops]) S r h
  | region id ops draw => intro S r hL h; exact h
  | skip => intro S r hL h; exact h
  | exit id => intro S r hL h; exact h
  | ret => intro S r hL h; exact h
  | _ => intro S r hL h; simp [denL] at h
theorem denL_up (X : Ctx) (L : Loops) (fn : Nat) (c : Code) : ∀ S, Up fun K => denL X K L fn c S := by
  induction c with
  | region id ops draw =>
    intro S K K' hK r hr
    simp only [denL] at hr ⊢
    cases h : region X K fn id ops draw S with
    | none => simp [h] at hr
    | some S' =>
      have he0 := region_up X fn id ops draw S K K' hK S' h
      dsimp only at he0
      rw [he0]; rw [h] at hr; exact hr
  | seq a b iha ihb =>
    intro S K K' hK r hr
    simp only [denL] at hr ⊢
    cases h : denL X K L fn a S with
    | none => simp [h] at hr
    | some q =>
      have he0 := iha S K K' hK q h
      dsimp only at he0
      rw [he0]
      rw [h] at hr
      obtain ⟨e, S'⟩ := q
      cases e with
      | normal => exact ihb S' K K' hK r hr
      | exit id => exact hr
      | ret => exact hr
  | cond c a b iha ihb =>
    intro S K K' hK r hr
    simp only [denL] at hr ⊢
    cases h : condV X.P S.tm c with
    | none => simp [h] at hr
    | some q =>
      rw [h] at hr
      cases q with
      | true => exact iha S K K' hK r hr
      | false => exact ihb S K K' hK r hr
  | block id c ih =>
    intro S K K' hK r hr
    simp only [denL] at hr ⊢
    cases h : denL X K L fn c S with
    | none => simp [h] at hr
    | some q =>
      have he0 := ih S K K' hK q h
      dsimp only at he0
      rw [he0]; rw [h] at hr; exact hr
  | _ => intro S; exact Up.const _
theorem bodyL_up (X : Ctx) (L : Loops) (f : Nat) (args : List V) (cells : List Cell) : Up fun K => bodyL X K L f args cells := by
  intro K K' hK r hr
  simp only [bodyL] at hr ⊢
  cases hg : X.P.funcs[f]? with
  | none => simp [hg] at hr
  | some g =>
    simp only [hg] at hr ⊢
    cases hcd : g.body with
    | none => simp [hcd] at hr
    | some c =>
      simp only [hcd] at hr ⊢
      revert hr
      generalize (!(Nat.ble cells.length impBase && Nat.ble args.length g.ntmps)) = q
      cases q with
      | true => exact id
      | false =>
        simp only [cond_false]
        intro hr
        split at hr
        · rename_i tm m l he
          cases h : denL X K L f c ⟨tm, m⟩ with
          | none => simp [h] at hr
          | some q =>
            have he0 := denL_up X L f c ⟨tm, m⟩ K K' hK q h
            dsimp only at he0
            rw [he0]; rw [h] at hr; exact hr
        · cases hr
theorem body_of {X : Ctx} {K : Kont} {L : Loops} {f : Nat} {args : List V} {cells : List Cell} {r : List Row × List Cell} (hL : LOk X K f L (loops (codeOf X.P f))) (h : bodyL X K L f args cells = some r) : body X K f args cells = some r := by
  simp only [bodyL] at h
  simp only [body]
  cases hg : X.P.funcs[f]? with
  | none => simp [hg] at h
  | some g =>
    simp only [hg] at h ⊢
    cases hcd : g.body with
    | none => simp [hcd] at h
    | some c =>
      simp only [hcd] at h ⊢
      have hcode : codeOf X.P f = c := by simp [codeOf, hg, hcd]
      rw [hcode] at hL
      revert h
      generalize (!(Nat.ble cells.length impBase && Nat.ble args.length g.ntmps)) = q
      cases q with
      | true => exact id
      | false =>
        simp only [cond_false]
        intro h
        split at h
        · rename_i tm m l he
          simp only [he]
          cases hd : denL X K L f c ⟨tm, m⟩ with
          | none => simp [hd] at h
          | some q => rw [den_of hL hd]; rw [hd] at h; exact h
        · cases h
theorem call_ofL {X : Ctx} {K : Kont} {L : Loops} {f : Nat} {args : List V} {cells : List Cell} {r : List Row × List Cell} (hp : X.prim f = none) (hK : KLe K (call X)) (hL : LOk X (call X) f L (loops (codeOf X.P f)))
    (h : bodyL X K L f args cells = some r) : call X f args cells = some r := by
  exact call_of (KLe.refl _) hp (body_of hL (bodyL_up X L f args cells K (call X) hK r h))
theorem den_ofL {X : Ctx} {K : Kont} {L : Loops} {fn : Nat} {c : Code} {S : St} {r : Ex × St} (hK : KLe K (call X)) (hL : LOk X (call X) fn L (loops c)) (h : denL X K L fn c S = some r) : den X (call X) fn c S = some r :=
  den_of hL (denL_up X L fn c S K (call X) hK r h)
end Go.Vm

namespace Go.Vm
open Go
structure Res (α : Type) where
  β : Type
  o : Option β
  enc : β → α
def Res.val {α : Type} (r : Res α) : Option α := r.o.map r.enc
abbrev KonC := Nat → List V → List Cell → Res (List Row × List Cell)
inductive Alt (α : Type) : Type 1 where
  | leaf (β : Type) (enc : β → α)
  | sum (a b : Alt α)
def Alt.T {α : Type} : Alt α → Type
  | .leaf β _ => β
  | .sum a b => a.T ⊕ b.T
def Alt.enc {α : Type} : (a : Alt α) → a.T → α
  | .leaf _ enc, x => enc x
  | .sum a _, .inl x => a.enc x
  | .sum _ b, .inr x => b.enc x
structure ResA (α : Type) where
  alt : Alt α
  o : Option alt.T
def ResA.val {α : Type} (r : ResA α) : Option α := r.o.map r.alt.enc
def ResA.none {α : Type} : ResA α := ⟨.leaf Empty Empty.elim, .none⟩
abbrev LoopC := Nat → St → ResA (Ex × St)
def KonC.to (K : KonC) : Kont := fun f a c => (K f a c).val
def LoopC.to (L : LoopC) : Loops := fun n S => (L n S).val
def Res.none {α : Type} : Res α := ⟨Empty, .none, Empty.elim⟩
section
variable {R : Type}
def sumE {α β γ : Type} (r : α ⊕ β) (f : α → Option γ) (g : β → Option γ) : Option γ := match r with
  | .inl x => f x
  | .inr y => g y
def Alt.go {α : Type} : (a : Alt α) → a.T → (α → Option R) → Option R
  | .leaf _ enc => fun x k => k (enc x)
  | .sum a b => fun x k => sumE x (fun x => a.go x k) (fun y => b.go y k)
theorem Alt.go_eq {α : Type} (k : α → Option R) : ∀ (a : Alt α) (x : a.T), a.go x k = k (a.enc x)
  | .leaf _ enc, x => rfl
  | .sum a _, .inl x => Alt.go_eq k a x
  | .sum _ b, .inr x => Alt.go_eq k b x
theorem ResA.val_some {α : Type} {r : ResA α} {x : α} (h : r.val = some x) : ∃ y, r.o = some y ∧ r.alt.enc y = x := by
  simpa [ResA.val, Option.map_eq_some_iff] using h
theorem Res.val_some {α : Type} {r : Res α} {x : α} (h : r.val = some x) : ∃ y, r.o = some y ∧ r.enc y = x := by
  simpa [Res.val, Option.map_eq_some_iff] using h
def Acc.runC {α : Type} : Acc α → Mem → Log → (α → Mem → Log → Option R) → Option R
  | .ret a, m, l, k => k a m l
  | .fail, _, _, _ => none
  | .get i c, m, l, k => (c (Vm.get i m)).runC m (l.rd i) k
  | .set i x c, m, l, k => c.runC (put i x m) (l.wr i) k
  | .opt o c, m, l, k => match o with | some b => (c b).runC m l k | none => none
  | .guard b c, m, l, k => match b with | true => c.runC m l k | false => none
def callVC (X : Ctx) (K : KonC) (fn dst f : Nat) (args : List V) : Acc V := do
  let g ← op' X.P.funcs[f]?
  ck (g.body.isSome && !(g.name == "runtime.NumGoroutine"))
  let imp := impArgs X.adv f 0 [] args
  let args ← moveArgs X.adv f 0 args
  let cells ← expAll X.adv imp imp
  let (args, lent) ← lendArgs X.adv imp f 0 args
  ck (lent.all fun r => !(mem? r imp))
  let b ← op' (K f args cells).o
  let out := (K f args cells).enc b
  ck (Nat.beq out.1.length g.resultTypes.size)
  let need := !(lent.isEmpty) && (allAtts X.P (X.adv.att fn dst) 0 g.resultTypes.toList && imp.isEmpty)
  ck (bif need then out.1.all pureRow else true)
  freeze (bif need then [] else lent)
  reAll X dst out.2 0 imp
  let vs ← resAll X (X.adv.att fn dst) dst out.1 0 g.resultTypes.toList
  match vs with
  | [v] => pure v
  | vs => pure (.tup vs)
def vopC (X : Ctx) (K : KonC) (fn : Nat) (tm : Tmps) (o : Oper) : Acc V :=
  match o.op with
  | .call { callee := .value f, args, argTypes } => match ev X.P tm 0 f with
    | .clo g first caps => callVC X K fn (o.dst.getD 0) g (first ++ evArgs X.P tm args.toList argTypes.toList ++ caps)
    | _ => .fail
  | _ => vop X (fun _ _ _ => none) fn tm o
def forceD (x : D) (k : D → Option R) : Option R := match x with
  | .int j n => k (.int j n)
  | .bool b => k (.bool b)
  | .str s => k (.str s)
  | .nilf => k .nilf
  | .sl o s rows => match o with
    | true => k (.sl true s rows)
    | false => k (.sl false s rows)
mutual
def forceV (v : V) (k : V → Option R) : Option R := match v with
  | .d x => forceD x fun x => k (.d x)
  | .nil s => k (.nil s)
  | .own r v => k (.own r v)
  | .ptr r o => k (.ptr r o)
  | .eptr r v i o => k (.eptr r v i o)
  | .rptr row o => k (.rptr row o)
  | .kptr v => forceV v fun v => k (.kptr v)
  | .clo f a b => forceVs a fun a => forceVs b fun b => k (.clo f a b)
  | .agg cs => forceVs cs fun cs => k (.agg cs)
  | .tup cs => forceVs cs fun cs => k (.tup cs)
  | .undef => k .undef
def forceVs (vs : List V) (k : List V → Option R) : Option R := match vs with
  | [] => k []
  | v :: vs => forceV v fun v => forceVs vs fun vs => k (v :: vs)
end
def forceTm (tm : Tmps) (k : Tmps → Option R) : Option R := match tm with
  | [] => k []
  | (t, v) :: tm => forceV v fun v => forceTm tm fun tm => k ((t, v) :: tm)
def forceCell (c : Cell) (k : Cell → Option R) : Option R := match c with
  | .box t cs => forceVs cs fun cs => k (.box t cs)
  | .arr fz fl ver s rows => k (.arr fz fl ver s rows)
  | .dead => k .dead
  | .que ver s rows => k (.que ver s rows)
  | .kbox t v => forceV v fun v => k (.kbox t v)
  | .loan ver s rows i off => k (.loan ver s rows i off)
def forceMem (m : Mem) (k : Mem → Option R) : Option R := match m with
  | [] => k []
  | (r, c) :: m => forceCell c fun c => forceMem m fun m => k ((r, c) :: m)
def renK (L : List (Nat × Nat)) (r : Nat) (k : Nat → Option R) : Option R := match get r L with
  | some j => k j
  | none => k r
mutual
def renVC (L : List (Nat × Nat)) (v : V) (k : V → Option R) : Option R := match v with
  | .d x => k (.d x)
  | .nil s => k (.nil s)
  | .own r v => renK L r fun r => k (.own r v)
  | .ptr r o => renK L r fun r => k (.ptr r o)
  | .eptr r v i o => renK L r fun r => k (.eptr r v i o)
  | .rptr row o => k (.rptr row o)
  | .kptr v => renVC L v fun v => k (.kptr v)
  | .clo f a b => renVsC L a fun a => renVsC L b fun b => k (.clo f a b)
  | .agg cs => renVsC L cs fun cs => k (.agg cs)
  | .tup vs => renVsC L vs fun vs => k (.tup vs)
  | .undef => k .undef
def renVsC (L : List (Nat × Nat)) (vs : List V) (k : List V → Option R) : Option R := match vs with
  | [] => k []
  | v :: vs => renVC L v fun v => renVsC L vs fun vs => k (v :: vs)
end
def renTmC (L : List (Nat × Nat)) (tm : Tmps) (k : Tmps → Option R) : Option R := match tm with
  | [] => k []
  | (t, v) :: tm => renVC L v fun v => renTmC L tm fun tm => k ((t, v) :: tm)
def renCC (L : List (Nat × Nat)) (c : Cell) (k : Cell → Option R) : Option R := match c with
  | .box t cs => renVsC L cs fun cs => k (.box t cs)
  | .arr fz fl ver s rows => k (.arr fz fl ver s rows)
  | .dead => k .dead
  | .que ver s rows => k (.que ver s rows)
  | .kbox t v => renVC L v fun v => k (.kbox t v)
  | .loan ver s rows i off => k (.loan ver s rows i off)
def renMemC (L : List (Nat × Nat)) (m : Mem) (k : Mem → Option R) : Option R := match m with
  | [] => k []
  | (r, c) :: m => renK L r fun r => renCC L c fun c => renMemC L m fun m => forceMem (put r c m) k
def forceL (l : List Nat) (k : List Nat → Option R) : Option R := match l with
  | [] => k []
  | x :: l => forceL l fun l => k (x :: l)
def forceLL (l : List (Nat × Nat)) (k : List (Nat × Nat) → Option R) : Option R := match l with
  | [] => k []
  | (x, y) :: l => forceLL l fun l => k ((x, y) :: l)
def canonC (S : St) (k : St → Option R) : Option R := forceL (ordK S.tm S.mem) fun o => match o with
  | [] => k S
  | a :: o => forceLL (numb names (a :: o)) fun L => match canonOk L S.mem with
    | true => renTmC L S.tm fun tm => renMemC L S.mem fun m => k ⟨tm, m⟩
    | false => k S
def wantedC (ops : Array Oper) (tm : Tmps) (o : Oper) (k : Bool → Tmps → Option R) : Option R :=
  match o.guard with
  | none => k true tm
  | some (j, want) => match ops[j]? with
    | some oj => match oj.dst with
      | some d => match getT d tm with
        | .d (.bool b) => match b with
          | true => k want (put d (.d (.bool true)) tm)
          | false => k (!want) (put d (.d (.bool false)) tm)
        | .tup vs => match vs with
          | [] => k false (put d (.tup []) tm)
          | _ :: _ => none
        | _ => none
      | none => none
    | none => none
def runOpC (X : Ctx) (K : KonC) (fn : Nat) (ops : Array Oper) (i : Nat) (S : St) (k : St → Log → Option R) : Option R :=
  match ops[i]? with
  | none => none
  | some o => wantedC ops S.tm o fun b tm => match b with
    | false => k ⟨skipT (ntOf X.P fn) o.dst tm, S.mem⟩ .none
    | true => (vopC X K fn tm o).runC S.mem .none fun v m l => bif dstOk (ntOf X.P fn) o.dst then forceV v fun v => k ⟨putT o.dst v tm, m⟩ l else none
def runOpsC (X : Ctx) (K : KonC) (fn : Nat) (ops : Array Oper) : List Nat → St → List (Nat × Log) → (St → List (Nat × Log) → Option R) → Option R
  | [], S, L, k => k S L
  | i :: is, S, L, k => runOpC X K fn ops i S fun S' l => runOpsC X K fn ops is S' ((i, l) :: L) k
def drawB (X : Ctx) (ops : Array Oper) (L : List (Nat × Log)) : Bool → Bool
  | false => true
  | true => X.P.follows .mixedOrders && (backOk ops && drawOk ops (Region.before ops) L)
def fuseOpC (X : Ctx) (K : KonC) (tm : Tmps) (o1 o2 o3 : Oper) : Acc (Nat × Nat × V × V) :=
  match o1, o2, o3 with
  | ⟨some d1, .load t (.tmp ta), _, _, _, none⟩, ⟨some d2, .move x, ty2, _, _, none⟩, ⟨_, .call ⟨.value (.func f), args, _⟩, _, _, _, none⟩ => do
    ck (!(Nat.beq d1 d2) && (twoTs args d1 d2 && (offT d1 x && (okT X.P t && (Nat.beq (szT X.P t) 1 && (!(aggT X.P t) && fuseF X f))))))
    let e ← op' (elT X.P t)
    match getT ta tm, ev X.P tm ty2 x with
    | .eptr r ver i off, .d (.int k n) => do
      match ← rd r with
      | some (.arr false false ver' s rows) => do
        ck (Nat.beq ver ver' && Nat.ble (off + 1) s)
        let row ← op' rows[i]?
        let rs ← op' (cOwn (szT X.P e) row off)
        ck (outOk (flatT X.P e) rs)
        let b ← op' (K f [.own impBase 0, .d (.int k n)] [.arr false (flatT X.P e) 0 (szT X.P e) rs]).o
        let out := (K f [.own impBase 0, .d (.int k n)] [.arr false (flatT X.P e) 0 (szT X.P e) rs]).enc b
        let q ← op' (fuseOut out)
        ck (fuseCk (szT X.P e) (flatT X.P e) q)
        wr r (.arr false false ver' s (rows.set i (splice row off [.sl true (szT X.P e) q.2.2.2.2])))
        pure (d1, d2, .d (.int k n), .d (.int q.1 q.2.1))
      | _ => .fail
    | _, _ => .fail
  | _, _, _ => .fail
def runFuseC (X : Ctx) (K : KonC) (fn : Nat) (ops : Array Oper) (p : Nat) (S : St) (k : St → Option R) : Option R :=
  match ops[p]?, ops[p + 1]?, ops[p + 2]? with
  | some o1, some o2, some o3 => (fuseOpC X K S.tm o1 o2 o3).runC S.mem .none fun r m _ =>
    bif Nat.blt r.1 (ntOf X.P fn) && (Nat.blt r.2.1 (ntOf X.P fn) && dstOk (ntOf X.P fn) o3.dst) then k ⟨putT o3.dst r.2.2.2 (put r.2.1 r.2.2.1 (put r.1 .undef S.tm)), m⟩ else none
  | _, _, _ => none
def regionRunC (X : Ctx) (K : KonC) (fn id : Nat) (ops : Array Oper) (draw : Bool) (S : St) (k : St → List (Nat × Log) → Option R) : Option R :=
  match X.adv.fuse fn id with
  | 0 => runOpsC X K fn ops (List.range ops.size) S [] k
  | p + 1 => match draw with
    | true => none
    | false => runOpsC X K fn ops (List.range p) S [] fun S1 _ => runFuseC X K fn ops p S1 fun S2 => runOpsC X K fn ops ((List.range ops.size).drop (p + 3)) S2 [] k
def regionC (X : Ctx) (K : KonC) (fn id : Nat) (ops : Array Oper) (draw : Bool) (S : St) (k : St → Option R) : Option R :=
  regionRunC X K fn id ops draw S fun S' L =>
    bif drawB X ops L draw then (match prune0 (X.adv.keep fn id) S' with
      | some S'' => forceTm S''.tm fun tm => forceMem S''.mem fun m => canonC ⟨tm, m⟩ k
      | none => none) else none
def rep (k : Nat) (x : V) : Tmps → Tmps
  | [] => []
  | (j, y) :: l => match Nat.beq k j with
    | true => (j, x) :: l
    | false => (j, y) :: rep k x l
def refB (c : Operand) (b : Bool) (S : St) : St := match c with
  | .tmp i => ⟨rep i (.d (.bool b)) S.tm, S.mem⟩
  | _ => S
theorem rep_get {k : Nat} {x : V} : ∀ {l : Tmps}, get k l = some x → rep k x l = l
  | [], h => rfl
  | (j, y) :: l, h => by
    simp only [get] at h
    rw [rep]
    cases hb : Nat.beq k j with
    | true =>
      rw [hb] at h
      simp only [cond_true, Option.some.injEq] at h
      rw [h]
    | false =>
      rw [hb] at h
      simp only
      rw [rep_get h]
theorem refB_eq {P : Program} {c : Operand} {b : Bool} {S : St} (h : ev P S.tm 0 c = .d (.bool b)) : refB c b S = S := by
  cases c with
  | tmp i =>
    simp only [ev, getT] at h
    cases hg : get i S.tm with
    | none => rw [hg] at h; cases h
    | some v =>
      rw [hg] at h
      simp only at h
      subst h
      rw [refB, rep_get hg]
  | _ => rfl
def denC (X : Ctx) (K : KonC) (L : LoopC) (fn : Nat) : Code → St → (Ex → St → Option R) → Option R
  | .skip, S, k => k .normal S
  | .region id ops draw, S, k => regionC X K fn id ops draw S fun S' => k .normal S'
  | .seq a b, S, k => denC X K L fn a S fun e S' => match e with
    | .normal => denC X K L fn b S' k
    | e => k e S'
  | .cond c a b, S, k => match ev X.P S.tm 0 c with
    | .d (.bool t) => (match t with
      | true => denC X K L fn a (refB c true S) k
      | false => denC X K L fn b (refB c false S) k)
    | _ => none
  | .block id c, S, k => denC X K L fn c S fun e S' => match e with
    | .exit j => bif Nat.beq j id then k .normal S' else k (.exit j) S'
    | e => k e S'
  | .loop c, S, k => match (L (lid c) S).o with
    | some b => (L (lid c) S).alt.go b fun r => k r.1 r.2
    | none => none
  | .exit id, S, k => k (.exit id) S
  | .ret, S, k => k .ret S
  | _, _, _ => none
def leaveC (X : Ctx) (g : Func) (n : Nat) (S : St) (k : List Row → List Cell → Option R) : Option R :=
  (do
    let rows ← resRows X.P S.tm g.results.toList g.resultTypes.toList
    let cells ← expAll X.adv (impKeys n) (impKeys n)
    pure (rows, cells) : Acc (List Row × List Cell)).runC S.mem .none fun r _ _ => k r.1 r.2
def bodyC (X : Ctx) (K : KonC) (L : LoopC) (f : Nat) (args : List V) (cells : List Cell) (k : List Row → List Cell → Option R) : Option R :=
  match X.P.funcs[f]? with
  | some g => match g.body with
    | some c => bif !(Nat.ble cells.length impBase && Nat.ble args.length g.ntmps) then none else (entry X f g args cells).runC (impMem 0 cells) .none fun tm m _ =>
      forceTm tm fun tm => forceMem m fun m => denC X K L f c ⟨tm, m⟩ fun e S => match e with
        | .normal => leaveC X g cells.length S k
        | .ret => leaveC X g cells.length S k
        | .exit _ => none
    | none => none
  | none => none
theorem runC_eq {α : Type} (A : Acc α) : ∀ (m : Mem) (l : Log) (k : α → Mem → Log → Option R), A.runC m l k = (A.run m l).bind fun r => k r.1 r.2.1 r.2.2 := by
  induction A with
  | ret a => intro m l k; rfl
  | fail => intro m l k; rfl
  | get i c ih => intro m l k; exact ih _ _ _ _
  | set i x c ih => intro m l k; exact ih _ _ _
  | opt o c ih => intro m l k; cases o with
    | none => rfl
    | some b => exact ih b _ _ _
  | guard b c ih => intro m l k; cases b with
    | false => rfl
    | true => exact ih _ _ _
theorem forceD_eq (x : D) (k : D → Option R) : forceD x k = k x := by
  cases x with
  | sl o s rows => cases o <;> rfl
  | _ => rfl
mutual
theorem forceV_eq : ∀ (v : V) (k : V → Option R), forceV v k = k v
  | .d x, k => by simp only [forceV, forceD_eq]
  | .nil s, k => by simp only [forceV]
  | .own r v, k => by simp only [forceV]
  | .ptr r o, k => by simp only [forceV]
  | .eptr r v i o, k => by simp only [forceV]
  | .rptr row o, k => by simp only [forceV]
  | .kptr v, k => by simp only [forceV]; rw [forceV_eq v]
  | .clo f a b, k => by simp only [forceV]; rw [forceVs_eq a, forceVs_eq b]
  | .agg cs, k => by simp only [forceV]; rw [forceVs_eq cs]
  | .tup cs, k => by simp only [forceV]; rw [forceVs_eq cs]
  | .undef, k => by simp only [forceV]
theorem forceVs_eq : ∀ (vs : List V) (k : List V → Option R), forceVs vs k = k vs
  | [], k => by simp only [forceVs]
  | v :: vs, k => by simp only [forceVs]; rw [forceV_eq v, forceVs_eq vs]
end
theorem forceTm_eq : ∀ (tm : Tmps) (k : Tmps → Option R), forceTm tm k = k tm
  | [], k => rfl
  | (t, v) :: tm, k => by simp only [forceTm]; rw [forceV_eq v, forceTm_eq tm]
theorem forceCell_eq (c : Cell) (k : Cell → Option R) : forceCell c k = k c := by
  cases c with
  | box t cs => simp only [forceCell, forceVs_eq]
  | kbox t v => simp only [forceCell, forceV_eq]
  | _ => rfl
theorem forceMem_eq : ∀ (m : Mem) (k : Mem → Option R), forceMem m k = k m
  | [], k => rfl
  | (t, v) :: m, k => by simp only [forceMem]; rw [forceCell_eq v, forceMem_eq m]
theorem renK_eq (L : List (Nat × Nat)) (r : Nat) (k : Nat → Option R) : renK L r k = k (ren L r) := by
  unfold renK ren
  cases get r L <;> rfl
mutual
theorem renVC_eq (L : List (Nat × Nat)) : ∀ (v : V) (k : V → Option R), renVC L v k = k (renV L v)
  | .d x, k => by simp only [renVC, renV]
  | .nil s, k => by simp only [renVC, renV]
  | .own r v, k => by simp only [renVC, renV, renK_eq]
  | .ptr r o, k => by simp only [renVC, renV, renK_eq]
  | .eptr r v i o, k => by simp only [renVC, renV, renK_eq]
  | .rptr row o, k => by simp only [renVC, renV]
  | .kptr v, k => by simp only [renVC, renV]; rw [renVC_eq L v]
  | .clo f a b, k => by simp only [renVC, renV]; rw [renVsC_eq L a, renVsC_eq L b]
  | .agg cs, k => by simp only [renVC, renV]; rw [renVsC_eq L cs]
  | .tup vs, k => by simp only [renVC, renV]; rw [renVsC_eq L vs]
  | .undef, k => by simp only [renVC, renV]
theorem renVsC_eq (L : List (Nat × Nat)) : ∀ (vs : List V) (k : List V → Option R), renVsC L vs k = k (renVs L vs)
  | [], k => by simp only [renVsC, renVs]
  | v :: vs, k => by simp only [renVsC, renVs]; rw [renVC_eq L v, renVsC_eq L vs]
end
theorem renTmC_eq (L : List (Nat × Nat)) : ∀ (tm : Tmps) (k : Tmps → Option R), renTmC L tm k = k (renTm L tm)
  | [], k => rfl
  | (t, v) :: tm, k => by simp only [renTmC, renTm]; rw [renVC_eq L v, renTmC_eq L tm]
theorem renCC_eq (L : List (Nat × Nat)) (c : Cell) (k : Cell → Option R) : renCC L c k = k (renC L c) := by
  cases c with
  | box t cs => simp only [renCC, renC, renVsC_eq]
  | kbox t v => simp only [renCC, renC, renVC_eq]
  | _ => rfl
theorem renMemC_eq (L : List (Nat × Nat)) : ∀ (m : Mem) (k : Mem → Option R), renMemC L m k = k (renMem L m)
  | [], k => rfl
  | (r, c) :: m, k => by simp only [renMemC, renMem, renK_eq, renCC_eq]; rw [renMemC_eq L m, forceMem_eq]
theorem forceL_eq : ∀ (l : List Nat) (k : List Nat → Option R), forceL l k = k l
  | [], k => rfl
  | x :: l, k => by simp only [forceL]; rw [forceL_eq l]
theorem forceLL_eq : ∀ (l : List (Nat × Nat)) (k : List (Nat × Nat) → Option R), forceLL l k = k l
  | [], k => rfl
  | (x, y) :: l, k => by simp only [forceLL]; rw [forceLL_eq l]
theorem canonC_eq (S : St) (k : St → Option R) : canonC S k = k (canon S) := by
  unfold canonC canon
  rw [forceL_eq]
  cases ordK S.tm S.mem with
  | nil => rfl
  | cons a o =>
    simp only [forceLL_eq, canonL]
    cases canonOk (numb names (a :: o)) S.mem with
    | true => simp only [renTmC_eq, renMemC_eq]
    | false => rfl
def ARun {α : Type} (a b : Acc α) : Prop := ∀ m l, a.run m l = b.run m l
theorem ARun.refl {α : Type} (a : Acc α) : ARun a a := fun _ _ => rfl
theorem ARun.bind {α β : Type} {a : Acc α} {f g : α → Acc β} (h : ∀ x, ARun (f x) (g x)) : ARun (a >>= f) (a >>= g) := by
  intro m l
  rw [run_bind, run_bind]
  cases a.run m l with
  | none => rfl
  | some r => obtain ⟨x, m, l⟩ := r; exact h x m l
theorem ARun.enc {α β γ : Type} {o : Option β} {enc : β → α} {f : α → Acc γ} : ARun (op' o >>= fun b => f (enc b)) (op' (o.map enc) >>= f) := by
  intro m l
  rw [run_bind, run_bind]
  cases o <;> rfl
theorem callVC_run {X : Ctx} {K : KonC} {fn dst f : Nat} {args : List V} {m : Mem} {l : Log} : (callVC X K fn dst f args).run m l = (callV X K.to fn dst f args).run m l := by
  revert m l
  show ARun _ _
  unfold callVC callV
  refine ARun.bind fun g => ARun.bind fun _ => ARun.bind fun args => ARun.bind fun cells => ARun.bind fun ⟨args, lent⟩ => ARun.bind fun _ => ?_
  exact ARun.enc (o := (K f args cells).o) (enc := (K f args cells).enc) (f := fun out => do
    ck (Nat.beq out.1.length g.resultTypes.size)
    ck (bif (!(lent.isEmpty) && (allAtts X.P (X.adv.att fn dst) 0 g.resultTypes.toList && (impArgs X.adv _ 0 [] _).isEmpty)) then out.1.all pureRow else true)
    freeze (bif (!(lent.isEmpty) && (allAtts X.P (X.adv.att fn dst) 0 g.resultTypes.toList && (impArgs X.adv _ 0 [] _).isEmpty)) then [] else lent)
    reAll X dst out.2 0 (impArgs X.adv _ 0 [] _)
    let vs ← resAll X (X.adv.att fn dst) dst out.1 0 g.resultTypes.toList
    match vs with
    | [v] => pure v
    | vs => pure (.tup vs))
theorem vopC_run {X : Ctx} {K : KonC} {fn : Nat} {tm : Tmps} {o : Oper} {m : Mem} {l : Log} : (vopC X K fn tm o).run m l = (vop X K.to fn tm o).run m l := by
  obtain ⟨dst, op, type, pos, after, guard⟩ := o
  cases op <;> try rfl
  case call c =>
    obtain ⟨callee, args, tys⟩ := c
    cases callee with
    | value f =>
      simp only [vopC, vop]
      cases ev X.P tm 0 f with
      | clo g a b => exact callVC_run
      | _ => rfl
    | invoke r m => rfl
    | builtin b => cases b <;> rfl
  case makeFunc f a b => cases f <;> rfl
  case slice a b c d e => cases e <;> rfl
theorem wantedC_eq (ops : Array Oper) (tm : Tmps) (o : Oper) (k : Bool → Tmps → Option R) : wantedC ops tm o k = (wantedV ops tm o).bind fun r => k r.1 r.2 := by
  unfold wantedC wantedV
  cases o.guard with
  | none => rfl
  | some jw =>
    obtain ⟨j, want⟩ := jw
    simp only
    cases ops[j]? with
    | none => rfl
    | some oj =>
      simp only
      cases oj.dst with
      | none => rfl
      | some d =>
        simp only
        cases getT d tm with
        | d x => cases x with
          | bool b => cases b <;> rfl
          | _ => rfl
        | tup vs => cases vs <;> rfl
        | _ => rfl
theorem runOpC_eq (X : Ctx) (K : KonC) (fn : Nat) (ops : Array Oper) (i : Nat) (S : St) (k : St → Log → Option R) : runOpC X K fn ops i S k = (runOp X K.to fn ops i S).bind fun r => k r.1 r.2 := by
  unfold runOpC runOp
  cases ops[i]? with
  | none => rfl
  | some o =>
    simp only [wantedC_eq]
    cases wantedV ops S.tm o with
    | none => rfl
    | some r =>
      obtain ⟨b, tm⟩ := r
      cases b with
      | false => rfl
      | true =>
        simp only [Option.bind_some, runC_eq, vopC_run]
        cases (vop X K.to fn tm o).run S.mem .none with
        | none => rfl
        | some r =>
          obtain ⟨v, m, l⟩ := r
          simp only [Option.bind_some]
          cases dstOk (ntOf X.P fn) o.dst with
          | false => rfl
          | true => simp only [cond_true, forceV_eq]; rfl
theorem runOpsC_eq (X : Ctx) (K : KonC) (fn : Nat) (ops : Array Oper) : ∀ (is : List Nat) (S : St) (L : List (Nat × Log)) (k : St → List (Nat × Log) → Option R), runOpsC X K fn ops is S L k = (runOps X K.to fn ops is S L).bind fun r => k r.1 r.2
  | [], S, L, k => rfl
  | i :: is, S, L, k => by
    simp only [runOpsC, runOps_eq, runOpC_eq]
    cases runOp X K.to fn ops i S with
    | none => rfl
    | some r => simp only [Option.bind_some]; exact runOpsC_eq X K fn ops is _ _ k
theorem fuseOpC_run {X : Ctx} {K : KonC} {tm : Tmps} {o1 o2 o3 : Oper} {m : Mem} {l : Log} : (fuseOpC X K tm o1 o2 o3).run m l = (fuseOp X K.to tm o1 o2 o3).run m l := by
  revert m l
  show ARun _ _
  unfold fuseOpC fuseOp
  split
  · rename_i d1 t ta _ _ _ d2 x ty2 _ _ _ f args _ _ _ _
    refine ARun.bind fun _ => ARun.bind fun e => ?_
    generalize getT ta tm = ga
    generalize ev X.P tm ty2 x = kv
    cases ga with
    | eptr r ver i off =>
      cases kv with
      | d y =>
        cases y with
        | int k n =>
          refine ARun.bind fun c => ?_
          cases c with
          | none => exact ARun.refl _
          | some c => cases c with
            | arr fz fl ver' s rows => cases fz with
              | true => exact ARun.refl _
              | false => cases fl with
                | true => exact ARun.refl _
                | false =>
                  refine ARun.bind fun _ => ARun.bind fun row => ARun.bind fun rs => ARun.bind fun _ => ?_
                  exact ARun.enc (o := (K f [.own impBase 0, .d (.int k n)] [.arr false (flatT X.P e) 0 (szT X.P e) rs]).o) (enc := (K f [.own impBase 0, .d (.int k n)] [.arr false (flatT X.P e) 0 (szT X.P e) rs]).enc) (f := fun out => do
                    let q ← op' (fuseOut out)
                    ck (fuseCk (szT X.P e) (flatT X.P e) q)
                    wr r (.arr false false ver' s (rows.set i (splice row off [.sl true (szT X.P e) q.2.2.2.2])))
                    pure (d1, d2, V.d (.int k n), V.d (.int q.1 q.2.1)))
            | _ => exact ARun.refl _
        | _ => exact ARun.refl _
      | _ => exact ARun.refl _
    | _ => exact ARun.refl _
  · rename_i hno
    split
    · exfalso
      apply hno <;> rfl
    · exact ARun.refl _
theorem runFuseC_eq (X : Ctx) (K : KonC) (fn : Nat) (ops : Array Oper) (p : Nat) (S : St) (k : St → Option R) : runFuseC X K fn ops p S k = (runFuse X K.to fn ops p S).bind k := by
  simp only [runFuseC, runFuse_eq]
  cases ops[p]? with
  | none => rfl
  | some o1 => cases ops[p + 1]? with
    | none => rfl
    | some o2 => cases ops[p + 2]? with
      | none => rfl
      | some o3 =>
        simp only [runC_eq, fuseOpC_run]
        cases (fuseOp X K.to S.tm o1 o2 o3).run S.mem .none with
        | none => rfl
        | some r =>
          simp only [Option.bind_some]
          cases (Nat.blt r.1.1 (ntOf X.P fn) && (Nat.blt r.1.2.1 (ntOf X.P fn) && dstOk (ntOf X.P fn) o3.dst)) <;> rfl
theorem regionRunC_eq (X : Ctx) (K : KonC) (fn id : Nat) (ops : Array Oper) (draw : Bool) (S : St) (k : St → List (Nat × Log) → Option R) : regionRunC X K fn id ops draw S k = (regionRun X K.to fn id ops draw S).bind fun r => k r.1 r.2 := by
  simp only [regionRunC, regionRun_eq]
  cases X.adv.fuse fn id with
  | zero => simp only [runOpsC_eq]
  | succ p =>
    cases draw with
    | true => rfl
    | false =>
      simp only [runOpsC_eq, runFuseC_eq]
      cases runOps X K.to fn ops (List.range p) S [] with
      | none => rfl
      | some r =>
        simp only [Option.bind_some]
        cases runFuse X K.to fn ops p r.1 <;> rfl
theorem regionC_eq (X : Ctx) (K : KonC) (fn id : Nat) (ops : Array Oper) (draw : Bool) (S : St) (k : St → Option R) : regionC X K fn id ops draw S k = (region X K.to fn id ops draw S).bind k := by
  simp only [regionC, region_eq, regionRunC_eq]
  cases regionRun X K.to fn id ops draw S with
  | none => rfl
  | some r =>
    simp only [Option.bind_some]
    have hp : (match prune0 (X.adv.keep fn id) r.1 with
      | some S'' => forceTm S''.tm fun tm => forceMem S''.mem fun m => canonC ⟨tm, m⟩ k
      | none => none) = (prune (X.adv.keep fn id) r.1).bind k := by
      unfold prune
      cases prune0 (X.adv.keep fn id) r.1 with
      | none => rfl
      | some S'' => simp only [forceTm_eq, forceMem_eq, canonC_eq]; rfl
    rw [hp]
    cases draw with
    | false => rfl
    | true =>
      simp only [drawB]
      cases (X.P.follows .mixedOrders && (backOk ops && drawOk ops (Region.before ops) r.2)) <;> rfl
theorem denC_eq (X : Ctx) (K : KonC) (L : LoopC) (fn : Nat) (c : Code) : ∀ (S : St) (k : Ex → St → Option R), denC X K L fn c S k = (denL X K.to L.to fn c S).bind fun r => k r.1 r.2 := by
  induction c with
  | skip => intro S k; rfl
  | region id ops draw =>
    intro S k
    simp only [denC, denL, regionC_eq]
    cases region X K.to fn id ops draw S <;> rfl
  | seq a b iha ihb =>
    intro S k
    simp only [denC, denL, iha]
    cases denL X K.to L.to fn a S with
    | none => rfl
    | some r =>
      obtain ⟨e, S'⟩ := r
      cases e with
      | normal => exact ihb S' k
      | exit id => rfl
      | ret => rfl
  | cond c a b iha ihb =>
    intro S k
    simp only [denC, denL, condV]
    cases hev : ev X.P S.tm 0 c with
    | d x => cases x with
      | bool t => cases t with
        | true =>
          simp only [refB_eq hev]
          exact iha S k
        | false =>
          simp only [refB_eq hev]
          exact ihb S k
      | _ => rfl
    | _ => rfl
  | block id c ih =>
    intro S k
    simp only [denC, denL, ih]
    cases denL X K.to L.to fn c S with
    | none => rfl
    | some r =>
      obtain ⟨e, S'⟩ := r
      cases e with
      | normal => rfl
      | ret => rfl
      | exit j =>
        simp only [Option.bind_some]
        cases Nat.beq j id <;> rfl
  | loop c ih =>
    intro S k
    simp only [denC, denL, LoopC.to, ResA.val, Alt.go_eq]
    cases (L (lid c) S).o <;> rfl
  | exit id => intro S k; rfl
  | ret => intro S k; rfl
  | _ => intro S k; rfl
theorem leaveC_eq (X : Ctx) (g : Func) (n : Nat) (S : St) (k : List Row → List Cell → Option R) : leaveC X g n S k = (leave X g n S).bind fun r => k r.1 r.2 := by
  simp only [leaveC, leave, runC_eq]
  split
  · rename_i r m l he; simp only [he]; rfl
  · rename_i he; simp only [he]; rfl
theorem bodyC_eq (X : Ctx) (K : KonC) (L : LoopC) (f : Nat) (args : List V) (cells : List Cell) (k : List Row → List Cell → Option R) : bodyC X K L f args cells k = (bodyL X K.to L.to f args cells).bind fun r => k r.1 r.2 := by
  simp only [bodyC, bodyL]
  cases X.P.funcs[f]? with
  | none => rfl
  | some g =>
    simp only
    cases g.body with
    | none => rfl
    | some c =>
      simp only
      generalize (!(Nat.ble cells.length impBase && Nat.ble args.length g.ntmps)) = q
      cases q with
      | true => rfl
      | false =>
        simp only [cond_false, runC_eq]
        cases (entry X f g args cells).run (impMem 0 cells) .none with
        | none => rfl
        | some r =>
          obtain ⟨tm, m, l⟩ := r
          simp only [Option.bind_some, forceTm_eq, forceMem_eq, denC_eq]
          cases denL X K.to L.to f c ⟨tm, m⟩ with
          | none => rfl
          | some r =>
            obtain ⟨e, S⟩ := r
            cases e with
            | normal => simp only [Option.bind_some, leaveC_eq]
            | ret => simp only [Option.bind_some, leaveC_eq]
            | exit j => rfl
end
theorem call_ofC {X : Ctx} {K : KonC} {L : LoopC} {f : Nat} {args : List V} {cells : List Cell} {r : List Row × List Cell} (hp : X.prim f = none) (hK : KLe K.to (call X)) (hL : LOk X (call X) f L.to (loops (codeOf X.P f)))
    (h : bodyC X K L f args cells (fun a b => some (a, b)) = some r) : call X f args cells = some r := by
  refine call_ofL hp hK hL ?_
  rw [bodyC_eq] at h
  cases hb : bodyL X K.to L.to f args cells with
  | none => rw [hb] at h; cases h
  | some q => rw [hb] at h; exact h
theorem den_ofC {X : Ctx} {K : KonC} {L : LoopC} {fn : Nat} {c : Code} {S : St} {r : Ex × St} (hK : KLe K.to (call X)) (hL : LOk X (call X) fn L.to (loops c)) (h : denC X K L fn c S (fun a b => some (a, b)) = some r) : den X (call X) fn c S = some r := by
  refine den_ofL hK hL ?_
  rw [denC_eq] at h
  cases hb : denL X K.to L.to fn c S with
  | none => rw [hb] at h; cases h
  | some q => rw [hb] at h; exact h
end Go.Vm

namespace Go.Vm
open Go
def iterM {σ τ : Type} (b : σ → Option (σ ⊕ τ)) : Nat → σ → Option τ
  | 0, _ => none
  | n + 1, s => match b s with
    | some (.inl s') => iterM b n s'
    | some (.inr t) => some t
    | none => none
theorem iterM_more {σ τ : Type} {b : σ → Option (σ ⊕ τ)} : ∀ {n k : Nat} {s : σ} {t : τ}, iterM b n s = some t → n ≤ k → iterM b k s = some t
  | 0, _, _, _, h, _ => by simp [iterM] at h
  | n + 1, 0, _, _, _, hk => by omega
  | n + 1, k + 1, s, t, h, hk => by
    simp only [iterM] at h ⊢
    cases hb : b s with
    | none => simp [hb] at h
    | some q =>
      rw [hb] at h
      cases q with
      | inl s' => exact iterM_more h (by omega)
      | inr t' => exact h
noncomputable def loopM {σ τ : Type} (b : σ → Option (σ ⊕ τ)) (s : σ) : Option τ := lim fun n => iterM b n s
theorem loopM_of {σ τ : Type} {b : σ → Option (σ ⊕ τ)} {s : σ} {t : τ} {n : Nat} (h : iterM b n s = some t) : loopM b s = some t := by
  refine lim_of h fun m y hy => ?_
  have h1 := iterM_more h (Nat.le_max_left n m)
  rw [iterM_more hy (Nat.le_max_right n m)] at h1
  exact Option.some.inj h1
theorem loopM_some {σ τ : Type} {b : σ → Option (σ ⊕ τ)} {s : σ} {t : τ} (h : loopM b s = some t) : ∃ n, iterM b n s = some t := lim_some h
theorem loopM_next {σ τ : Type} {b : σ → Option (σ ⊕ τ)} {s s' : σ} (h : b s = some (.inl s')) : loopM b s = loopM b s' := by
  cases hl : loopM b s' with
  | some t =>
    obtain ⟨n, hn⟩ := loopM_some hl
    exact loopM_of (n := n + 1) (by simp only [iterM, h]; exact hn)
  | none =>
    cases hs : loopM b s with
    | none => rfl
    | some t =>
      obtain ⟨n, hn⟩ := loopM_some hs
      cases n with
      | zero => simp [iterM] at hn
      | succ n =>
        simp only [iterM, h] at hn
        rw [loopM_of hn] at hl
        cases hl
theorem loopM_end {σ τ : Type} {b : σ → Option (σ ⊕ τ)} {s : σ} {t : τ} (h : b s = some (.inr t)) : loopM b s = some t :=
  loopM_of (n := 1) (by simp only [iterM, h])
theorem loopM_run {σ τ : Type} {b : σ → Option (σ ⊕ τ)} {t : τ} (st : Nat → σ) (n : Nat) (h : ∀ i, i < n → b (st i) = some (.inl (st (i + 1)))) (he : b (st n) = some (.inr t)) : ∀ i, i ≤ n → loopM b (st i) = some t := by
  intro i hi
  obtain ⟨d, rfl⟩ : ∃ d, n = i + d := ⟨n - i, by omega⟩
  induction d generalizing i with
  | zero => exact loopM_end he
  | succ d ih =>
    rw [loopM_next (h i (by omega)), ih (i + 1) (fun j hj => h j (by omega)) (by rw [show i + 1 + d = i + (d + 1) by omega]; exact he) (by omega)]
theorem loop_sound {σ τ : Type} {b : σ → Option (σ ⊕ τ)} {D : St → Option (Ex × St)} {tm : σ → St} {tx : τ → Ex × St}
    (h : ∀ s r, b s = some r → D (tm s) = some (match r with | .inl s' => (.normal, tm s') | .inr t => tx t)) (hx : ∀ t, (tx t).1 ≠ .normal) {s : σ} {t : τ} (hl : loopM b s = some t) : loopL D (tm s) = some (tx t) := by
  obtain ⟨n, hn⟩ := loopM_some hl
  induction n generalizing s with
  | zero => simp [iterM] at hn
  | succ n ih =>
    simp only [iterM] at hn
    cases hb : b s with
    | none => simp [hb] at hn
    | some q =>
      rw [hb] at hn
      have hd := h s q hb
      cases q with
      | inl s' =>
        have hl' := ih (loopM_of hn) hn
        obtain ⟨k, hk⟩ := loopL_some hl'
        refine loopL_of (n := k + 1) ?_
        simp only [iter, hd]
        exact hk
      | inr t' =>
        simp only [Option.some.injEq] at hn
        subst hn
        refine loopL_of (n := 1) ?_
        simp only [iter, hd]
        have := hx t'
        cases ht : tx t' with
        | mk e S => cases e with
          | normal => rw [ht] at this; exact absurd rfl this
          | exit id => rfl
          | ret => rfl
def LpOk (X : Ctx) (f n : Nat) (c : Code) (P : St → ResA (Ex × St)) : Prop := lid c = n ∧ ∀ S r, (P S).val = some r → loopL (den X (call X) f c) S = some r
def findLoop (n : Nat) : Code → Option Code
  | .seq a b => match findLoop n a with
    | some c => some c
    | none => findLoop n b
  | .cond _ a b => match findLoop n a with
    | some c => some c
    | none => findLoop n b
  | .block _ c => findLoop n c
  | .loop c => bif Nat.beq (lid c) n then some c else findLoop n c
  | _ => none
def loopCode (P : Program) (f n : Nat) : Code := match findLoop n (codeOf P f) with
  | some c => c
  | none => .skip
theorem fn_sound {X : Ctx} {K : KonC} {L : LoopC} {f : Nat} {args : List V} {cells : List Cell} {ρ : Type} {o : Option ρ} {enc : ρ → List Row × List Cell} (hp : X.prim f = none) (hK : KLe K.to (call X)) (hL : LOk X (call X) f L.to (loops (codeOf X.P f)))
    (h : bodyC X K L f args cells (fun a b => some (a, b)) = o.bind fun r => some (enc r)) {r : ρ} (hr : o = some r) : call X f args cells = some (enc r) := by
  refine call_ofC hp hK hL ?_
  rw [h, hr]
  rfl
theorem lp_sound {X : Ctx} {K : KonC} {L : LoopC} {f : Nat} {c : Code} {σ τ : Type} {b : σ → Option (σ ⊕ τ)} {tm : σ → St} {tx : τ → Ex × St} (hK : KLe K.to (call X)) (hL : LOk X (call X) f L.to (loops c))
    (h : ∀ s, denC X K L f c (tm s) (fun a b => some (a, b)) = (b s).bind fun r => some (match r with | .inl s' => (.normal, tm s') | .inr t => tx t)) (hx : ∀ t, (tx t).1 ≠ .normal) {s : σ} {t : τ} (hl : loopM b s = some t) :
    loopL (den X (call X) f c) (tm s) = some (tx t) := by
  refine loop_sound (fun s r hr => ?_) hx hl
  refine den_ofC hK hL ?_
  rw [h s, hr]
  rfl
theorem bif_bind {α β : Type} (c : Bool) (a b : Option α) (f : α → Option β) : (bif c then a else b).bind f = bif c then a.bind f else b.bind f := by cases c <;> rfl
theorem bind_bind {α β γ : Type} (o : Option α) (g : α → Option β) (f : β → Option γ) : (o.bind g).bind f = o.bind fun x => (g x).bind f := by cases o <;> rfl
theorem some_bind {α β : Type} (a : α) (f : α → Option β) : (some a).bind f = f a := rfl
theorem none_bind {α β : Type} (f : α → Option β) : (none : Option α).bind f = none := rfl
def optE {α β : Type} (o : Option α) (n : Option β) (f : α → Option β) : Option β := match o with
  | none => n
  | some x => f x
def letE {α β : Type} (x : α) (f : α → Option β) : Option β := f x
theorem optE_bind {α β γ : Type} (o : Option α) (n : Option β) (f : α → Option β) (g : β → Option γ) : (optE o n f).bind g = optE o (n.bind g) fun x => (f x).bind g := by cases o <;> rfl
theorem sumE_bind {α β γ δ : Type} (r : α ⊕ β) (f : α → Option γ) (g : β → Option γ) (k : γ → Option δ) : (sumE r f g).bind k = sumE r (fun x => (f x).bind k) (fun y => (g y).bind k) := by cases r <;> rfl
theorem letE_bind {α β γ : Type} (x : α) (f : α → Option β) (g : β → Option γ) : (letE x f).bind g = letE x fun y => (f y).bind g := rfl
theorem LpOk.at {X : Ctx} {f n : Nat} {c : Code} {P : St → ResA (Ex × St)} {L : LoopC} (h : LpOk X f n c P) (hL : ∀ S, L n S = P S) : ∀ S r, L.to (lid c) S = some r → loopL (den X (call X) f c) S = some r := by
  intro S r hr
  rw [h.1, LoopC.to, hL] at hr
  exact h.2 S r hr
end Go.Vm

namespace Go.Vm
open Go
set_option linter.unusedVariables false
structure Pt (β : Type) where
  α : Type
  enc : α → β
  dec : β → Option α
  ok : ∀ b x, dec b = some x → b = enc x
noncomputable section
def pS : Pt V := ⟨List UInt8, fun s => .d (.str s), fun v => match v with | .d (.str s) => some s | _ => none, by
  intro b x h; split at h <;> simp_all⟩
def pK (k : IntKind) : Pt V := ⟨Int, fun n => .d (.int k n), fun v => match v with | .d (.int k' n) => (match decEq k' k with | .isTrue _ => some n | .isFalse _ => none) | _ => none, by
  intro b x h; split at h
  · split at h <;> simp_all
  · cases h⟩
def pI : Pt V := pK .i64
def pB : Pt V := ⟨Bool, fun s => .d (.bool s), fun v => match v with | .d (.bool s) => some s | _ => none, by
  intro b x h; split at h <;> simp_all⟩
def pL (o : Bool) (s : Nat) : Pt V := ⟨List Row, fun r => .d (.sl o s r), fun v => match v with | .d (.sl o' s' r) => bif (o == o') && Nat.beq s s' then some r else none | _ => none, by
  intro b x h; split at h
  · rename_i o' s' r
    cases ho : (o == o') <;> cases hs : Nat.beq s s' <;> simp only [ho, hs, Bool.and_true, Bool.and_false, Bool.false_and, cond_true, cond_false, Option.some.injEq] at h
    all_goals first | cases h; done | skip
    cases h
    rw [beq_iff_eq] at ho
    rw [Nat.eq_of_beq_eq_true hs, ho]
  · cases h⟩
def pZ {β : Type} (v : β) (t : β → Bool) (h : ∀ b, t b = true → b = v) : Pt β := ⟨Unit, fun _ => v, fun b => bif t b then some () else none, by
  intro b x e
  cases ht : t b with
  | true => exact h b ht
  | false => rw [ht] at e; cases e⟩
theorem and2 {a b : Bool} (h : (a && b) = true) : a = true ∧ b = true := by simpa using h
def pO (r n : Nat) : Pt V := pZ (.own r n) (fun v => match v with | .own a b => Nat.beq r a && Nat.beq n b | _ => false) (by
  intro b h; split at h
  · obtain ⟨h1, h2⟩ := and2 h
    rw [Nat.eq_of_beq_eq_true h1, Nat.eq_of_beq_eq_true h2]
  · cases h)
def pP (r n : Nat) : Pt V := pZ (.ptr r n) (fun v => match v with | .ptr a b => Nat.beq r a && Nat.beq n b | _ => false) (by
  intro b h; split at h
  · obtain ⟨h1, h2⟩ := and2 h
    rw [Nat.eq_of_beq_eq_true h1, Nat.eq_of_beq_eq_true h2]
  · cases h)
def pCons {β : Type} (p : Pt β) (q : Pt (List β)) : Pt (List β) := ⟨p.α × q.α, fun x => p.enc x.1 :: q.enc x.2, fun l => match l with | a :: b => (match p.dec a with | some x => (match q.dec b with | some y => some (x, y) | none => none) | none => none) | [] => none, by
  intro b x h; split at h
  · split at h
    · rename_i hp
      split at h
      · rename_i hq
        cases h
        rw [p.ok _ _ hp, q.ok _ _ hq]
      · cases h
    · cases h
  · cases h⟩
def pEnd {β : Type} : Pt (List β) := pZ [] (fun l => match l with | [] => true | _ => false) (by intro b h; split at h <;> simp_all)
def pl {β : Type} (l : List (Pt β)) : Pt (List β) := List.rec pEnd (fun p _ q => pCons p q) l
def pAgg (a : List (Pt V)) : Pt V := ⟨(pl a).α, fun x => .agg ((pl a).enc x), fun v => match v with | .agg x => (pl a).dec x | _ => none, by
  intro v x h; split at h
  · rw [(pl a).ok _ _ h]
  · cases h⟩
def cB (t : TypeId) (a : List (Pt V)) : Pt Cell := ⟨(pl a).α, fun x => .box t ((pl a).enc x), fun v => match v with | .box u x => bif Nat.beq t u then (pl a).dec x else none | _ => none, by
  intro v x h; split at h
  · rename_i u y
    cases ht : Nat.beq t u with
    | false => rw [ht] at h; cases h
    | true =>
      rw [ht, cond_true] at h
      rw [(pl a).ok _ _ h, Nat.eq_of_beq_eq_true ht]
  · cases h⟩
def cA (z l : Bool) (n s : Nat) : Pt Cell := ⟨List Row, fun r => .arr z l n s r, fun v => match v with | .arr z' l' n' s' r => bif (z == z') && ((l == l') && (Nat.beq n n' && Nat.beq s s')) then some r else none | _ => none, by
  intro b x h; split at h
  · rename_i z' l' n' s' r
    cases ht : ((z == z') && ((l == l') && (Nat.beq n n' && Nat.beq s s'))) with
    | false => rw [ht] at h; cases h
    | true =>
      rw [ht] at h
      obtain ⟨h1, h2⟩ := and2 ht
      obtain ⟨h2, h3⟩ := and2 h2
      obtain ⟨h3, h4⟩ := and2 h3
      cases h
      rw [beq_iff_eq] at h1 h2
      rw [h1, h2, Nat.eq_of_beq_eq_true h3, Nat.eq_of_beq_eq_true h4]
  · cases h⟩
def pAt {β : Type} (n : Nat) (p : Pt β) : Pt (Nat × β) := ⟨p.α, fun x => (n, p.enc x), fun y => bif Nat.beq n y.1 then p.dec y.2 else none, by
  intro y x h
  cases ht : Nat.beq n y.1 with
  | false => rw [ht] at h; cases h
  | true =>
    rw [ht, cond_true] at h
    rw [← p.ok _ _ h, Nat.eq_of_beq_eq_true ht]⟩
def pSt (t : List (Pt (Nat × V))) (m : List (Pt (Nat × Cell))) : Pt St := ⟨(pl t).α × (pl m).α, fun x => ⟨(pl t).enc x.1, (pl m).enc x.2⟩, fun S => match (pl t).dec S.tm with | some x => (match (pl m).dec S.mem with | some y => some (x, y) | none => none) | none => none, by
  intro S x h; split at h
  · rename_i hp
    split at h
    · rename_i hq
      cases h
      cases S
      have e1 := (pl t).ok _ _ hp
      have e2 := (pl m).ok _ _ hq
      simp only at e1 e2
      rw [e1, e2]
    · cases h
  · cases h⟩
def pOr {β : Type} (p q : Pt β) : Pt β := ⟨p.α ⊕ q.α, fun x => match x with | .inl x => p.enc x | .inr y => q.enc y, fun b => match p.dec b with | some x => some (.inl x) | none => (match q.dec b with | some y => some (.inr y) | none => none), by
  intro b x h; split at h
  · rename_i hp
    cases h
    exact p.ok _ _ hp
  · split at h
    · rename_i hq
      cases h
      exact q.ok _ _ hq
    · cases h⟩
structure Sig where
  f : Nat
  p : Pt (List V)
  q : Pt (List Cell)
  ρ : Type
  enc : ρ → List Row × List Cell
@[reducible] def sg (f : Nat) (a : List (Pt V)) (c : List (Pt Cell)) {ρ : Type} (enc : ρ → List Row × List Cell) : Sig := ⟨f, pl a, pl c, ρ, enc⟩
abbrev Sig.α (S : Sig) : Type := S.p.α × S.q.α
def Sig.ok (S : Sig) (X : Ctx) (o : S.α → Option S.ρ) : Prop := ∀ x r, o x = some r → call X S.f (S.p.enc x.1) (S.q.enc x.2) = some (S.enc r)
structure FE (X : Ctx) where
  f : Nat
  P : List V → List Cell → Option (Res (List Row × List Cell))
  ok : ∀ a c q r, P a c = some q → q.val = some r → call X f a c = some r
def fe {X : Ctx} {S : Sig} {o : S.α → Option S.ρ} (h : S.ok X o) : FE X := ⟨S.f, fun a c => match S.p.dec a with | some x => (match S.q.dec c with | some y => some ⟨S.ρ, o (x, y), S.enc⟩ | none => none) | none => none, by
  intro a c q r hq hr
  split at hq
  · rename_i x hx
    split at hq
    · rename_i y hy
      cases hq
      obtain ⟨z, hz, rfl⟩ := Res.val_some hr
      rw [S.p.ok _ _ hx, S.q.ok _ _ hy]
      exact h (x, y) z hz
    · cases hq
  · cases hq⟩
def kt {X : Ctx} (l : List (FE X)) : KonC := List.rec (fun _ _ _ => .none) (fun e _ K g a c => bif Nat.beq g e.f then (match e.P a c with | some r => r | none => K g a c) else K g a c) l
theorem kt_ok {X : Ctx} (l : List (FE X)) : KLe (kt l).to (call X) := by
  induction l with
  | nil => exact fun _ _ _ _ h => by simp [KonC.to, kt, Res.none, Res.val] at h
  | cons e l ih =>
    intro g a c r hr
    have hr' : (bif Nat.beq g e.f then (match e.P a c with | some r => r | none => kt l g a c) else kt l g a c).val = some r := hr
    by_cases h : g = e.f
    · subst h
      simp only [Nat.beq_refl, cond_true] at hr'
      split at hr'
      · rename_i q hq
        exact e.ok a c q r hq hr'
      · exact ih _ a c r hr'
    · rw [beq_no h] at hr'
      exact ih g a c r hr'
structure LE (X : Ctx) (f : Nat) where
  n : Nat
  c : Code
  P : St → Option (ResA (Ex × St))
  hn : lid c = n
  ok : ∀ S q r, P S = some q → q.val = some r → loopL (den X (call X) f c) S = some r
def lt {X : Ctx} {f : Nat} (l : List (LE X f)) : LoopC := List.rec (fun _ _ => .none) (fun e _ L n S => bif Nat.beq n e.n then (match e.P S with | some r => r | none => .none) else L n S) l
def apart (l : List Nat) : Bool := match l with
  | [] => true
  | x :: l => l.all (fun y => !(Nat.beq x y)) && apart l
theorem lt_one {X : Ctx} {f : Nat} : ∀ (l : List (LE X f)), apart (l.map LE.n) = true → ∀ e, e ∈ l → ∀ S r, (lt l e.n S).val = some r → loopL (den X (call X) f e.c) S = some r
  | [], _, e, h, _, _, _ => by cases h
  | d :: l, hd, e, he, S, r, hr => by
    have hr' : (bif Nat.beq e.n d.n then (match d.P S with | some r => r | none => .none) else lt l e.n S).val = some r := hr
    simp only [List.map_cons, apart, Bool.and_eq_true] at hd
    rcases List.mem_cons.1 he with rfl | he
    · simp only [Nat.beq_refl, cond_true] at hr'
      split at hr'
      · rename_i q hq
        exact e.ok S q r hq hr'
      · simp [ResA.none, ResA.val] at hr'
    · have h1 := List.all_eq_true.1 hd.1 e.n (List.mem_map_of_mem he)
      have h2 : e.n ≠ d.n := by
        intro h
        rw [h, Nat.beq_refl] at h1
        cases h1
      rw [beq_no h2] at hr'
      exact lt_one l hd.2 e he S r hr'
theorem lt_ok {X : Ctx} {f : Nat} {l : List (LE X f)} {cs : List Code} (h : cs = l.map LE.c) (hd : apart (l.map LE.n) = true) : LOk X (call X) f (lt l).to cs := by
  intro c hc S r hr
  rw [h] at hc
  obtain ⟨e, he, rfl⟩ := List.mem_map.1 hc
  rw [e.hn] at hr
  exact lt_one l hd e he S r hr
theorem fnS {X : Ctx} {S : Sig} {o : S.α → Option S.ρ} (C : ∀ {R : Type}, S.α → (S.ρ → Option R) → Option R) (K : List (FE X)) (L : List (LE X S.f)) (hn : ∀ {R : Type} x (k : S.ρ → Option R), C x k = (C x some).bind k)
    (hE : ∀ {R : Type} x (k : List Row → List Cell → Option R), bodyC X (kt K) (lt L) S.f (S.p.enc x.1) (S.q.enc x.2) k = C x (fun r => k (S.enc r).1 (S.enc r).2) := by intros; kernel_rfl)
    (hL : loops (codeOf X.P S.f) = L.map LE.c := by kernel_rfl) (hd : apart (L.map LE.n) = true := by kernel_rfl) (hp : X.prim S.f = none := by kernel_rfl) (ho : ∀ x, o x = C x some := by intros; rfl) : S.ok X o := by
  intro x r h
  rw [ho] at h
  exact fn_sound hp (kt_ok K) (lt_ok hL hd) (by rw [hE, hn]) h
theorem Sig.lim {X : Ctx} {S : Sig} {o : Nat → S.α → Option S.ρ} (h : ∀ n, S.ok X (o n)) : S.ok X fun x => Vm.lim fun n => o n x := by
  intro x r hr
  obtain ⟨n, hn⟩ := lim_some hr
  exact h n x r hn
theorem Sig.zero {X : Ctx} {S : Sig} : S.ok X fun _ => none := fun _ _ h => by cases h
theorem Sig.lim_of {X : Ctx} {S : Sig} {o : Nat → S.α → Option S.ρ} (h : ∀ n, S.ok X (o n)) (hi : ∀ a b, S.enc a = S.enc b → a = b) {x : S.α} {n : Nat} {r : S.ρ} (hr : o n x = some r) : (Vm.lim fun n => o n x) = some r := by
  refine Vm.lim_of hr fun m y hy => ?_
  have h1 := h n x r hr
  have h2 := h m x y hy
  rw [h1] at h2
  exact (hi _ _ (Option.some.inj h2)).symm
theorem Sig.prim {X : Ctx} {S : Sig} {o : S.α → Option S.ρ} {p : List V → List Cell → Option (List Row × List Cell)} (h : ∀ x, p (S.p.enc x.1) (S.q.enc x.2) = (o x).map S.enc := by intros; rfl) (hp : X.prim S.f = some p := by kernel_rfl) : S.ok X o := by
  intro x r hr
  exact call_of_prim hp (by rw [h, hr]; rfl)
def le {X : Ctx} {f : Nat} (n : Nat) (p : Pt St) {σ : Type} (v : p.α → σ) (g : p.α → σ → p.α) (A : p.α → Alt (Ex × St)) (C : ∀ {R : Type} (x : p.α), σ → (σ → Option R) → ((A x).T → Option R) → Option R) (K : List (FE X)) (L : List (LE X f))
    (hn : ∀ {R : Type} x s (kn : σ → Option R) (ke : (A x).T → Option R), C x s kn ke = (C x s (fun s => some (Sum.inl s)) (fun t => some (Sum.inr t))).bind fun r => match r with | .inl s => kn s | .inr t => ke t)
    (hE : ∀ {R : Type} x s (k : Ex → St → Option R), denC X (kt K) (lt L) f (loopCode X.P f n) (p.enc (g x s)) k = C x s (fun s => k .normal (p.enc (g x s))) (fun t => (A x).go t fun r => k r.1 r.2) := by intros; kernel_rfl)
    (hx : ∀ x t, ((A x).enc t).1 ≠ .normal := by first | (intro x t h; cases h; done) | (intro x t; rcases t with t | t <;> first | (intro h; cases h; done) | (rcases t with t | t <;> first | (intro h; cases h; done) | (rcases t with t | t <;> (intro h; cases h)))))
    (hv : ∀ x, g x (v x) = x := by first | (intros; rfl) | (rintro (_ | _) <;> rfl) | (rintro (_ | _ | _) <;> rfl) | (rintro (_ | _ | _ | _) <;> rfl))
    (hL : loops (loopCode X.P f n) = L.map LE.c := by kernel_rfl) (hd : apart (L.map LE.n) = true := by kernel_rfl) (hi : lid (loopCode X.P f n) = n := by kernel_rfl) : LE X f :=
  ⟨n, loopCode X.P f n, fun S => match p.dec S with | some x => some ⟨A x, loopM (fun s => C x s (fun s => some (Sum.inl s)) (fun t => some (Sum.inr t))) (v x)⟩ | none => none, hi, by
    intro S q r hq hr
    split at hq
    · rename_i x hp
      cases hq
      obtain ⟨t, ht, rfl⟩ := ResA.val_some hr
      rw [p.ok _ _ hp]
      have h := lp_sound (X := X) (f := f) (c := loopCode X.P f n) (K := kt K) (L := lt L) (tm := fun s => p.enc (g x s)) (tx := (A x).enc) (kt_ok K) (lt_ok hL hd) (fun s => by
        rw [hE, hn]
        congr 1
        funext r
        cases r
        · rfl
        · exact Alt.go_eq _ _ _) (hx x) ht
      rwa [hv] at h
    · cases hq⟩
theorem nb : (∀ (α β : Type) (c : Bool) (a b : Option α) (f : α → Option β), (bif c then a else b).bind f = bif c then a.bind f else b.bind f) ∧ (∀ (α β γ : Type) (o : Option α) (g : α → Option β) (f : β → Option γ), (o.bind g).bind f = o.bind fun x => (g x).bind f) ∧
    (∀ (α β : Type) (a : α) (f : α → Option β), (some a).bind f = f a) ∧ (∀ (α β : Type) (f : α → Option β), (none : Option α).bind f = none) ∧
    (∀ (α β γ : Type) (o : Option α) (n : Option β) (f : α → Option β) (g : β → Option γ), (optE o n f).bind g = optE o (n.bind g) fun x => (f x).bind g) ∧
    (∀ (α β γ δ : Type) (r : α ⊕ β) (f : α → Option γ) (g : β → Option γ) (k : γ → Option δ), (sumE r f g).bind k = sumE r (fun x => (f x).bind k) (fun y => (g y).bind k)) ∧
    (∀ (α β γ : Type) (x : α) (f : α → Option β) (g : β → Option γ), (letE x f).bind g = letE x fun y => (f y).bind g) :=
  ⟨fun _ _ => bif_bind, fun _ _ _ => bind_bind, fun _ _ => some_bind, fun _ _ => none_bind, fun _ _ _ => optE_bind, fun _ _ _ _ => sumE_bind, fun _ _ _ => letE_bind⟩
section
variable {α β ρ R : Type} {k : ρ → Option R}
theorem nbif {c : Bool} {x y : Option R} {u v : Option ρ} (h1 : x = u.bind k) (h2 : y = v.bind k) : (bif c then x else y) = (bif c then u else v).bind k := by cases c <;> assumption
theorem nbb {o : Option α} {f : α → Option R} {g : α → Option ρ} (h : ∀ a, f a = (g a).bind k) : o.bind f = (o.bind g).bind k := by cases o with
  | none => rfl
  | some a => exact h a
theorem nbo {o : Option α} {n : Option R} {m : Option ρ} {f : α → Option R} {g : α → Option ρ} (h1 : n = m.bind k) (h : ∀ a, f a = (g a).bind k) : optE o n f = (optE o m g).bind k := by rw [optE_bind, h1, funext h]
theorem nbs {o : α ⊕ β} {f : α → Option R} {g : β → Option R} {f' : α → Option ρ} {g' : β → Option ρ} (h1 : ∀ a, f a = (f' a).bind k) (h2 : ∀ a, g a = (g' a).bind k) : sumE o f g = (sumE o f' g').bind k := by rw [sumE_bind, funext h1, funext h2]
theorem nbl {x : α} {f : α → Option R} {g : α → Option ρ} (h : ∀ a, f a = (g a).bind k) : letE x f = (letE x g).bind k := by rw [letE_bind, funext h]
end
end
end Go.Vm

namespace Go.Vm
open Go
theorem wrap_ok {n : Int} (h1 : -9223372036854775808 ≤ n) (h2 : n ≤ 9223372036854775807) : IntKind.i64.wrap n = n := IntWalk.i64_in n ⟨h1, h2⟩
theorem idx_map {α β : Type} (f : α → β) (l : List α) (i : Int) : idx (l.map f) i = (idx l i).map f := by
  unfold idx
  cases decide (0 ≤ i) <;> simp
theorem idx_nat {α : Type} (l : List α) (i : Nat) : idx l (i : Int) = l[i]? := by
  simp [idx]
theorem idx_in {α : Type} {l : List α} {i : Int} (h0 : 0 ≤ i) (h1 : i < l.length) : ∃ x, idx l i = some x ∧ l[i.toNat]? = some x := by
  refine ⟨l[i.toNat]'(by omega), ?_, by simp⟩
  unfold idx
  simp only [decide_eq_true h0, cond_true]
  simp
structure Nd where
  kind : Int
  op : Int
  text : List UInt8
  other : List UInt8
  kids : List Int
  deriving DecidableEq, Inhabited
def encI (l : List Int) : List Row := l.map fun k => [.int .i64 k]
def encN (o : Bool) (n : Nd) : Row := [.int .i64 n.kind, .int .i64 n.op, .str n.text, .str n.other, .sl o 1 (encI n.kids)]
def encNs (o : Bool) (l : List Nd) : List Row := l.map (encN o)
structure Tk where
  kind : Int
  text : List UInt8
  at_ : Int
  deriving DecidableEq, Inhabited
def encT (n : Tk) : Row := [.int .i64 n.kind, .str n.text, .int .i64 n.at_]
def encTs (l : List Tk) : List Row := l.map encT
section
variable (o : Bool) (n : Nd) (l : List Nd) (k : List Int) (i : Int) (t : Tk) (ts : List Tk)
@[simp] theorem encI_length : (encI k).length = k.length := by simp [encI]
@[simp] theorem encNs_length : (encNs o l).length = l.length := by simp [encNs]
@[simp] theorem encTs_length : (encTs ts).length = ts.length := by simp [encTs]
@[simp] theorem idx_encI : idx (encI k) i = (idx k i).map fun k => [D.int .i64 k] := idx_map _ _ _
@[simp] theorem idx_encNs : idx (encNs o l) i = (idx l i).map (encN o) := idx_map _ _ _
@[simp] theorem idx_encTs : idx (encTs ts) i = (idx ts i).map encT := idx_map _ _ _
@[simp] theorem get_encI (j : Nat) : (encI k)[j]? = (k[j]?).map fun k => [D.int .i64 k] := by simp [encI]
@[simp] theorem get_encNs (j : Nat) : (encNs o l)[j]? = (l[j]?).map (encN o) := by simp [encNs]
@[simp] theorem get_encTs (j : Nat) : (encTs ts)[j]? = (ts[j]?).map encT := by simp [encTs]
@[simp] theorem cN0 : cInt .i64 (encN o n) 0 = some n.kind := rfl
@[simp] theorem cN1 : cInt .i64 (encN o n) 1 = some n.op := rfl
@[simp] theorem cN2 : cStr (encN o n) 2 = some n.text := rfl
@[simp] theorem cN3 : cStr (encN o n) 3 = some n.other := rfl
@[simp] theorem cN4 : cSl 1 (encN o n) 4 = some (encI n.kids) := rfl
@[simp] theorem cT0 : cInt .i64 (encT t) 0 = some t.kind := rfl
@[simp] theorem cT1 : cStr (encT t) 1 = some t.text := rfl
@[simp] theorem cT2 : cInt .i64 (encT t) 2 = some t.at_ := rfl
@[simp] theorem cI0 : cInt .i64 [D.int .i64 i] 0 = some i := rfl
@[simp] theorem fz_encI : fzRows (encI k) = encI k := by
  induction k with
  | nil => rfl
  | cons x l ih =>
    simp only [encI, List.map_cons, fzRows] at ih ⊢
    rw [ih]
    rfl
@[simp] theorem fz_encNs : fzRows (encNs o l) = encNs false l := by
  induction l with
  | nil => rfl
  | cons x l ih =>
    simp only [encNs, List.map_cons, fzRows] at ih ⊢
    rw [ih]
    simp [encN, fzRow, D.fz, fz_encI]
@[simp] theorem fz_encTs : fzRows (encTs ts) = encTs ts := by
  induction ts with
  | nil => rfl
  | cons x l ih =>
    simp only [encTs, List.map_cons, fzRows] at ih ⊢
    rw [ih]
    simp [encT, fzRow, D.fz]
@[simp] theorem flat_encI : flatRows (encI k) = true := by
  simp only [flatRows, encI, List.all_map, List.all_eq_true]
  intro x _
  rfl
end
def I64 (n : Int) : Prop := -9223372036854775808 ≤ n ∧ n ≤ 9223372036854775807
structure Fit (n : Nd) : Prop where
  kind : I64 n.kind
  op : I64 n.op
  text : n.text.length ≤ maxLen
  other : n.other.length ≤ maxLen
  kids : n.kids.length ≤ maxLen
  kid : ∀ k, k ∈ n.kids → I64 k
structure FitT (n : Tk) : Prop where
  kind : I64 n.kind
  text : n.text.length ≤ maxLen
  at_ : I64 n.at_
def foldE {α ω τ : Type} (f : ω → α → ω ⊕ τ) (fin : ω → τ) : List α → ω → τ
  | [], w => fin w
  | x :: l, w => match f w x with
    | .inl w' => foldE f fin l w'
    | .inr t => t
theorem loopM_list {σ τ α ω : Type} (b : σ → Option (σ ⊕ τ)) (l : List α) (st : Nat → ω → σ) (f : ω → α → ω ⊕ τ) (fin : ω → τ) (I : Nat → ω → Prop)
    (hstep : ∀ i x w, l[i]? = some x → I i w → b (st i w) = some (match f w x with | .inl w' => .inl (st (i + 1) w') | .inr t => .inr t))
    (hI : ∀ i x w w', l[i]? = some x → I i w → f w x = .inl w' → I (i + 1) w')
    (hend : ∀ w, I l.length w → b (st l.length w) = some (.inr (fin w))) (w : ω) (h0 : I 0 w) : loopM b (st 0 w) = some (foldE f fin l w) := by
  have key : ∀ (t : List α) (i : Nat) (w : ω), l.drop i = t → i ≤ l.length → I i w → loopM b (st i w) = some (foldE f fin t w) := by
    intro t
    induction t with
    | nil =>
      intro i w hd hi hI'
      have : i = l.length := by
        have := congrArg List.length hd
        simp at this
        omega
      subst this
      exact loopM_end (hend w hI')
    | cons x t ih =>
      intro i w hd hi hI'
      have hx : l[i]? = some x := by
        have : (l.drop i)[0]? = some x := by rw [hd]; rfl
        simpa using this
      have hlt : i < l.length := (List.getElem?_eq_some_iff.1 hx).1
      have hd' : l.drop (i + 1) = t := by
        rw [← List.drop_drop, hd]
        rfl
      have hs := hstep i x w hx hI'
      simp only [foldE]
      cases hf : f w x with
      | inl w' =>
        rw [hf] at hs
        rw [loopM_next hs]
        exact ih (i + 1) w' hd' hlt (hI i x w w' hx hI' hf)
      | inr u =>
        rw [hf] at hs
        exact loopM_end hs
  exact key l 0 w rfl (Nat.zero_le _) h0
end Go.Vm

namespace Go.Vm
open Go
inductive Tn where
  | mk (kind op : Int) (text other : List UInt8) (kids : List Tn)
mutual
def Tn.size : Tn → Nat
  | .mk _ _ _ _ ks => sizes ks + 1
def sizes : List Tn → Nat
  | [] => 0
  | t :: ts => t.size + sizes ts
end
def ends : List Tn → Nat → List Int
  | [], _ => []
  | t :: ts, b => ((b : Int) + t.size - 1) :: ends ts (b + t.size)
mutual
def Tn.flat : Tn → Nat → List Nd
  | .mk k o x y ks, b => flats ks b ++ [⟨k, o, x, y, ends ks b⟩]
def flats : List Tn → Nat → List Nd
  | [], _ => []
  | t :: ts, b => t.flat b ++ flats ts (b + t.size)
end
mutual
def Tn.row (w : Bool) : Tn → Row
  | .mk k o x y ks => [.int .i64 k, .int .i64 o, .str x, .str y, .sl w 5 (rowsT w ks)]
def rowsT (w : Bool) : List Tn → List Row
  | [] => []
  | t :: ts => t.row w :: rowsT w ts
end
mutual
def Tn.depth : Tn → Int
  | .mk _ _ _ _ ks => depths 0 ks + 1
def depths (a : Int) : List Tn → Int
  | [] => a
  | t :: ts => depths (bif decide (a < t.depth) then t.depth else a) ts
end
def Tn.kids : Tn → List Tn | .mk _ _ _ _ ks => ks
def Tn.kind : Tn → Int | .mk k _ _ _ _ => k
def Tn.op : Tn → Int | .mk _ o _ _ _ => o
def Tn.text : Tn → List UInt8 | .mk _ _ x _ _ => x
def Tn.other : Tn → List UInt8 | .mk _ _ _ y _ => y
theorem Tn.ind {P : Tn → Prop} (h : ∀ k o x y ks, (∀ t, t ∈ ks → P t) → P (.mk k o x y ks)) (t : Tn) : P t := by
  refine Tn.rec (motive_1 := P) (motive_2 := fun ks => ∀ t, t ∈ ks → P t) ?_ ?_ ?_ t
  · intro k o x y ks ih; exact h k o x y ks ih
  · intro t ht; cases ht
  · intro t ts h1 h2 u hu
    rcases List.mem_cons.1 hu with rfl | hu
    · exact h1
    · exact h2 u hu
theorem Tn.size_pos : ∀ t : Tn, 1 ≤ t.size
  | .mk _ _ _ _ ks => by rw [Tn.size]; omega
theorem Tn.size_kids (t : Tn) : t.size = sizes t.kids + 1 := by cases t; rfl
theorem sizes_append : ∀ a b : List Tn, sizes (a ++ b) = sizes a + sizes b
  | [], b => by simp [sizes]
  | t :: a, b => by rw [List.cons_append, sizes, sizes, sizes_append a b]; omega
theorem sizes_le : ∀ ks : List Tn, ks.length ≤ sizes ks
  | [] => Nat.le_refl _
  | t :: ts => by
    have := sizes_le ts
    have := t.size_pos
    rw [sizes, List.length_cons]
    omega
theorem sizes_reverse : ∀ a : List Tn, sizes a.reverse = sizes a
  | [] => rfl
  | t :: a => by
    rw [List.reverse_cons, sizes_append, sizes_reverse a, sizes, sizes, sizes]
    omega
theorem ends_length : ∀ (ks : List Tn) (b : Nat), (ends ks b).length = ks.length
  | [], _ => rfl
  | t :: ts, b => by rw [ends, List.length_cons, ends_length ts, List.length_cons]
theorem ends_append : ∀ (a c : List Tn) (b : Nat), ends (a ++ c) b = ends a b ++ ends c (b + sizes a)
  | [], c, b => by simp [ends, sizes]
  | t :: a, c, b => by
    rw [List.cons_append, ends, ends, ends_append a c, sizes, List.cons_append, Nat.add_assoc]
theorem flats_append : ∀ (a c : List Tn) (b : Nat), flats (a ++ c) b = flats a b ++ flats c (b + sizes a)
  | [], c, b => by simp [flats, sizes]
  | t :: a, c, b => by
    rw [List.cons_append, flats, flats, flats_append a c, sizes, List.append_assoc, Nat.add_assoc]
mutual
theorem Tn.flat_length : ∀ (t : Tn) (b : Nat), (t.flat b).length = t.size
  | .mk _ _ _ _ ks, b => by rw [Tn.flat, Tn.size, List.length_append, flats_length ks b]; rfl
theorem flats_length : ∀ (ks : List Tn) (b : Nat), (flats ks b).length = sizes ks
  | [], _ => rfl
  | t :: ts, b => by rw [flats, sizes, List.length_append, t.flat_length b, flats_length ts]
end
def Nd.up (d : Int) (n : Nd) : Nd := { n with kids := n.kids.map (· + d) }
theorem ends_by : ∀ (ks : List Tn) (b c : Nat), ends ks c = (ends ks b).map (· + ((c : Int) - b))
  | [], _, _ => rfl
  | t :: ts, b, c => by
    rw [ends, ends, List.map_cons, ends_by ts (b + t.size) (c + t.size)]
    have e : (((c + t.size : Nat) : Int) - ((b + t.size : Nat) : Int)) = (c : Int) - b := by omega
    rw [e]
    congr 1
    omega
mutual
theorem Tn.flat_by : ∀ (t : Tn) (b c : Nat), t.flat c = (t.flat b).map (Nd.up ((c : Int) - b))
  | .mk k o x y ks, b, c => by
    rw [Tn.flat, Tn.flat, List.map_append, flats_by ks b c, ends_by ks b c]
    rfl
theorem flats_by : ∀ (ks : List Tn) (b c : Nat), flats ks c = (flats ks b).map (Nd.up ((c : Int) - b))
  | [], _, _ => rfl
  | t :: ts, b, c => by
    rw [flats, flats, List.map_append, t.flat_by b c, flats_by ts (b + t.size) (c + t.size)]
    have e : (((c + t.size : Nat) : Int) - ((b + t.size : Nat) : Int)) = (c : Int) - b := by omega
    rw [e]
end
def Lies (l : List Nd) (b : Nat) (t : Tn) : Prop := ∃ pre post, l = pre ++ (t.flat b ++ post) ∧ pre.length = b
theorem Lies.whole (t : Tn) : Lies (t.flat 0) 0 t := ⟨[], [], by simp, rfl⟩
theorem Lies.root {l : List Nd} {b : Nat} {k o : Int} {x y : List UInt8} {ks : List Tn} (h : Lies l b (.mk k o x y ks)) : l[b + sizes ks]? = some ⟨k, o, x, y, ends ks b⟩ := by
  obtain ⟨pre, post, rfl, rfl⟩ := h
  rw [Tn.flat, List.getElem?_append_right (by omega), List.append_assoc, List.getElem?_append_right (by rw [flats_length]; omega), flats_length]
  simp
theorem Lies.kid {l : List Nd} {b : Nat} {k o : Int} {x y : List UInt8} {a c : List Tn} {t : Tn} (h : Lies l b (.mk k o x y (a ++ t :: c))) : Lies l (b + sizes a) t := by
  obtain ⟨pre, post, rfl, rfl⟩ := h
  refine ⟨pre ++ flats a pre.length, flats c (pre.length + sizes a + t.size) ++ [⟨k, o, x, y, ends (a ++ t :: c) pre.length⟩] ++ post, ?_, by rw [List.length_append, flats_length]⟩
  rw [Tn.flat, flats_append, flats]
  simp only [List.append_assoc]
theorem Lies.lt {l : List Nd} {b : Nat} {t : Tn} (h : Lies l b t) : b + t.size ≤ l.length := by
  obtain ⟨pre, post, rfl, rfl⟩ := h
  simp only [List.length_append, t.flat_length]
  omega
theorem Lies.part {l : List Nd} {b : Nat} {t : Tn} (h : Lies l b t) : (l.drop b).take t.size = t.flat b := by
  obtain ⟨pre, post, rfl, rfl⟩ := h
  rw [List.drop_left, ← t.flat_length pre.length, List.take_left]
def walkKids (st : List Int) : List Int → Int → Option Int
  | [], at_ => some at_
  | k :: ks, at_ => if at_ < 0 ∨ k ≠ at_ then none else walkKids st ks ((st[k.toNat]?.getD 0) - 1)
def startsL : List Int → List (List Int) → Option (List Int)
  | st, [] => some st
  | st, n :: l => match walkKids st n.reverse ((st.length : Int) - 1) with
    | none => none
    | some at_ => startsL (st ++ [at_ + 1]) l
def startsOk (l : List (List Int)) : Option (List Int) := if 1 ≤ l.length ∧ l.length ≤ 400 then startsL [] l else none
def ks (l : List Nd) : List (List Int) := l.map (·.kids)
def lshape (l : List Nd) : Bool := match startsOk (ks l) with
  | none => false
  | some st => st[l.length - 1]?.getD 0 == 0
theorem ks_length (l : List Nd) : (ks l).length = l.length := by simp [ks]
theorem ks_append (a b : List Nd) : ks (a ++ b) = ks a ++ ks b := by simp [ks]
def rootsT (st : List Int) : List Tn → Prop
  | [] => True
  | t :: ts => st[sizes (t :: ts) - 1]? = some (sizes ts : Int) ∧ rootsT st ts
theorem roots_ext {st u : List Int} : ∀ {ts : List Tn}, sizes ts ≤ st.length → (rootsT (st ++ u) ts ↔ rootsT st ts)
  | [], _ => Iff.rfl
  | t :: ts, h => by
    have hp := t.size_pos
    have h1 : sizes ts ≤ st.length := by rw [sizes] at h; omega
    rw [rootsT, rootsT, roots_ext h1, List.getElem?_append_left (by rw [sizes] at h ⊢; omega)]
theorem walk_roots {st : List Int} : ∀ {ks : List Int} {ts : List Tn} {a : Int}, rootsT st ts → walkKids st ks ((sizes ts : Int) - 1) = some a →
    ∃ u v, ts = u ++ v ∧ ks.reverse = ends u.reverse (sizes v) ∧ a = (sizes v : Int) - 1
  | [], ts, a, _, h => by
    rw [walkKids] at h
    cases h
    exact ⟨[], ts, rfl, rfl, rfl⟩
  | k :: ks, [], a, _, h => by
    rw [walkKids, if_pos (.inl (by simp [sizes]))] at h
    cases h
  | k :: ks, t :: ts, a, hr, h => by
    have hp := t.size_pos
    have hs : sizes (t :: ts) = t.size + sizes ts := by rw [sizes]
    rw [walkKids] at h
    split at h
    · cases h
    · rename_i hc
      have hk : k = (sizes (t :: ts) : Int) - 1 := by omega
      have hk' : k.toNat = sizes (t :: ts) - 1 := by omega
      rw [hk', hr.1, Option.getD_some] at h
      obtain ⟨u, v, rfl, h1, h2⟩ := walk_roots hr.2 h
      refine ⟨t :: u, v, rfl, ?_, h2⟩
      rw [List.reverse_cons, List.reverse_cons, h1, ends_append, sizes_reverse, hk, hs, sizes_append, ends, ends]
      congr 2
      omega
theorem roots_drop {st : List Int} : ∀ {u v : List Tn}, rootsT st (u ++ v) → rootsT st v
  | [], _, h => h
  | _ :: u, _, h => roots_drop (u := u) h.2
theorem starts_stack : ∀ (l pre : List Nd) (st r : List Int) (ts : List Tn), pre = flats ts.reverse 0 → st.length = pre.length → rootsT st ts → startsL st (ks l) = some r →
    ∃ us, pre ++ l = flats us.reverse 0 ∧ r.length = (pre ++ l).length ∧ rootsT r us
  | [], pre, st, r, ts, h1, h2, h3, h => by
    rw [show ks [] = [] from rfl, startsL] at h
    cases h
    exact ⟨ts, by simpa using h1, by simpa using h2, h3⟩
  | n :: l, pre, st, r, ts, h1, h2, h3, h => by
    have hk : ks (n :: l) = n.kids :: ks l := rfl
    have hpl : pre.length = sizes ts := by rw [h1, flats_length, sizes_reverse]
    rw [hk, startsL] at h
    split at h
    · cases h
    · rename_i a ha
      rw [h2, hpl] at ha
      obtain ⟨u, v, rfl, hu, rfl⟩ := walk_roots h3 ha
      rw [List.reverse_reverse] at hu
      have hz : sizes (Tn.mk n.kind n.op n.text n.other u.reverse :: v) = sizes u + 1 + sizes v := by rw [sizes, Tn.size, sizes_reverse]
      have := starts_stack l (pre ++ [n]) (st ++ [(sizes v : Int) - 1 + 1]) r (Tn.mk n.kind n.op n.text n.other u.reverse :: v) (by
        rw [h1, List.reverse_append, List.reverse_cons, flats_append, flats_append, flats, flats, Tn.flat, List.append_nil, List.append_assoc, sizes_reverse, Nat.zero_add, ← hu]) (by simp [h2]) (by
        refine ⟨?_, ?_⟩
        · rw [hz, List.getElem?_append_right (by rw [h2, hpl, sizes_append]; omega), h2, hpl, sizes_append]
          rw [show sizes u + 1 + sizes v - 1 - (sizes u + sizes v) = 0 by omega]
          simp
        · rw [roots_ext (by rw [h2, hpl, sizes_append]; omega)]
          exact roots_drop h3) h
      obtain ⟨us, k1, k2, k3⟩ := this
      exact ⟨us, by simpa using k1, by simpa using k2, k3⟩
theorem shape_tree {l : List Nd} (h : lshape l = true) : ∃ t : Tn, l = t.flat 0 ∧ t.size ≤ 400 := by
  unfold lshape at h
  cases hs : startsOk (ks l) with
  | none => rw [hs] at h; cases h
  | some r =>
    rw [hs] at h
    unfold startsOk at hs
    split at hs
    · rename_i hq
      rw [ks_length] at hq
      obtain ⟨us, k1, k2, k3⟩ := starts_stack l [] [] r [] rfl rfl trivial hs
      simp only [List.nil_append] at k1 k2
      have hl : l.length = sizes us := by rw [k1, flats_length, sizes_reverse]
      cases us with
      | nil => rw [sizes] at hl; omega
      | cons t ts =>
        rw [rootsT, ← hl] at k3
        simp only [k3.1, Option.getD_some, beq_iff_eq] at h
        have : ts = [] := by
          cases ts with
          | nil => rfl
          | cons u us =>
            have := u.size_pos
            rw [sizes] at h
            omega
        subst this
        refine ⟨t, by simpa [flats] using k1, ?_⟩
        rw [sizes, sizes] at hl
        omega
    · cases hs
mutual
def Tn.sts : Tn → Nat → List Int
  | .mk _ _ _ _ ks, b => stss ks b ++ [(b : Int)]
def stss : List Tn → Nat → List Int
  | [], _ => []
  | t :: ts, b => t.sts b ++ stss ts (b + t.size)
end
mutual
theorem Tn.sts_length : ∀ (t : Tn) (b : Nat), (t.sts b).length = t.size
  | .mk _ _ _ _ ks, b => by rw [Tn.sts, Tn.size, List.length_append, stss_length ks b]; rfl
theorem stss_length : ∀ (ks : List Tn) (b : Nat), (stss ks b).length = sizes ks
  | [], _ => rfl
  | t :: ts, b => by rw [stss, sizes, List.length_append, t.sts_length b, stss_length ts]
end
theorem Tn.sts_last : ∀ (t : Tn) (b : Nat), ∃ u, t.sts b = u ++ [(b : Int)] ∧ u.length = t.size - 1
  | .mk _ _ _ _ ks, b => ⟨stss ks b, by rw [Tn.sts], by rw [stss_length, Tn.size]; omega⟩
theorem walk_ends {st : List Int} {b : Nat} (hb : st.length = b) : ∀ (ks : List Tn) (u : List Int), walkKids (st ++ stss ks b ++ u) (ends ks b).reverse ((b : Int) + sizes ks - 1) = some ((b : Int) - 1) := by
  intro ks
  induction hn : ks.length generalizing ks with
  | zero =>
    intro u
    have : ks = [] := List.length_eq_zero_iff.1 hn
    subst this
    simp [ends, walkKids, sizes]
  | succ n ih =>
    intro u
    obtain ⟨ts, t, rfl⟩ : ∃ ts t, ks = ts ++ [t] := by
      have hne : ks ≠ [] := by intro e; simp [e] at hn
      exact ⟨ks.dropLast, ks.getLast hne, (List.dropLast_concat_getLast hne).symm⟩
    have hp := t.size_pos
    have hss : stss (ts ++ [t]) b = stss ts b ++ t.sts (b + sizes ts) := by
      have : ∀ (ts : List Tn) (b : Nat), stss (ts ++ [t]) b = stss ts b ++ t.sts (b + sizes ts) := by
        intro ts
        induction ts with
        | nil => intro b; simp [stss, sizes]
        | cons v vs ihv => intro b; rw [List.cons_append, stss, stss, ihv, sizes, List.append_assoc, Nat.add_assoc]
      exact this ts b
    have hsz : sizes (ts ++ [t]) = sizes ts + t.size := by rw [sizes_append, sizes, sizes]; omega
    rw [ends_append, List.reverse_append, ends, ends, List.reverse_singleton, List.singleton_append, walkKids, hsz]
    have hn' : ¬ ((b : Int) + ((sizes ts + t.size : Nat) : Int) - 1 < 0 ∨ ((b + sizes ts : Nat) : Int) + t.size - 1 ≠ (b : Int) + ((sizes ts + t.size : Nat) : Int) - 1) := by omega
    rw [if_neg hn']
    obtain ⟨w, hw, hwl⟩ := t.sts_last (b + sizes ts)
    have hget : (st ++ stss (ts ++ [t]) b ++ u)[(((b + sizes ts : Nat) : Int) + t.size - 1).toNat]? = some ((b + sizes ts : Nat) : Int) := by
      rw [hss, hw]
      have e : (((b + sizes ts : Nat) : Int) + t.size - 1).toNat = (st ++ stss ts b ++ w).length := by
        simp only [List.length_append, hb, stss_length, hwl]
        omega
      rw [e, show st ++ (stss ts b ++ (w ++ [((b + sizes ts : Nat) : Int)])) ++ u = (st ++ stss ts b ++ w) ++ (((b + sizes ts : Nat) : Int) :: u) by simp, List.getElem?_append_right (Nat.le_refl _)]
      simp
    rw [hget, Option.getD_some, hss, show st ++ (stss ts b ++ t.sts (b + sizes ts)) ++ u = st ++ stss ts b ++ (t.sts (b + sizes ts) ++ u) by simp]
    have := ih ts (by simpa using hn) (t.sts (b + sizes ts) ++ u)
    rw [← this]
    congr 1
mutual
theorem Tn.starts_flat : ∀ (t : Tn) (st : List Int) (l : List Nd), startsL st (ks (t.flat st.length ++ l)) = startsL (st ++ t.sts st.length) (ks l)
  | .mk k o x y us, st, l => by
    rw [Tn.flat, List.append_assoc, starts_flats us st]
    have e : ks ([⟨k, o, x, y, ends us st.length⟩] ++ l) = ends us st.length :: ks l := rfl
    have hw := walk_ends (st := st) rfl us []
    rw [List.append_nil] at hw
    rw [e, startsL, List.length_append, stss_length, Int.natCast_add, hw, Tn.sts]
    simp only
    rw [List.append_assoc]
    congr 3
    simp
theorem starts_flats : ∀ (us : List Tn) (st : List Int) (l : List Nd), startsL st (ks (flats us st.length ++ l)) = startsL (st ++ stss us st.length) (ks l)
  | [], st, l => by simp [flats, stss]
  | t :: us, st, l => by
    rw [flats, List.append_assoc, t.starts_flat st]
    have := starts_flats us (st ++ t.sts st.length) l
    rw [List.length_append, t.sts_length] at this
    rw [this, stss, List.append_assoc]
end
theorem tree_starts (t : Tn) : startsL [] (ks (t.flat 0)) = some (t.sts 0) := by
  have := t.starts_flat [] []
  simpa [ks, startsL] using this
theorem Lies.sts {l : List Nd} {t : Tn} (hl : l = t.flat 0) {b : Nat} {u : Tn} (h : Lies l b u) : (t.sts 0)[b + u.size - 1]? = some (b : Int) := by
  obtain ⟨pre, post, e, hb⟩ := h
  have h0 := tree_starts t
  rw [← hl, e, ks_append] at h0
  have key : ∀ (a c : List (List Int)) (st r : List Int), startsL st (a ++ c) = some r → ∃ m, startsL st a = some m ∧ startsL m c = some r ∧ m.length = st.length + a.length := by
    intro a
    induction a with
    | nil => intro c st r h; exact ⟨st, rfl, h, by simp⟩
    | cons x a ih =>
      intro c st r h
      rw [List.cons_append, startsL] at h
      rw [startsL]
      split at h
      · cases h
      · obtain ⟨m, k1, k2, k3⟩ := ih c _ r h
        exact ⟨m, k1, k2, by rw [k3]; simp; omega⟩
  obtain ⟨m, k1, k2, k3⟩ := key _ _ _ _ h0
  have hm : m.length = b := by rw [k3, ks_length, hb]; simp
  subst hm
  rw [u.starts_flat m post] at k2
  have pref : ∀ (a : List (List Int)) (st r : List Int), startsL st a = some r → ∃ w, r = st ++ w := by
    intro a
    induction a with
    | nil => intro st r h; cases h; exact ⟨[], by simp⟩
    | cons x a ih =>
      intro st r h
      rw [startsL] at h
      split at h
      · cases h
      · obtain ⟨w, hw⟩ := ih _ r h
        exact ⟨_, by rw [hw, List.append_assoc]⟩
  obtain ⟨w, hw⟩ := pref _ _ _ k2
  obtain ⟨v, hv, hvl⟩ := u.sts_last m.length
  have hp := u.size_pos
  rw [hw, hv, show m ++ (v ++ [(m.length : Int)]) ++ w = (m ++ v) ++ ((m.length : Int) :: w) by simp, show m.length + u.size - 1 = (m ++ v).length by rw [List.length_append, hvl]; omega, List.getElem?_append_right (Nat.le_refl _)]
  simp
end Go.Vm

namespace Go.Vm
open Go
section
variable {X : Ctx} {base : Nat} {U : Nat → Prop} {w w' : World} {f : FuncId} {gargs gcells : List Value} {N1 N2 : List Nat} {P : Program}
end
end Go.Vm
