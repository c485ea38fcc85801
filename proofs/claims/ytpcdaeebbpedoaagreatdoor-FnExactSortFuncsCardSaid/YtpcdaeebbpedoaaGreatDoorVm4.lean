import Derived.Test.YtpcdaeebbpedoaaGreatDoorVm3
import Derived.IntWalk
import Derived.ChangeShapes
import Derived.ChangeOld
import Derived.Carry
import Derived.WideShapes
import Derived.ProofKit
import Derived.Handed
import Derived.LaidLaws
import Derived.LaidHandle
import Derived.Shelf.Vars
import Derived.OpenShut
import Derived.ChangeArms
import Derived.LaidMore
set_option linter.unusedVariables false
set_option linter.unusedSimpArgs false

namespace Go.Vm
open Go
section
variable {base : Nat} {U : Nat → Prop} {w : World} {X : Ctx} {P : Program}
def resM (tmps : Array Value) : ResultVar → Sem Value
  | .tmp t => pure (tmps.getD t undef)
  | .cell a t => do loadVar t (← asAddr (tmps.getD a undef))
theorem run_mapM_list {α : Type} (f : α → Sem Value) : ∀ (l : List α) (gs : List Value), (∀ (i : Nat) x, l[i]? = some x → ∃ g, gs[i]? = some g ∧ (f x).run P w = .ok g w) → l.length = gs.length → (l.mapM f).run P w = .ok gs w
  | [], gs, _, hl => by
    have : gs = [] := List.length_eq_zero_iff.1 hl.symm
    subst this
    rfl
  | x :: l, gs, h, hl => by
    cases gs with
    | nil => simp at hl
    | cons g gs =>
      obtain ⟨g', h1, h2⟩ := h 0 x rfl
      simp only [List.getElem?_cons_zero, Option.some.injEq] at h1
      subst h1
      have ih := run_mapM_list f l gs (fun i y hy => by simpa using h (i + 1) y (by simpa using hy)) (by simpa using hl)
      rw [List.mapM_cons]
      simp only [Sem.run_bind, h2, Result.andThen_ok, ih]
      rfl
theorem results_run {fn : Func} {tmps : Array Value} {gs : List Value} (h : ∀ (i : Nat) x, fn.results.toList[i]? = some x → ∃ g, gs[i]? = some g ∧ (resM tmps x).run P w = .ok g w) (hl : fn.results.toList.length = gs.length) :
    (results fn tmps).run P w = .ok (retV gs) w := by
  have hm := run_mapM_list (P := P) (w := w) (resM tmps) fn.results.toList gs h hl
  have e : results fn tmps = (do
    let vs ← fn.results.mapM (resM tmps)
    pure (if h : vs.size = 1 then vs[0] else .tuple vs)) := by
    unfold results
    first
      | rfl
      | (congr 1; done)
      | (congr 1; congr 1; done)
  rw [e, Array.mapM_eq_mapM_toList]
  simp only [map_eq_pure_bind, Sem.run_bind, hm, Result.andThen_ok, Sem.run_pure]
  congr 1
  unfold retV
  cases gs with
  | nil => rfl
  | cons g gs => cases gs with
    | nil => simp
    | cons _ _ => simp
theorem resRow_ok {m : Mem} {G : GS} {tm : Tmps} {a : Act} {r : ResultVar} {t : TypeId} (hg : Gok base U w m G) (ho : G.out = []) (hT : simT G.μ m (Gh U w G) tm a) {row : Row} {m' : Mem} {l l' : Log} (h : (resRow P tm r t).run m l = some (row, m', l')) :
    ∃ G' N g cs, Took base U w m G m' G' N ∧ (resM a.tmps r).run P w = .ok g w ∧ valOf P t cs g ∧ owRow (heapOf w) (Gh U w G') row cs N ∧ row.length = cs.length := by
  cases r with
  | tmp x =>
    simp only [resRow] at h
    have hx := ev_ok (P := P) hT 0 (.tmp x)
    simp only [ev] at hx
    have hgo : ∀ v : V, simV G.μ m (Gh U w G) v (a.eval (.tmp x)) → aggT P t = false → (toRow [v]).run m l = some (row, m', l') →
        ∃ G' N g cs, Took base U w m G m' G' N ∧ (resM a.tmps (.tmp x)).run P w = .ok g w ∧ valOf P t cs g ∧ owRow (heapOf w) (Gh U w G') row cs N ∧ row.length = cs.length := by
      intro v hv ht h
      obtain ⟨G', N, t1, q1, hl⟩ := toRow_ok hg (vs := [v]) (gs := [a.eval (.tmp x)]) (by simp only [simVs]; exact ⟨_, _, rfl, hv, rfl⟩) ho h
      exact ⟨G', N, a.eval (.tmp x), [a.eval (.tmp x)], t1, rfl, by simp [valOf, ht], q1, by rw [hl]; rfl⟩
    cases ht : aggT P t with
    | true =>
      rw [ht] at h
      cases hv : getT x tm with
      | agg cs =>
        rw [hv] at h hx
        simp only [simV] at hx
        obtain ⟨arr, e, hs⟩ := hx
        obtain ⟨G', N, t1, q1, hl⟩ := toRow_ok hg hs ho h
        refine ⟨G', N, _, arr.toList, t1, rfl, ?_, q1, by rw [hl, simVs_length hs]⟩
        simp only [valOf, ht, if_true]
        exact e
      | _ => rw [hv] at h; exact (run_fail h).elim
    | false =>
      rw [ht] at h
      cases hv : getT x tm with
      | agg cs => rw [hv] at h; exact (run_fail h).elim
      | _ => rw [hv] at h hx; exact hgo _ hx ht h
  | cell y T =>
    simp only [resRow] at h
    have hx := ev_ok (P := P) hT 0 (.tmp y)
    simp only [ev] at hx
    split at h
    · rename_i r he
      rw [he] at hx
      replace h := run_bind_some h; obtain ⟨c, m2, l2, h2, h⟩ := h
      rw [run_rd] at h2
      cases h2
      cases hc : get r m with
      | none => rw [hc] at h; exact (run_fail h).elim
      | some c =>
        rw [hc] at h
        cases c with
        | arr _ _ _ _ _ => exact (run_fail h).elim
        | dead => exact (run_fail h).elim
        | que _ _ _ => exact (run_fail h).elim
        | kbox _ _ => exact (run_fail h).elim
        | box T' cs =>
          simp only at h
          replace h := run_bind_some h; obtain ⟨_, m2, l2, h2, h⟩ := h
          obtain ⟨hck, rfl, rfl⟩ := run_ck h2
          simp only [Bool.and_eq_true, Bool.or_eq_true] at hck
          obtain ⟨⟨hTt, hlen⟩, hok, hagg⟩ := hck
          have hTt := Nat.eq_of_beq_eq_true hTt
          have hlen := Nat.eq_of_beq_eq_true hlen
          subst hTt
          simp only [simV, hc] at hx
          obtain ⟨_, b, hμ, hg0⟩ := hx
          obtain ⟨b', arr, e1, e2, e3, e4⟩ := hg.cell r _ hc (by rw [ho]; simp)
          rw [hμ] at e1
          cases e1
          obtain ⟨G', N, t1, q1, hl⟩ := toRow_ok hg e3 ho h
          have hal := simVs_length e3
          obtain ⟨g, hvg⟩ : ∃ g, valOf P T arr.toList g := by
            unfold valOf
            cases ha : aggT P T with
            | true => exact ⟨_, rfl⟩
            | false =>
              have h1 : cs.length = 1 := by
                rcases hagg with h1 | h1
                · rw [ha] at h1; cases h1
                · exact Nat.eq_of_beq_eq_true h1
              cases hr : arr.toList with
              | nil => rw [hr] at hal; simp [h1] at hal
              | cons g r =>
                cases r with
                | nil => exact ⟨g, rfl⟩
                | cons _ _ => rw [hr] at hal; simp [h1] at hal
          refine ⟨G', N, g, arr.toList, t1, ?_, hvg, q1, by rw [hl, hal]⟩
          have hrun := run_loadAt (P := P) (w := w) (t := T) (b := b) (off := 0) (cs := arr.toList) (g := g) hok (by rw [hal, hlen]) (by
            intro j v hj
            have hH : w.heap[b]? = some (.cells arr T' (0, 0)) := e2
            simp only [World.cell?, hH, Nat.zero_add]
            simpa using hj) hvg
          simp only [resM]
          have hg0 : a.tmps.getD y undef = .pointer (some ⟨b, 0, none⟩) := hg0
          rw [hg0]
          simpa [Instr.loadAt, Instr.sureAddr, asAddr] using hrun
    · exact (run_fail h).elim
theorem resRows_ok {tm : Tmps} {a : Act} : ∀ {rs : List ResultVar} {ts : List TypeId} {m : Mem} {G : GS} (_ : Gok base U w m G) (_ : G.out = []) (_ : simT G.μ m (Gh U w G) tm a) {rows : List Row} {m' : Mem} {l l' : Log}
    (_ : (resRows P tm rs ts).run m l = some (rows, m', l')), ∃ G' N gs, Took base U w m G m' G' N ∧ (∀ (i : Nat) x, rs[i]? = some x → ∃ g, gs[i]? = some g ∧ (resM a.tmps x).run P w = .ok g w) ∧ rs.length = gs.length ∧
      retsS P (heapOf w) (Gh U w G') ts rows gs N
  | [], [], m, G, hg, ho, hT, rows, m', l, l', h => by
    simp only [resRows, run_pure, Option.some.injEq, Prod.mk.injEq] at h
    obtain ⟨rfl, rfl, rfl⟩ := h
    exact ⟨G, [], [], Took.same hg, fun i x h => by simp at h, rfl, rfl, rfl, rfl⟩
  | r :: rs, t :: ts, m, G, hg, ho, hT, rows, m', l, l', h => by
    simp only [resRows] at h
    replace h := run_bind_some h; obtain ⟨row, m1, l1, h1, h⟩ := h
    replace h := run_bind_some h; obtain ⟨rows', m2, l2, h2, h⟩ := h
    simp only [run_pure, Option.some.injEq, Prod.mk.injEq] at h
    obtain ⟨rfl, rfl, rfl⟩ := h
    obtain ⟨G1, N1, g, cs, t1, r1, v1, q1, e1⟩ := resRow_ok hg ho hT h1
    obtain ⟨G2, N2, gs, t2, r2, e2, q2⟩ := resRows_ok t1.ok (t1.out.trans ho) (fun t v hv => ⟨(hT t v hv).1, t1.le.simV (hT t v hv).2⟩) h2
    refine ⟨G2, N1 ++ N2, g :: gs, t1.trans t2, ?_, by simp [e2], row, rows', g, gs, cs, N1, N2, rfl, rfl, rfl, v1, owRow_keep t2.le.view q1, e1, q2⟩
    intro i x hx
    cases i with
    | zero =>
      simp only [List.getElem?_cons_zero, Option.some.injEq] at hx
      subst hx
      exact ⟨g, rfl, r1⟩
    | succ i => simpa using r2 i x (by simpa using hx)
  | [], _ :: _, _, _, _, _, _, _, _, _, _, h => (run_fail h).elim
  | _ :: _, [], _, _, _, _, _, _, _, _, _, h => (run_fail h).elim
theorem kind_back {μ μ' : Nat → Value} {r : Nat} {c c' d : Cell} (hc : sameKind c c) (h : cellLe μ μ' r c c') (k : sameKind c' d) : μ' r = μ r ∧ sameKind c d := by
  cases c <;> cases c' <;> cases d <;> simp only [sameKind, cellLe] at hc h k ⊢
  · exact ⟨h.2, h.1.symm.trans k⟩
  · obtain ⟨a1, a2, a3, a4⟩ := k
    obtain ⟨b1, b2, b3⟩ := h
    obtain ⟨c1, _, _, _⟩ := hc
    have := b3 (c1.trans a1.symm)
    exact ⟨this.1, c1, a2, b2.symm.trans a3, this.2.symm.trans a4⟩
  all_goals trivial
theorem outs_back {μ μ' : Nat → Value} {m0 m1 : Mem} (hle : memLe μ m0 μ' m1) : ∀ {rs : List Nat} {cs ds : List Cell}, kinds m0 rs cs → kinds m1 rs ds → (∀ c, c ∈ cs → sameKind c c) → (∀ (i r : Nat) c, rs[i]? = some r → cs[i]? = some c → get r m0 = some c) → rs.map μ' = rs.map μ ∧ kindL cs ds
  | [], cs, ds, h, k, _, _ => by
    simp only [kinds] at h k
    subst h; subst k
    exact ⟨rfl, rfl⟩
  | r :: rs, cs, ds, ⟨c, c', cs', e1, h1, h2, h3⟩, ⟨d, d', ds', e2, k1, k2, k3⟩, hs, hg => by
    subst e1; subst e2
    have hc := hg 0 r c' rfl rfl
    obtain ⟨c2, q1, q2⟩ := hle r c' hc
    rw [k1] at q1
    cases q1
    obtain ⟨p1, p2⟩ := kind_back (hs c' (by simp)) q2 k2
    obtain ⟨r1, r2⟩ := outs_back hle h3 k3 (fun c hc => hs c (by simp [hc])) (fun i r c hr hc => hg (i + 1) r c (by simpa using hr) (by simpa using hc))
    exact ⟨by simp [p1, r1], d', ds', rfl, p2, r2⟩
theorem cellsB_same {H : Heap} {h : View} : ∀ {cs : List Cell} {gs : List Value} {N : List Nat}, cellsB H h cs gs N → ∀ c, c ∈ cs → sameKind c c
  | [], _, _, _, c, hc => by simp at hc
  | c :: cs, _, _, ⟨g, gs', N1, N2, e, _, q1, q2⟩, d, hd => by
    rcases List.mem_cons.1 hd with rfl | hd
    · exact cellB_same q1
    · exact cellsB_same q2 d hd
theorem leave_ok {f : Nat} {fn : Func} {args : List V} {cells outs : List Cell} {gargs gcells : List Value} {N1 N2 : List Nat} {w' : World} (hG : Given X base U w f args cells gargs gcells N1 N2) {S : St} {G : GS} {a : Act} {nt : Nat}
    (R : Rel base U (N1 ++ N2) w (impμ gcells) (impMem 0 cells) nt w' S G a) {rows : List Row} (h : leave X fn cells.length S = some (rows, outs)) :
    ∃ gs M1 M2, (results fn a.tmps).run X.P w' = .ok (retV gs) w' ∧ Did X.P U w w' (N1 ++ N2) fn.resultTypes.toList cells outs gcells rows gs M1 M2 := by
  simp only [leave] at h
  split at h
  · rename_i r m' l' hr
    simp only [Option.some.injEq] at h
    subst h
    replace hr := run_bind_some hr; obtain ⟨rows1, m1, l1, h1, hr⟩ := hr
    replace hr := run_bind_some hr; obtain ⟨cs1, m2, l2, h2, hr⟩ := hr
    simp only [run_pure, Option.some.injEq, Prod.mk.injEq] at hr
    obtain ⟨⟨rfl, rfl⟩, rfl, rfl⟩ := hr
    obtain ⟨G1, Nr, gs, t1, r1, e1, q1⟩ := resRows_ok R.at_.ok R.at_.out R.tm h1
    have ho1 : G1.out = [] := t1.out.trans R.at_.out
    obtain ⟨G2, Nc, t2, q2, kd2⟩ := expAll_ok t1.ok (impKeys_nodup cells.length) (fun r hr => ⟨hr, by rw [ho1]; simp⟩) (fun r hr => by rw [ho1] at hr; simp at hr) h2
    have hE2 : G2.E = Nr ++ Nc := by rw [t2.E, t1.E, R.at_.E]; rfl
    have hlen := cellsB_length hG.cells
    have hk0 : kinds (impMem 0 cells) (impKeys cells.length) cells := by
      rw [impKeys_eq]
      exact kinds_imp (fun i => by rw [Nat.zero_add]; exact get_impMem0 cells i) hG.cells
    obtain ⟨b1, b2⟩ := outs_back (memLe_trans R.imp t1.le.mem) hk0 kd2 (cellsB_same hG.cells) (by
      intro i r c hr hc
      have hi : i < cells.length := (List.getElem?_eq_some_iff.1 hc).1
      rw [impKeys_get hi] at hr
      cases hr
      rw [get_impMem0]; exact hc)
    have hv : (Gh U w' G2).le (view w' U (· ∈ Nc ++ Nr)) := view_le (fun _ x => x) (fun b hb => .inl (by rw [hE2]; simp only [List.mem_append] at hb ⊢; exact hb.symm))
    refine ⟨gs, Nc, Nr, results_run r1 e1, R.at_.fr.keep, ?_, ?_, b2, ?_, ?_⟩
    · have := t2.ok.ndE
      rw [hE2] at this
      exact (List.perm_append_comm.nodup_iff).1 this
    · intro b hb
      have hbE : b ∈ G2.E := by rw [hE2]; simp only [List.mem_append] at hb ⊢; exact hb.symm
      exact ⟨R.at_.fr.fr b (t1.le.ex b (t2.le.ex b (.inl hbE))), (t2.ok.lt b (.inl hbE)).1⟩
    · rw [b1, ← hlen, impKeys_map] at q2
      exact cellsB_grow hv q2
    · exact retsS_mono (t2.le.view.trans' hv) (fun _ _ => rfl) q1
  · cases h
theorem body_ok {K : Kont} (hK : Sound X K) {f : FuncId} {fn : Func} {args : List V} {cells : List Cell} {rows : List Row} {outs : List Cell} (hf : X.P.funcs[f]? = some fn) (h : body X K f args cells = some (rows, outs))
    {gargs gcells : List Value} {N1 N2 : List Nat} (hG : Given X base U w f args cells gargs gcells N1 N2) :
    Calls X.P f gargs.toArray w fun e w' => ∃ gs M1 M2, e = .returned (retV gs) ∧ Did X.P U w w' (N1 ++ N2) fn.resultTypes.toList cells outs gcells rows gs M1 M2 := by
  simp only [body, hf] at h
  cases hb : fn.body with
  | none => simp [hb] at h
  | some c =>
    simp only [hb] at h
    cases hn : (Nat.ble cells.length impBase && Nat.ble args.length fn.ntmps) with
    | false => simp [hn] at h
    | true =>
      simp only [hn, Bool.not_true, cond_false] at h
      simp only [Bool.and_eq_true] at hn
      have hn1 := Nat.le_of_ble_eq_true hn.1
      have hn2 := Nat.le_of_ble_eq_true hn.2
      split at h
      · rename_i tm m' l' he
        obtain ⟨G, R⟩ := entry_ok hG he hn2
        have hM : ∀ r c, get r (impMem 0 cells) = some c → impKey r = true := by
          intro r c hr
          obtain ⟨i, e, hi⟩ := get_impMem_some hr
          have hil : i < cells.length := (List.getElem?_eq_some_iff.1 hi).1
          subst e
          simp only [impKey, Bool.and_eq_true]
          exact ⟨Nat.ble_eq_true_of_le (by omega), by rw [Nat.blt_eq]; omega⟩
        have hnt : ntOf X.P f = fn.ntmps := by simp [ntOf, hf]
        have hreg := region_ok (base := base) (U := U) (M0 := N1 ++ N2) (w0 := w) (ν := impμ gcells) ⟨hK, hG.gl, hG.tab⟩ hnt hM
        have hfin : ∀ ex S, leave X fn cells.length S = some (rows, outs) → (ex = Ex.normal ∨ ex = Ex.ret) → ∀ w' G' a', Rel base U (N1 ++ N2) w (impμ gcells) (impMem 0 cells) fn.ntmps w' S G' a' → (Gh U w G).le (Gh U w' G') →
            bodyPost X.P fn (fun e w' => ∃ gs M1 M2, e = .returned (retV gs) ∧ Did X.P U w w' (N1 ++ N2) fn.resultTypes.toList cells outs gcells rows gs M1 M2) (exOf ex) a' w' := by
          intro ex S hl hex w' G' a' R' _
          obtain ⟨gs, M1, M2, hr, hd⟩ := leave_ok hG R' hl
          rcases hex with rfl | rfl <;> exact ⟨R'.defers, _, hr, gs, M1, M2, rfl, hd⟩
        split at h
        · rename_i S hd
          exact calls_of_wp hf hb (den_ok hreg c R hd (hfin _ _ h (.inl rfl)))
        · rename_i S hd
          exact calls_of_wp hf hb (den_ok hreg c R hd (hfin _ _ h (.inr rfl)))
        · cases h
      · cases h
end
def PrimOk (X : Ctx) : Prop := ∀ (f : FuncId) (p : List V → List Cell → Option (List Row × List Cell)) (fn : Func) (args : List V) (cells : List Cell) (rows : List Row) (outs : List Cell), X.prim f = some p → X.P.funcs[f]? = some fn → fn.body.isSome = true → p args cells = some (rows, outs) →
  ∀ (base : Nat) (U : Nat → Prop) (w : World) (gargs gcells : List Value) (N1 N2 : List Nat), Given X base U w f args cells gargs gcells N1 N2 →
    Calls X.P f gargs.toArray w fun e w' => ∃ gs M1 M2, e = .returned (retV gs) ∧ Did X.P U w w' (N1 ++ N2) fn.resultTypes.toList cells outs gcells rows gs M1 M2
theorem callN_ok {X : Ctx} (hp : PrimOk X) : ∀ n, Sound X (callN X n)
  | 0 => by
    intro f fn args cells rows outs hf hb h
    simp [callN] at h
  | n + 1 => by
    intro f fn args cells rows outs hf hb h base U w gargs gcells N1 N2 hG
    simp only [callN] at h
    cases hx : X.prim f with
    | some p =>
      rw [hx] at h
      exact hp f p fn args cells rows outs hx hf hb h base U w gargs gcells N1 N2 hG
    | none =>
      rw [hx] at h
      exact body_ok (callN_ok hp n) hf h hG
theorem call_ok {X : Ctx} (hp : PrimOk X) : Sound X (call X) := by
  intro f fn args cells rows outs hf hb h base U w gargs gcells N1 N2 hG
  obtain ⟨n, hn⟩ := lim_some h
  exact callN_ok hp n f fn args cells rows outs hf hb hn base U w gargs gcells N1 N2 hG
end Go.Vm

namespace Go.Vm
open Go
def KLe (K K' : Kont) : Prop := ∀ f args cells r, K f args cells = some r → K' f args cells = some r
theorem KLe.refl (K : Kont) : KLe K K := fun _ _ _ _ h => h
theorem KLe.trans {K1 K2 K3 : Kont} (h : KLe K1 K2) (k : KLe K2 K3) : KLe K1 K3 := fun f a c r q => k f a c r (h f a c r q)
def AUp {α : Type} (A : Kont → Acc α) : Prop := ∀ K K', KLe K K' → ∀ m l r, (A K).run m l = some r → (A K').run m l = some r
theorem AUp.const {α : Type} (a : Acc α) : AUp fun _ => a := fun _ _ _ _ _ _ h => h
theorem AUp.bind {α β : Type} {A : Kont → Acc α} {B : Kont → α → Acc β} (h : AUp A) (k : ∀ x, AUp fun K => B K x) : AUp fun K => A K >>= B K := by
  intro K K' hK m l r hr
  obtain ⟨y, m', l'⟩ := r
  obtain ⟨x, m1, l1, h1, h2⟩ := run_bind_some hr
  rw [run_bind, h K K' hK m l _ h1]
  exact k x K K' hK m1 l1 _ h2
theorem AUp.op {f : Nat} {args : List V} {cells : List Cell} : AUp fun K => op' (K f args cells) := by
  intro K K' hK m l r hr
  obtain ⟨x, m', l'⟩ := r
  obtain ⟨h1, rfl, rfl⟩ := run_op' hr
  simp only
  rw [hK f args cells x h1]
  rfl
def ACt {α : Type} (Kn : Nat → Kont) (K : Kont) (A : Kont → Acc α) : Prop := ∀ m l r, (A K).run m l = some r → ∃ n, (A (Kn n)).run m l = some r
def Chain (Kn : Nat → Kont) : Prop := ∀ n, KLe (Kn n) (Kn (n + 1))
theorem Chain.le {Kn : Nat → Kont} (h : Chain Kn) {n k : Nat} (hk : n ≤ k) : KLe (Kn n) (Kn k) := by
  induction hk with
  | refl => exact KLe.refl _
  | step _ ih => exact ih.trans (h _)
section
variable {Kn : Nat → Kont} {K : Kont} (hc : Chain Kn)
theorem ACt.const {α : Type} (a : Acc α) : ACt Kn K fun _ => a := fun _ _ _ h => ⟨0, h⟩
include hc in
theorem ACt.bind {α β : Type} {A : Kont → Acc α} {B : Kont → α → Acc β} (hu : AUp A) (ku : ∀ x, AUp fun K => B K x) (h : ACt Kn K A) (k : ∀ x, ACt Kn K fun K => B K x) : ACt Kn K fun K => A K >>= B K := by
  intro m l r hr
  obtain ⟨y, m', l'⟩ := r
  obtain ⟨x, m1, l1, h1, h2⟩ := run_bind_some hr
  obtain ⟨n1, q1⟩ := h m l _ h1
  obtain ⟨n2, q2⟩ := k x m1 l1 _ h2
  refine ⟨max n1 n2, ?_⟩
  rw [run_bind, hu _ _ (hc.le (Nat.le_max_left n1 n2)) m l _ q1]
  exact ku x _ _ (hc.le (Nat.le_max_right n1 n2)) m1 l1 _ q2
theorem ACt.op (hK : ∀ f args cells r, K f args cells = some r → ∃ n, Kn n f args cells = some r) {f : Nat} {args : List V} {cells : List Cell} : ACt Kn K fun K => op' (K f args cells) := by
  intro m l r hr
  obtain ⟨x, m', l'⟩ := r
  obtain ⟨h1, rfl, rfl⟩ := run_op' hr
  obtain ⟨n, hn⟩ := hK f args cells x h1
  refine ⟨n, ?_⟩
  simp only
  rw [hn]
  rfl
end
theorem callV_up (X : Ctx) (fn dst f : Nat) (args : List V) : AUp fun K => callV X K fn dst f args := by
  unfold callV
  refine AUp.bind (AUp.const _) fun g => AUp.bind (AUp.const _) fun _ => AUp.bind (AUp.const _) fun args => AUp.bind (AUp.const _) fun cells => AUp.bind (AUp.const _) fun ⟨args, lent⟩ => AUp.bind (AUp.const _) fun _ => AUp.bind AUp.op fun out => AUp.const _
theorem callV_ct {Kn : Nat → Kont} {K : Kont} (hc : Chain Kn) (hK : ∀ f args cells r, K f args cells = some r → ∃ n, Kn n f args cells = some r) (X : Ctx) (fn dst f : Nat) (args : List V) : ACt Kn K fun K => callV X K fn dst f args := by
  unfold callV
  refine ACt.bind hc (AUp.const _) ?_ (ACt.const _) fun g => ?_
  · exact fun g => AUp.bind (AUp.const _) fun _ => AUp.bind (AUp.const _) fun args => AUp.bind (AUp.const _) fun cells => AUp.bind (AUp.const _) fun ⟨args, lent⟩ => AUp.bind (AUp.const _) fun _ => AUp.bind AUp.op fun out => AUp.const _
  refine ACt.bind hc (AUp.const _) ?_ (ACt.const _) fun _ => ?_
  · exact fun g => AUp.bind (AUp.const _) fun args => AUp.bind (AUp.const _) fun cells => AUp.bind (AUp.const _) fun ⟨args, lent⟩ => AUp.bind (AUp.const _) fun _ => AUp.bind AUp.op fun out => AUp.const _
  refine ACt.bind hc (AUp.const _) ?_ (ACt.const _) fun args => ?_
  · exact fun g => AUp.bind (AUp.const _) fun cells => AUp.bind (AUp.const _) fun ⟨args, lent⟩ => AUp.bind (AUp.const _) fun _ => AUp.bind AUp.op fun out => AUp.const _
  refine ACt.bind hc (AUp.const _) ?_ (ACt.const _) fun cells => ?_
  · exact fun g => AUp.bind (AUp.const _) fun ⟨args, lent⟩ => AUp.bind (AUp.const _) fun _ => AUp.bind AUp.op fun out => AUp.const _
  refine ACt.bind hc (AUp.const _) ?_ (ACt.const _) fun ⟨args, lent⟩ => ?_
  · exact fun ⟨args, lent⟩ => AUp.bind (AUp.const _) fun _ => AUp.bind AUp.op fun out => AUp.const _
  refine ACt.bind hc (AUp.const _) ?_ (ACt.const _) fun _ => ?_
  · exact fun _ => AUp.bind AUp.op fun out => AUp.const _
  exact ACt.bind hc AUp.op (fun out => AUp.const _) (ACt.op hK) fun out => ACt.const _
theorem vop_up (X : Ctx) (fn : Nat) (tm : Tmps) (o : Oper) : AUp fun K => vop X K fn tm o := by
  obtain ⟨dst, op, type, pos, after, guard⟩ := o
  cases op <;> try exact AUp.const _
  case call c =>
    obtain ⟨callee, args, tys⟩ := c
    cases callee with
    | value f =>
      simp only [vop]
      split
      · exact callV_up X fn _ _ _
      · exact AUp.const _
    | invoke r m => exact AUp.const _
    | builtin b => cases b <;> exact AUp.const _
  case makeFunc f a b => cases f <;> exact AUp.const _
  case slice a b c d e => cases e <;> exact AUp.const _
theorem vop_ct {Kn : Nat → Kont} {K : Kont} (hc : Chain Kn) (hK : ∀ f args cells r, K f args cells = some r → ∃ n, Kn n f args cells = some r) (X : Ctx) (fn : Nat) (tm : Tmps) (o : Oper) : ACt Kn K fun K => vop X K fn tm o := by
  obtain ⟨dst, op, type, pos, after, guard⟩ := o
  cases op <;> try exact ACt.const _
  case call c =>
    obtain ⟨callee, args, tys⟩ := c
    cases callee with
    | value f =>
      simp only [vop]
      split
      · exact callV_ct hc hK X fn _ _ _
      · exact ACt.const _
    | invoke r m => exact ACt.const _
    | builtin b => cases b <;> exact ACt.const _
  case makeFunc f a b => cases f <;> exact ACt.const _
  case slice a b c d e => cases e <;> exact ACt.const _
def Up {β : Type} (E : Kont → Option β) : Prop := ∀ K K', KLe K K' → ∀ r, E K = some r → E K' = some r
def Ct {β : Type} (Kn : Nat → Kont) (K : Kont) (E : Kont → Option β) : Prop := ∀ r, E K = some r → ∃ n, E (Kn n) = some r
theorem Up.const {β : Type} (e : Option β) : Up fun _ => e := fun _ _ _ _ h => h
theorem Ct.const {β : Type} {Kn : Nat → Kont} {K : Kont} (e : Option β) : Ct Kn K fun _ => e := fun _ h => ⟨0, h⟩
theorem Up.bind {α β : Type} {E : Kont → Option α} {F : Kont → α → Option β} (h : Up E) (k : ∀ x, Up fun K => F K x) : Up fun K => (E K).bind (F K) := by
  intro K K' hK r hr
  simp only [Option.bind_eq_some_iff] at hr ⊢
  obtain ⟨x, h1, h2⟩ := hr
  exact ⟨x, h K K' hK x h1, k x K K' hK r h2⟩
theorem Ct.bind {α β : Type} {Kn : Nat → Kont} {K : Kont} (hc : Chain Kn) {E : Kont → Option α} {F : Kont → α → Option β} (hu : Up E) (ku : ∀ x, Up fun K => F K x) (h : Ct Kn K E) (k : ∀ x, Ct Kn K fun K => F K x) : Ct Kn K fun K => (E K).bind (F K) := by
  intro r hr
  simp only [Option.bind_eq_some_iff] at hr ⊢
  obtain ⟨x, h1, h2⟩ := hr
  obtain ⟨n1, q1⟩ := h x h1
  obtain ⟨n2, q2⟩ := k x r h2
  exact ⟨max n1 n2, x, hu _ _ (hc.le (Nat.le_max_left n1 n2)) x q1, ku x _ _ (hc.le (Nat.le_max_right n1 n2)) r q2⟩
theorem runOp_up (X : Ctx) (fn : Nat) (ops : Array Oper) (i : Nat) (S : St) : Up fun K => runOp X K fn ops i S := by
  intro K K' hK r hr
  simp only [runOp] at hr ⊢
  cases ho : ops[i]? with
  | none => simp [ho] at hr
  | some o =>
    simp only [ho] at hr ⊢
    cases hw : wantedV ops S.tm o with
    | none => simp [hw] at hr
    | some bt =>
      obtain ⟨b, tm⟩ := bt
      cases b with
      | false => simpa [hw] using hr
      | true =>
        simp only [hw] at hr ⊢
        cases hv : (vop X K fn tm o).run S.mem .none with
        | none => simp [hv] at hr
        | some q => rw [vop_up X fn tm o K K' hK S.mem .none q hv]; rw [hv] at hr; exact hr
theorem runOp_ct {Kn : Nat → Kont} {K : Kont} (hc : Chain Kn) (hK : ∀ f args cells r, K f args cells = some r → ∃ n, Kn n f args cells = some r) (X : Ctx) (fn : Nat) (ops : Array Oper) (i : Nat) (S : St) : Ct Kn K fun K => runOp X K fn ops i S := by
  intro r hr
  simp only [runOp] at hr ⊢
  cases ho : ops[i]? with
  | none => simp [ho] at hr
  | some o =>
    simp only [ho] at hr ⊢
    cases hw : wantedV ops S.tm o with
    | none => simp [hw] at hr
    | some bt =>
      obtain ⟨b, tm⟩ := bt
      cases b with
      | false => exact ⟨0, by simpa [hw] using hr⟩
      | true =>
        simp only [hw] at hr ⊢
        cases hv : (vop X K fn tm o).run S.mem .none with
        | none => simp [hv] at hr
        | some q =>
          obtain ⟨n, hn⟩ := vop_ct hc hK X fn tm o S.mem .none q hv
          exact ⟨n, by rw [hn]; rw [hv] at hr; exact hr⟩
theorem runOps_eq (X : Ctx) (fn : Nat) (ops : Array Oper) (i : Nat) (is : List Nat) (S : St) (L : List (Nat × Log)) (K : Kont) :
    runOps X K fn ops (i :: is) S L = (runOp X K fn ops i S).bind fun r => runOps X K fn ops is r.1 ((i, r.2) :: L) := by
  simp only [runOps]
  cases runOp X K fn ops i S with
  | none => rfl
  | some r => rfl
theorem runOps_up (X : Ctx) (fn : Nat) (ops : Array Oper) : ∀ (is : List Nat) (S : St) (L : List (Nat × Log)), Up fun K => runOps X K fn ops is S L
  | [], S, L => Up.const _
  | i :: is, S, L => by
    simp only [runOps_eq]
    exact Up.bind (runOp_up X fn ops i S) fun r => runOps_up X fn ops is r.1 _
theorem runOps_ct {Kn : Nat → Kont} {K : Kont} (hc : Chain Kn) (hK : ∀ f args cells r, K f args cells = some r → ∃ n, Kn n f args cells = some r) (X : Ctx) (fn : Nat) (ops : Array Oper) : ∀ (is : List Nat) (S : St) (L : List (Nat × Log)), Ct Kn K fun K => runOps X K fn ops is S L
  | [], S, L => Ct.const _
  | i :: is, S, L => by
    simp only [runOps_eq]
    exact Ct.bind hc (runOp_up X fn ops i S) (fun r => runOps_up X fn ops is r.1 _) (runOp_ct hc hK X fn ops i S) fun r => runOps_ct hc hK X fn ops is r.1 _
theorem fuseOp_up (X : Ctx) (tm : Tmps) (o1 o2 o3 : Oper) : AUp fun K => fuseOp X K tm o1 o2 o3 := by
  unfold fuseOp
  split
  · refine AUp.bind (AUp.const _) fun _ => AUp.bind (AUp.const _) fun e => ?_
    split
    · refine AUp.bind (AUp.const _) fun c => ?_
      split
      · exact AUp.bind (AUp.const _) fun _ => AUp.bind (AUp.const _) fun row => AUp.bind (AUp.const _) fun rs => AUp.bind (AUp.const _) fun _ => AUp.bind AUp.op fun out => AUp.const _
      · exact AUp.const _
    · exact AUp.const _
  · exact AUp.const _
theorem fuseOp_ct {Kn : Nat → Kont} {K : Kont} (hc : Chain Kn) (hK : ∀ f args cells r, K f args cells = some r → ∃ n, Kn n f args cells = some r) (X : Ctx) (tm : Tmps) (o1 o2 o3 : Oper) : ACt Kn K fun K => fuseOp X K tm o1 o2 o3 := by
  unfold fuseOp
  split
  · refine ACt.bind hc (AUp.const _) ?_ (ACt.const _) fun _ => ACt.bind hc (AUp.const _) ?_ (ACt.const _) fun e => ?_
    · intro _
      refine AUp.bind (AUp.const _) fun e => ?_
      split
      · refine AUp.bind (AUp.const _) fun c => ?_
        split
        · exact AUp.bind (AUp.const _) fun _ => AUp.bind (AUp.const _) fun row => AUp.bind (AUp.const _) fun rs => AUp.bind (AUp.const _) fun _ => AUp.bind AUp.op fun out => AUp.const _
        · exact AUp.const _
      · exact AUp.const _
    · intro e
      split
      · refine AUp.bind (AUp.const _) fun c => ?_
        split
        · exact AUp.bind (AUp.const _) fun _ => AUp.bind (AUp.const _) fun row => AUp.bind (AUp.const _) fun rs => AUp.bind (AUp.const _) fun _ => AUp.bind AUp.op fun out => AUp.const _
        · exact AUp.const _
      · exact AUp.const _
    · split
      · refine ACt.bind hc (AUp.const _) ?_ (ACt.const _) fun c => ?_
        · intro c
          split
          · exact AUp.bind (AUp.const _) fun _ => AUp.bind (AUp.const _) fun row => AUp.bind (AUp.const _) fun rs => AUp.bind (AUp.const _) fun _ => AUp.bind AUp.op fun out => AUp.const _
          · exact AUp.const _
        · split
          · refine ACt.bind hc (AUp.const _) ?_ (ACt.const _) fun _ => ACt.bind hc (AUp.const _) ?_ (ACt.const _) fun row => ACt.bind hc (AUp.const _) ?_ (ACt.const _) fun rs => ACt.bind hc (AUp.const _) ?_ (ACt.const _) fun _ => ACt.bind hc AUp.op (fun out => AUp.const _) (ACt.op hK) fun out => ACt.const _
            · exact fun _ => AUp.bind (AUp.const _) fun row => AUp.bind (AUp.const _) fun rs => AUp.bind (AUp.const _) fun _ => AUp.bind AUp.op fun out => AUp.const _
            · exact fun row => AUp.bind (AUp.const _) fun rs => AUp.bind (AUp.const _) fun _ => AUp.bind AUp.op fun out => AUp.const _
            · exact fun rs => AUp.bind (AUp.const _) fun _ => AUp.bind AUp.op fun out => AUp.const _
            · exact fun _ => AUp.bind AUp.op fun out => AUp.const _
          · exact ACt.const _
      · exact ACt.const _
  · exact ACt.const _
theorem runFuse_eq (X : Ctx) (fn : Nat) (ops : Array Oper) (p : Nat) (S : St) (K : Kont) : runFuse X K fn ops p S =
    match ops[p]?, ops[p + 1]?, ops[p + 2]? with
    | some o1, some o2, some o3 => ((fuseOp X K S.tm o1 o2 o3).run S.mem .none).bind fun r =>
      bif Nat.blt r.1.1 (ntOf X.P fn) && (Nat.blt r.1.2.1 (ntOf X.P fn) && dstOk (ntOf X.P fn) o3.dst) then some ⟨putT o3.dst r.1.2.2.2 (put r.1.2.1 r.1.2.2.1 (put r.1.1 .undef S.tm)), r.2.1⟩ else none
    | _, _, _ => none := by
  simp only [runFuse]
  cases ops[p]? with
  | none => rfl
  | some o1 => cases ops[p + 1]? with
    | none => rfl
    | some o2 => cases ops[p + 2]? with
      | none => rfl
      | some o3 =>
        simp only
        cases (fuseOp X K S.tm o1 o2 o3).run S.mem .none with
        | none => rfl
        | some r => rfl
theorem runFuse_up (X : Ctx) (fn : Nat) (ops : Array Oper) (p : Nat) (S : St) : Up fun K => runFuse X K fn ops p S := by
  simp only [runFuse_eq]
  cases ops[p]? with
  | none => exact Up.const _
  | some o1 => cases ops[p + 1]? with
    | none => exact Up.const _
    | some o2 => cases ops[p + 2]? with
      | none => exact Up.const _
      | some o3 => exact Up.bind (fun K K' hK r hr => fuseOp_up X S.tm o1 o2 o3 K K' hK S.mem .none r hr) fun r => Up.const _
theorem runFuse_ct {Kn : Nat → Kont} {K : Kont} (hc : Chain Kn) (hK : ∀ f args cells r, K f args cells = some r → ∃ n, Kn n f args cells = some r) (X : Ctx) (fn : Nat) (ops : Array Oper) (p : Nat) (S : St) : Ct Kn K fun K => runFuse X K fn ops p S := by
  simp only [runFuse_eq]
  cases ops[p]? with
  | none => exact Ct.const _
  | some o1 => cases ops[p + 1]? with
    | none => exact Ct.const _
    | some o2 => cases ops[p + 2]? with
      | none => exact Ct.const _
      | some o3 => exact Ct.bind hc (fun K K' hK r hr => fuseOp_up X S.tm o1 o2 o3 K K' hK S.mem .none r hr) (fun r => Up.const _) (fun r hr => fuseOp_ct hc hK X S.tm o1 o2 o3 S.mem .none r hr) fun r => Ct.const _
theorem regionRun_eq (X : Ctx) (fn id : Nat) (ops : Array Oper) (draw : Bool) (S : St) (K : Kont) : regionRun X K fn id ops draw S =
    match X.adv.fuse fn id with
    | 0 => runOps X K fn ops (List.range ops.size) S []
    | p + 1 => match draw with
      | true => none
      | false => (runOps X K fn ops (List.range p) S []).bind fun r => (runFuse X K fn ops p r.1).bind fun S2 => runOps X K fn ops ((List.range ops.size).drop (p + 3)) S2 [] := by
  simp only [regionRun]
  cases X.adv.fuse fn id with
  | zero => rfl
  | succ p =>
    cases draw with
    | true => rfl
    | false =>
      simp only
      cases runOps X K fn ops (List.range p) S [] with
      | none => rfl
      | some r =>
        simp only [Option.bind_some]
        cases runFuse X K fn ops p r.1 <;> rfl
theorem regionRun_up (X : Ctx) (fn id : Nat) (ops : Array Oper) (draw : Bool) (S : St) : Up fun K => regionRun X K fn id ops draw S := by
  simp only [regionRun_eq]
  cases X.adv.fuse fn id with
  | zero => exact runOps_up X fn ops _ S _
  | succ p =>
    cases draw with
    | true => exact Up.const _
    | false => exact Up.bind (runOps_up X fn ops _ S _) fun r => Up.bind (runFuse_up X fn ops p r.1) fun S2 => runOps_up X fn ops _ S2 _
theorem regionRun_ct {Kn : Nat → Kont} {K : Kont} (hc : Chain Kn) (hK : ∀ f args cells r, K f args cells = some r → ∃ n, Kn n f args cells = some r) (X : Ctx) (fn id : Nat) (ops : Array Oper) (draw : Bool) (S : St) : Ct Kn K fun K => regionRun X K fn id ops draw S := by
  simp only [regionRun_eq]
  cases X.adv.fuse fn id with
  | zero => exact runOps_ct hc hK X fn ops _ S _
  | succ p =>
    cases draw with
    | true => exact Ct.const _
    | false =>
      exact Ct.bind hc (runOps_up X fn ops _ S _) (fun r => Up.bind (runFuse_up X fn ops p r.1) fun S2 => runOps_up X fn ops _ S2 _) (runOps_ct hc hK X fn ops _ S _) fun r =>
        Ct.bind hc (runFuse_up X fn ops p r.1) (fun S2 => runOps_up X fn ops _ S2 _) (runFuse_ct hc hK X fn ops p r.1) fun S2 => runOps_ct hc hK X fn ops _ S2 _
theorem region_eq (X : Ctx) (fn id : Nat) (ops : Array Oper) (draw : Bool) (S : St) (K : Kont) :
    region X K fn id ops draw S = (regionRun X K fn id ops draw S).bind fun r =>
      bif (match draw with | false => true | true => X.P.follows .mixedOrders && (backOk ops && drawOk ops (Region.before ops) r.2)) then prune (X.adv.keep fn id) r.1 else none := by
  simp only [region]
  cases regionRun X K fn id ops draw S with
  | none => rfl
  | some r => rfl
theorem region_up (X : Ctx) (fn id : Nat) (ops : Array Oper) (draw : Bool) (S : St) : Up fun K => region X K fn id ops draw S := by
  simp only [region_eq]
  exact Up.bind (regionRun_up X fn id ops draw S) fun r => Up.const _
theorem region_ct {Kn : Nat → Kont} {K : Kont} (hc : Chain Kn) (hK : ∀ f args cells r, K f args cells = some r → ∃ n, Kn n f args cells = some r) (X : Ctx) (fn id : Nat) (ops : Array Oper) (draw : Bool) (S : St) : Ct Kn K fun K => region X K fn id ops draw S := by
  simp only [region_eq]
  exact Ct.bind hc (regionRun_up X fn id ops draw S) (fun r => Up.const _) (regionRun_ct hc hK X fn id ops draw S) fun r => Ct.const _
theorem iter_more {b : St → Option (Ex × St)} : ∀ {n k : Nat} {S : St} {r : Ex × St}, iter b n S = some r → n ≤ k → iter b k S = some r
  | 0, _, _, _, h, _ => by simp [iter] at h
  | n + 1, 0, _, _, _, hk => by omega
  | n + 1, k + 1, S, r, h, hk => by
    simp only [iter] at h ⊢
    cases hb : b S with
    | none => simp [hb] at h
    | some q =>
      obtain ⟨e, S'⟩ := q
      rw [hb] at h
      cases e with
      | normal => exact iter_more h (by omega)
      | exit id => exact h
      | ret => exact h
theorem lim_of {α : Type} {f : Nat → Option α} {x : α} {n : Nat} (hn : f n = some x) (h : ∀ m y, f m = some y → y = x) : lim f = some x := by
  unfold lim
  rw [dif_pos ⟨x, n, hn⟩]
  congr 1
  obtain ⟨m, hm⟩ := Classical.choose_spec (⟨x, n, hn⟩ : ∃ a n, f n = some a)
  exact h m _ hm
theorem loopL_of {b : St → Option (Ex × St)} {S : St} {r : Ex × St} {n : Nat} (h : iter b n S = some r) : loopL b S = some r := by
  refine lim_of h fun m y hy => ?_
  have h1 := iter_more h (Nat.le_max_left n m)
  rw [iter_more hy (Nat.le_max_right n m)] at h1
  exact Option.some.inj h1
theorem loopL_some {b : St → Option (Ex × St)} {S : St} {r : Ex × St} (h : loopL b S = some r) : ∃ n, iter b n S = some r := lim_some h
theorem iter_eq {b : St → Option (Ex × St)} {n : Nat} {S : St} : iter b (n + 1) S = (b S).bind fun q => match q with | (.normal, S') => iter b n S' | (e, S') => some (e, S') := by
  simp only [iter]
  cases b S with
  | none => rfl
  | some q => obtain ⟨e, S'⟩ := q; cases e <;> rfl
theorem iter_up {B : Kont → St → Option (Ex × St)} (h : ∀ S, Up fun K => B K S) : ∀ (n : Nat) (S : St), Up fun K => iter (B K) n S
  | 0, S => Up.const _
  | n + 1, S => by
    simp only [iter_eq]
    refine Up.bind (h S) fun q => ?_
    obtain ⟨e, S'⟩ := q
    cases e with
    | normal => exact iter_up h n S'
    | exit id => exact Up.const _
    | ret => exact Up.const _
theorem iter_ct {Kn : Nat → Kont} {K : Kont} (hc : Chain Kn) {B : Kont → St → Option (Ex × St)} (hu : ∀ S, Up fun K => B K S) (h : ∀ S, Ct Kn K fun K => B K S) : ∀ (n : Nat) (S : St), Ct Kn K fun K => iter (B K) n S
  | 0, S => Ct.const _
  | n + 1, S => by
    simp only [iter_eq]
    refine Ct.bind hc (hu S) (fun q => ?_) (h S) fun q => ?_
    all_goals
      obtain ⟨e, S'⟩ := q
      cases e
    · exact iter_up hu n S'
    · exact Up.const _
    · exact Up.const _
    · exact iter_ct hc hu h n S'
    · exact Ct.const _
    · exact Ct.const _
theorem loopL_up {B : Kont → St → Option (Ex × St)} (h : ∀ S, Up fun K => B K S) (S : St) : Up fun K => loopL (B K) S := by
  intro K K' hK r hr
  obtain ⟨n, hn⟩ := loopL_some hr
  exact loopL_of (iter_up h n S K K' hK r hn)
theorem loopL_ct {Kn : Nat → Kont} {K : Kont} (hc : Chain Kn) {B : Kont → St → Option (Ex × St)} (hu : ∀ S, Up fun K => B K S) (h : ∀ S, Ct Kn K fun K => B K S) (S : St) : Ct Kn K fun K => loopL (B K) S := by
  intro r hr
  obtain ⟨n, hn⟩ := loopL_some hr
  obtain ⟨k, hk⟩ := iter_ct hc hu h n S r hn
  exact ⟨k, loopL_of hk⟩
theorem den_up (X : Ctx) (fn : Nat) (c : Code) : ∀ S, Up fun K => den X K fn c S := by
  induction c with
  | region id ops draw =>
    intro S K K' hK r hr
    simp only [den] at hr ⊢
    cases h : region X K fn id ops draw S with
    | none => simp [h] at hr
    | some S' =>
      have he0 := region_up X fn id ops draw S K K' hK S' h
      dsimp only at he0
      rw [he0]; rw [h] at hr; exact hr
  | seq a b iha ihb =>
    intro S K K' hK r hr
    simp only [den] at hr ⊢
    cases h : den X K fn a S with
    | none => simp [h] at hr
    | some q =>
      have he0 := iha S K K' hK q h
      dsimp only at he0
      rw [he0]
      rw [h] at hr
      obtain ⟨e, S'⟩ := q
      cases e with
      | normal => exact ihb S' K K' hK r hr
      | exit id => exact hr
      | ret => exact hr
  | cond c a b iha ihb =>
    intro S K K' hK r hr
    simp only [den] at hr ⊢
    cases h : condV X.P S.tm c with
    | none => simp [h] at hr
    | some q =>
      rw [h] at hr
      cases q with
      | true => exact iha S K K' hK r hr
      | false => exact ihb S K K' hK r hr
  | block id c ih =>
    intro S K K' hK r hr
    simp only [den] at hr ⊢
    cases h : den X K fn c S with
    | none => simp [h] at hr
    | some q =>
      have he0 := ih S K K' hK q h
      dsimp only at he0
      rw [he0]; rw [h] at hr; exact hr
  | loop c ih =>
    intro S
    exact loopL_up ih S
  | _ => intro S; exact Up.const _
theorem den_ct {Kn : Nat → Kont} {K : Kont} (hc : Chain Kn) (hK : ∀ f args cells r, K f args cells = some r → ∃ n, Kn n f args cells = some r) (X : Ctx) (fn : Nat) (c : Code) : ∀ S, Ct Kn K fun K => den X K fn c S := by
  induction c with
  | region id ops draw =>
    intro S r hr
    simp only [den] at hr ⊢
    cases h : region X K fn id ops draw S with
    | none => simp [h] at hr
    | some S' =>
      obtain ⟨n, hn⟩ := region_ct hc hK X fn id ops draw S S' h
      dsimp only at hn
      exact ⟨n, by rw [hn]; rw [h] at hr; exact hr⟩
  | seq a b iha ihb =>
    intro S r hr
    simp only [den] at hr ⊢
    cases h : den X K fn a S with
    | none => simp [h] at hr
    | some q =>
      obtain ⟨n, hn⟩ := iha S q h
      dsimp only at hn
      rw [h] at hr
      obtain ⟨e, S'⟩ := q
      cases e with
      | normal =>
        obtain ⟨k, hk⟩ := ihb S' r hr
        dsimp only at hk
        refine ⟨max n k, ?_⟩
        have he0 := den_up X fn a S _ _ (hc.le (Nat.le_max_left n k)) _ hn
        dsimp only at he0
        rw [he0]
        exact den_up X fn b S' _ _ (hc.le (Nat.le_max_right n k)) _ hk
      | exit id => exact ⟨n, by rw [hn]; exact hr⟩
      | ret => exact ⟨n, by rw [hn]; exact hr⟩
  | cond c a b iha ihb =>
    intro S r hr
    simp only [den] at hr ⊢
    cases h : condV X.P S.tm c with
    | none => simp [h] at hr
    | some q =>
      rw [h] at hr
      cases q with
      | true => exact iha S r hr
      | false => exact ihb S r hr
  | block id c ih =>
    intro S r hr
    simp only [den] at hr ⊢
    cases h : den X K fn c S with
    | none => simp [h] at hr
    | some q =>
      obtain ⟨n, hn⟩ := ih S q h
      dsimp only at hn
      exact ⟨n, by rw [hn]; rw [h] at hr; exact hr⟩
  | loop c ih =>
    intro S
    exact loopL_ct hc (den_up X fn c) ih S
  | _ => intro S; exact Ct.const _
theorem body_up (X : Ctx) (f : Nat) (args : List V) (cells : List Cell) : Up fun K => body X K f args cells := by
  intro K K' hK r hr
  simp only [body] at hr ⊢
  cases hg : X.P.funcs[f]? with
  | none => simp [hg] at hr
  | some g =>
    simp only [hg] at hr ⊢
    cases hcd : g.body with
    | none => simp [hcd] at hr
    | some c =>
      simp only [hcd] at hr ⊢
      revert hr
      generalize (!(Nat.ble cells.length impBase && Nat.ble args.length g.ntmps)) = q
      cases q with
      | true => exact id
      | false =>
        simp only [cond_false]
        intro hr
        split at hr
        · rename_i tm m l he
          cases h : den X K f c ⟨tm, m⟩ with
          | none => simp [h] at hr
          | some q =>
            have he0 := den_up X f c ⟨tm, m⟩ K K' hK q h
            dsimp only at he0
            rw [he0]; rw [h] at hr; exact hr
        · cases hr
theorem body_ct {Kn : Nat → Kont} {K : Kont} (hc : Chain Kn) (hK : ∀ f args cells r, K f args cells = some r → ∃ n, Kn n f args cells = some r) (X : Ctx) (f : Nat) (args : List V) (cells : List Cell) : Ct Kn K fun K => body X K f args cells := by
  intro r hr
  simp only [body] at hr ⊢
  cases hg : X.P.funcs[f]? with
  | none => simp [hg] at hr
  | some g =>
    simp only [hg] at hr ⊢
    cases hcd : g.body with
    | none => simp [hcd] at hr
    | some c =>
      simp only [hcd] at hr ⊢
      revert hr
      generalize (!(Nat.ble cells.length impBase && Nat.ble args.length g.ntmps)) = q
      cases q with
      | true => exact fun h => ⟨0, h⟩
      | false =>
        simp only [cond_false]
        intro hr
        split at hr
        · rename_i tm m l he
          cases h : den X K f c ⟨tm, m⟩ with
          | none => simp [h] at hr
          | some q =>
            obtain ⟨n, hn⟩ := den_ct hc hK X f c ⟨tm, m⟩ q h
            dsimp only at hn
            exact ⟨n, by rw [hn]; rw [h] at hr; exact hr⟩
        · cases hr
theorem callN_chain (X : Ctx) : Chain (callN X)
  | 0 => fun f args cells r h => by simp [callN] at h
  | n + 1 => fun f args cells r h => by
    simp only [callN] at h ⊢
    cases hp : X.prim f with
    | some p => simpa [hp] using h
    | none =>
      simp only [hp] at h ⊢
      exact body_up X f args cells _ _ (callN_chain X n) r h
theorem call_of_n {X : Ctx} {n : Nat} {f : Nat} {args : List V} {cells : List Cell} {r : List Row × List Cell} (h : callN X n f args cells = some r) : call X f args cells = some r := by
  refine lim_of h fun m y hy => ?_
  have h1 := (callN_chain X).le (Nat.le_max_left n m) f args cells r h
  rw [(callN_chain X).le (Nat.le_max_right n m) f args cells y hy] at h1
  exact Option.some.inj h1
theorem call_of {X : Ctx} {K : Kont} (hK : KLe K (call X)) {f : Nat} {args : List V} {cells : List Cell} {r : List Row × List Cell} (hp : X.prim f = none) (h : body X K f args cells = some r) : call X f args cells = some r := by
  have h1 := body_up X f args cells K (call X) hK r h
  obtain ⟨n, hn⟩ := body_ct (callN_chain X) (fun f a c r hr => lim_some hr) X f args cells r h1
  dsimp only at hn
  refine call_of_n (n := n + 1) ?_
  simp only [callN, hp]
  exact hn
theorem call_of_prim {X : Ctx} {f : Nat} {p : List V → List Cell → Option (List Row × List Cell)} {args : List V} {cells : List Cell} {r : List Row × List Cell} (hp : X.prim f = some p) (h : p args cells = some r) : call X f args cells = some r :=
  call_of_n (n := 1) (by simp only [callN, hp]; exact h)
end Go.Vm

namespace Go.Vm
open Go
abbrev Loops := Nat → St → Option (Ex × St)
def lid : Code → Nat
  | .region id _ _ => id
  | .seq a b => match lid a with
    | 0 => lid b
    | n => n
  | .block _ c => lid c
  | .loop c => lid c
  | .cond _ a b => match lid a with
    | 0 => lid b
    | n => n
  | _ => 0
def loops : Code → List Code
  | .seq a b => loops a ++ loops b
  | .cond _ a b => loops a ++ loops b
  | .block _ c => loops c
  | .loop c => [c]
  | _ => []
def denL (X : Ctx) (K : Kont) (L : Loops) (fn : Nat) : Code → St → Option (Ex × St)
  | .skip, S => some (.normal, S)
  | .region id ops draw, S => match region X K fn id ops draw S with
    | some S' => some (.normal, S')
    | none => none
  | .seq a b, S => match denL X K L fn a S with
    | some (.normal, S') => denL X K L fn b S'
    | r => r
  | .cond c a b, S => match condV X.P S.tm c with
    | some true => denL X K L fn a S
    | some false => denL X K L fn b S
    | none => none
  | .block id c, S => match denL X K L fn c S with
    | some (.exit j, S') => bif Nat.beq j id then some (.normal, S') else some (.exit j, S')
    | r => r
  | .loop c, S => L (lid c) S
  | .exit id, S => some (.exit id, S)
  | .ret, S => some (.ret, S)
  | _, _ => none
def codeOf (P : Program) (f : Nat) : Code := match P.funcs[f]? with
  | some g => match g.body with
    | some c => c
    | none => .skip
  | none => .skip
def bodyL (X : Ctx) (K : Kont) (L : Loops) (f : Nat) (args : List V) (cells : List Cell) : Option (List Row × List Cell) :=
  match X.P.funcs[f]? with
  | some g => match g.body with
    | some c => bif !(Nat.ble cells.length impBase && Nat.ble args.length g.ntmps) then none else match (entry X f g args cells).run (impMem 0 cells) .none with
      | some (tm, m, _) => (match denL X K L f c ⟨tm, m⟩ with
        | some (.normal, S) => leave X g cells.length S
        | some (.ret, S) => leave X g cells.length S
        | _ => none)
      | none => none
    | none => none
  | none => none
def LOk (X : Ctx) (K : Kont) (fn : Nat) (L : Loops) (cs : List Code) : Prop := ∀ c, c ∈ cs → ∀ S r, L (lid c) S = some r → loopL (den X K fn c) S = some r
theorem LOk.nil {X : Ctx} {K : Kont} {fn : Nat} {L : Loops} : LOk X K fn L [] := fun _ h => by simp at h
theorem LOk.cons {X : Ctx} {K : Kont} {fn : Nat} {L : Loops} {c : Code} {cs : List Code} (h : ∀ S r, L (lid c) S = some r → loopL (den X K fn c) S = some r) (k : LOk X K fn L cs) : LOk X K fn L (c :: cs) := by
  intro d hd
  rcases List.mem_cons.1 hd with rfl | hd
  · exact h
  · exact k d hd
theorem den_of {X : Ctx} {K : Kont} {L : Loops} {fn : Nat} : ∀ {c : Code} {S : St} {r : Ex × St}, LOk X K fn L (loops c) → denL X K L fn c S = some r → den X K fn c S = some r := by
  intro c
  induction c with
  | seq a b iha ihb =>
    intro S r hL h
    have hLa : LOk X K fn L (loops a) := fun d hd => hL d (by simp [loops, hd])
    have hLb : LOk X K fn L (loops b) := fun d hd => hL d (by simp [loops, hd])
    simp only [denL] at h
    simp only [den]
    cases ha : denL X K L fn a S with
    | none => simp [ha] at h
    | some q =>
      rw [iha hLa ha]
      rw [ha] at h
      obtain ⟨e, S'⟩ := q
      cases e with
      | normal => exact ihb hLb h
      | exit id => exact h
      | ret => exact h
  | cond c a b iha ihb =>
    intro S r hL h
    have hLa : LOk X K fn L (loops a) := fun d hd => hL d (by simp [loops, hd])
    have hLb : LOk X K fn L (loops b) := fun d hd => hL d (by simp [loops, hd])
    simp only [denL] at h
    simp only [den]
    cases hc : condV X.P S.tm c with
    | none => simp [hc] at h
    | some q =>
      rw [hc] at h
      cases q with
      | true => exact iha hLa h
      | false => exact ihb hLb h
  | block id c ih =>
    intro S r hL h
    simp only [denL] at h
    simp only [den]
    cases ha : denL X K L fn c S with
    | none => simp [ha] at h
    | some q => rw [ih hL ha]; rw [ha] at h; exact h
  | loop c ih =>
    intro S r hL h
    exact hL c (by simp [loops]) S r h
  | region id ops draw => intro S r hL h; exact h
  | skip => intro S r hL h; exact h
  | exit id => intro S r hL h; exact h
  | ret => intro S r hL h; exact h
  | _ => intro S r hL h; simp [denL] at h
theorem denL_up (X : Ctx) (L : Loops) (fn : Nat) (c : Code) : ∀ S, Up fun K => denL X K L fn c S := by
  induction c with
  | region id ops draw =>
    intro S K K' hK r hr
    simp only [denL] at hr ⊢
    cases h : region X K fn id ops draw S with
    | none => simp [h] at hr
    | some S' =>
      have he0 := region_up X fn id ops draw S K K' hK S' h
      dsimp only at he0
      rw [he0]; rw [h] at hr; exact hr
  | seq a b iha ihb =>
    intro S K K' hK r hr
    simp only [denL] at hr ⊢
    cases h : denL X K L fn a S with
    | none => simp [h] at hr
    | some q =>
      have he0 := iha S K K' hK q h
      dsimp only at he0
      rw [he0]
      rw [h] at hr
      obtain ⟨e, S'⟩ := q
      cases e with
      | normal => exact ihb S' K K' hK r hr
      | exit id => exact hr
      | ret => exact hr
  | cond c a b iha ihb =>
    intro S K K' hK r hr
    simp only [denL] at hr ⊢
    cases h : condV X.P S.tm c with
    | none => simp [h] at hr
    | some q =>
      rw [h] at hr
      cases q with
      | true => exact iha S K K' hK r hr
      | false => exact ihb S K K' hK r hr
  | block id c ih =>
    intro S K K' hK r hr
    simp only [denL] at hr ⊢
    cases h : denL X K L fn c S with
    | none => simp [h] at hr
    | some q =>
      have he0 := ih S K K' hK q h
      dsimp only at he0
      rw [he0]; rw [h] at hr; exact hr
  | _ => intro S; exact Up.const _
theorem bodyL_up (X : Ctx) (L : Loops) (f : Nat) (args : List V) (cells : List Cell) : Up fun K => bodyL X K L f args cells := by
  intro K K' hK r hr
  simp only [bodyL] at hr ⊢
  cases hg : X.P.funcs[f]? with
  | none => simp [hg] at hr
  | some g =>
    simp only [hg] at hr ⊢
    cases hcd : g.body with
    | none => simp [hcd] at hr
    | some c =>
      simp only [hcd] at hr ⊢
      revert hr
      generalize (!(Nat.ble cells.length impBase && Nat.ble args.length g.ntmps)) = q
      cases q with
      | true => exact id
      | false =>
        simp only [cond_false]
        intro hr
        split at hr
        · rename_i tm m l he
          cases h : denL X K L f c ⟨tm, m⟩ with
          | none => simp [h] at hr
          | some q =>
            have he0 := denL_up X L f c ⟨tm, m⟩ K K' hK q h
            dsimp only at he0
            rw [he0]; rw [h] at hr; exact hr
        · cases hr
theorem body_of {X : Ctx} {K : Kont} {L : Loops} {f : Nat} {args : List V} {cells : List Cell} {r : List Row × List Cell} (hL : LOk X K f L (loops (codeOf X.P f))) (h : bodyL X K L f args cells = some r) : body X K f args cells = some r := by
  simp only [bodyL] at h
  simp only [body]
  cases hg : X.P.funcs[f]? with
  | none => simp [hg] at h
  | some g =>
    simp only [hg] at h ⊢
    cases hcd : g.body with
    | none => simp [hcd] at h
    | some c =>
      simp only [hcd] at h ⊢
      have hcode : codeOf X.P f = c := by simp [codeOf, hg, hcd]
      rw [hcode] at hL
      revert h
      generalize (!(Nat.ble cells.length impBase && Nat.ble args.length g.ntmps)) = q
      cases q with
      | true => exact id
      | false =>
        simp only [cond_false]
        intro h
        split at h
        · rename_i tm m l he
          simp only [he]
          cases hd : denL X K L f c ⟨tm, m⟩ with
          | none => simp [hd] at h
          | some q => rw [den_of hL hd]; rw [hd] at h; exact h
        · cases h
theorem call_ofL {X : Ctx} {K : Kont} {L : Loops} {f : Nat} {args : List V} {cells : List Cell} {r : List Row × List Cell} (hp : X.prim f = none) (hK : KLe K (call X)) (hL : LOk X (call X) f L (loops (codeOf X.P f)))
    (h : bodyL X K L f args cells = some r) : call X f args cells = some r := by
  exact call_of (KLe.refl _) hp (body_of hL (bodyL_up X L f args cells K (call X) hK r h))
theorem den_ofL {X : Ctx} {K : Kont} {L : Loops} {fn : Nat} {c : Code} {S : St} {r : Ex × St} (hK : KLe K (call X)) (hL : LOk X (call X) fn L (loops c)) (h : denL X K L fn c S = some r) : den X (call X) fn c S = some r :=
  den_of hL (denL_up X L fn c S K (call X) hK r h)
end Go.Vm

namespace Go.Vm
open Go
structure Res (α : Type) where
  β : Type
  o : Option β
  enc : β → α
def Res.val {α : Type} (r : Res α) : Option α := r.o.map r.enc
abbrev KonC := Nat → List V → List Cell → Res (List Row × List Cell)
inductive Alt (α : Type) : Type 1 where
  | leaf (β : Type) (enc : β → α)
  | sum (a b : Alt α)
def Alt.T {α : Type} : Alt α → Type
  | .leaf β _ => β
  | .sum a b => a.T ⊕ b.T
def Alt.enc {α : Type} : (a : Alt α) → a.T → α
  | .leaf _ enc, x => enc x
  | .sum a _, .inl x => a.enc x
  | .sum _ b, .inr x => b.enc x
structure ResA (α : Type) where
  alt : Alt α
  o : Option alt.T
def ResA.val {α : Type} (r : ResA α) : Option α := r.o.map r.alt.enc
def ResA.none {α : Type} : ResA α := ⟨.leaf Empty Empty.elim, .none⟩
abbrev LoopC := Nat → St → ResA (Ex × St)
def KonC.to (K : KonC) : Kont := fun f a c => (K f a c).val
def LoopC.to (L : LoopC) : Loops := fun n S => (L n S).val
def Res.none {α : Type} : Res α := ⟨Empty, .none, Empty.elim⟩
section
variable {R : Type}
def sumE {α β γ : Type} (r : α ⊕ β) (f : α → Option γ) (g : β → Option γ) : Option γ := match r with
  | .inl x => f x
  | .inr y => g y
def Alt.go {α : Type} : (a : Alt α) → a.T → (α → Option R) → Option R
  | .leaf _ enc => fun x k => k (enc x)
  | .sum a b => fun x k => sumE x (fun x => a.go x k) (fun y => b.go y k)
theorem Alt.go_eq {α : Type} (k : α → Option R) : ∀ (a : Alt α) (x : a.T), a.go x k = k (a.enc x)
  | .leaf _ enc, x => rfl
  | .sum a _, .inl x => Alt.go_eq k a x
  | .sum _ b, .inr x => Alt.go_eq k b x
theorem ResA.val_some {α : Type} {r : ResA α} {x : α} (h : r.val = some x) : ∃ y, r.o = some y ∧ r.alt.enc y = x := by
  simpa [ResA.val, Option.map_eq_some_iff] using h
theorem Res.val_some {α : Type} {r : Res α} {x : α} (h : r.val = some x) : ∃ y, r.o = some y ∧ r.enc y = x := by
  simpa [Res.val, Option.map_eq_some_iff] using h
def Acc.runC {α : Type} : Acc α → Mem → Log → (α → Mem → Log → Option R) → Option R
  | .ret a, m, l, k => k a m l
  | .fail, _, _, _ => none
  | .get i c, m, l, k => (c (Vm.get i m)).runC m (l.rd i) k
  | .set i x c, m, l, k => c.runC (put i x m) (l.wr i) k
  | .opt o c, m, l, k => match o with | some b => (c b).runC m l k | none => none
  | .guard b c, m, l, k => match b with | true => c.runC m l k | false => none
def callVC (X : Ctx) (K : KonC) (fn dst f : Nat) (args : List V) : Acc V := do
  let g ← op' X.P.funcs[f]?
  ck (g.body.isSome && !(g.name == "runtime.NumGoroutine"))
  let imp := impArgs X.adv f 0 [] args
  let args ← moveArgs X.adv f 0 args
  let cells ← expAll X.adv imp imp
  let (args, lent) ← lendArgs X.adv imp f 0 args
  ck (lent.all fun r => !(mem? r imp))
  let b ← op' (K f args cells).o
  let out := (K f args cells).enc b
  ck (Nat.beq out.1.length g.resultTypes.size)
  let need := !(lent.isEmpty) && (allAtts X.P (X.adv.att fn dst) 0 g.resultTypes.toList && imp.isEmpty)
  ck (bif need then out.1.all pureRow else true)
  freeze (bif need then [] else lent)
  reAll X dst out.2 0 imp
  let vs ← resAll X (X.adv.att fn dst) dst out.1 0 g.resultTypes.toList
  match vs with
  | [v] => pure v
  | vs => pure (.tup vs)
def vopC (X : Ctx) (K : KonC) (fn : Nat) (tm : Tmps) (o : Oper) : Acc V :=
  match o.op with
  | .call { callee := .value f, args, argTypes } => match ev X.P tm 0 f with
    | .clo g first caps => callVC X K fn (o.dst.getD 0) g (first ++ evArgs X.P tm args.toList argTypes.toList ++ caps)
    | _ => .fail
  | _ => vop X (fun _ _ _ => none) fn tm o
def forceD (x : D) (k : D → Option R) : Option R := match x with
  | .int j n => k (.int j n)
  | .bool b => k (.bool b)
  | .str s => k (.str s)
  | .nilf => k .nilf
  | .sl o s rows => match o with
    | true => k (.sl true s rows)
    | false => k (.sl false s rows)
mutual
def forceV (v : V) (k : V → Option R) : Option R := match v with
  | .d x => forceD x fun x => k (.d x)
  | .nil s => k (.nil s)
  | .own r v => k (.own r v)
  | .ptr r o => k (.ptr r o)
  | .eptr r v i o => k (.eptr r v i o)
  | .rptr row o => k (.rptr row o)
  | .kptr v => forceV v fun v => k (.kptr v)
  | .clo f a b => forceVs a fun a => forceVs b fun b => k (.clo f a b)
  | .agg cs => forceVs cs fun cs => k (.agg cs)
  | .tup cs => forceVs cs fun cs => k (.tup cs)
  | .undef => k .undef
def forceVs (vs : List V) (k : List V → Option R) : Option R := match vs with
  | [] => k []
  | v :: vs => forceV v fun v => forceVs vs fun vs => k (v :: vs)
end
def forceTm (tm : Tmps) (k : Tmps → Option R) : Option R := match tm with
  | [] => k []
  | (t, v) :: tm => forceV v fun v => forceTm tm fun tm => k ((t, v) :: tm)
def forceCell (c : Cell) (k : Cell → Option R) : Option R := match c with
  | .box t cs => forceVs cs fun cs => k (.box t cs)
  | .arr fz fl ver s rows => k (.arr fz fl ver s rows)
  | .dead => k .dead
  | .que ver s rows => k (.que ver s rows)
  | .kbox t v => forceV v fun v => k (.kbox t v)
def forceMem (m : Mem) (k : Mem → Option R) : Option R := match m with
  | [] => k []
  | (r, c) :: m => forceCell c fun c => forceMem m fun m => k ((r, c) :: m)
def renK (L : List (Nat × Nat)) (r : Nat) (k : Nat → Option R) : Option R := match get r L with
  | some j => k j
  | none => k r
mutual
def renVC (L : List (Nat × Nat)) (v : V) (k : V → Option R) : Option R := match v with
  | .d x => k (.d x)
  | .nil s => k (.nil s)
  | .own r v => renK L r fun r => k (.own r v)
  | .ptr r o => renK L r fun r => k (.ptr r o)
  | .eptr r v i o => renK L r fun r => k (.eptr r v i o)
  | .rptr row o => k (.rptr row o)
  | .kptr v => renVC L v fun v => k (.kptr v)
  | .clo f a b => renVsC L a fun a => renVsC L b fun b => k (.clo f a b)
  | .agg cs => renVsC L cs fun cs => k (.agg cs)
  | .tup vs => renVsC L vs fun vs => k (.tup vs)
  | .undef => k .undef
def renVsC (L : List (Nat × Nat)) (vs : List V) (k : List V → Option R) : Option R := match vs with
  | [] => k []
  | v :: vs => renVC L v fun v => renVsC L vs fun vs => k (v :: vs)
end
def renTmC (L : List (Nat × Nat)) (tm : Tmps) (k : Tmps → Option R) : Option R := match tm with
  | [] => k []
  | (t, v) :: tm => renVC L v fun v => renTmC L tm fun tm => k ((t, v) :: tm)
def renCC (L : List (Nat × Nat)) (c : Cell) (k : Cell → Option R) : Option R := match c with
  | .box t cs => renVsC L cs fun cs => k (.box t cs)
  | .arr fz fl ver s rows => k (.arr fz fl ver s rows)
  | .dead => k .dead
  | .que ver s rows => k (.que ver s rows)
  | .kbox t v => renVC L v fun v => k (.kbox t v)
def renMemC (L : List (Nat × Nat)) (m : Mem) (k : Mem → Option R) : Option R := match m with
  | [] => k []
  | (r, c) :: m => renK L r fun r => renCC L c fun c => renMemC L m fun m => forceMem (put r c m) k
def forceL (l : List Nat) (k : List Nat → Option R) : Option R := match l with
  | [] => k []
  | x :: l => forceL l fun l => k (x :: l)
def forceLL (l : List (Nat × Nat)) (k : List (Nat × Nat) → Option R) : Option R := match l with
  | [] => k []
  | (x, y) :: l => forceLL l fun l => k ((x, y) :: l)
def canonC (S : St) (k : St → Option R) : Option R := forceL (ordK S.tm S.mem) fun o => match o with
  | [] => k S
  | a :: o => forceLL (numb names (a :: o)) fun L => match canonOk L (S.mem.map (·.1)) with
    | true => renTmC L S.tm fun tm => renMemC L S.mem fun m => k ⟨tm, m⟩
    | false => k S
def wantedC (ops : Array Oper) (tm : Tmps) (o : Oper) (k : Bool → Tmps → Option R) : Option R :=
  match o.guard with
  | none => k true tm
  | some (j, want) => match ops[j]? with
    | some oj => match oj.dst with
      | some d => match getT d tm with
        | .d (.bool b) => match b with
          | true => k want (put d (.d (.bool true)) tm)
          | false => k (!want) (put d (.d (.bool false)) tm)
        | .tup vs => match vs with
          | [] => k false (put d (.tup []) tm)
          | _ :: _ => none
        | _ => none
      | none => none
    | none => none
def runOpC (X : Ctx) (K : KonC) (fn : Nat) (ops : Array Oper) (i : Nat) (S : St) (k : St → Log → Option R) : Option R :=
  match ops[i]? with
  | none => none
  | some o => wantedC ops S.tm o fun b tm => match b with
    | false => k ⟨skipT (ntOf X.P fn) o.dst tm, S.mem⟩ .none
    | true => (vopC X K fn tm o).runC S.mem .none fun v m l => bif dstOk (ntOf X.P fn) o.dst then forceV v fun v => k ⟨putT o.dst v tm, m⟩ l else none
def runOpsC (X : Ctx) (K : KonC) (fn : Nat) (ops : Array Oper) : List Nat → St → List (Nat × Log) → (St → List (Nat × Log) → Option R) → Option R
  | [], S, L, k => k S L
  | i :: is, S, L, k => runOpC X K fn ops i S fun S' l => runOpsC X K fn ops is S' ((i, l) :: L) k
def drawB (X : Ctx) (ops : Array Oper) (L : List (Nat × Log)) : Bool → Bool
  | false => true
  | true => X.P.follows .mixedOrders && (backOk ops && drawOk ops (Region.before ops) L)
def fuseOpC (X : Ctx) (K : KonC) (tm : Tmps) (o1 o2 o3 : Oper) : Acc (Nat × Nat × V × V) :=
  match o1, o2, o3 with
  | ⟨some d1, .load t (.tmp ta), _, _, _, none⟩, ⟨some d2, .move x, ty2, _, _, none⟩, ⟨_, .call ⟨.value (.func f), args, _⟩, _, _, _, none⟩ => do
    ck (!(Nat.beq d1 d2) && (twoTs args d1 d2 && (offT d1 x && (okT X.P t && (Nat.beq (szT X.P t) 1 && (!(aggT X.P t) && fuseF X f))))))
    let e ← op' (elT X.P t)
    match getT ta tm, ev X.P tm ty2 x with
    | .eptr r ver i off, .d (.int k n) => do
      match ← rd r with
      | some (.arr false false ver' s rows) => do
        ck (Nat.beq ver ver' && Nat.ble (off + 1) s)
        let row ← op' rows[i]?
        let rs ← op' (cOwn (szT X.P e) row off)
        ck (outOk (flatT X.P e) rs)
        let b ← op' (K f [.own impBase 0, .d (.int k n)] [.arr false (flatT X.P e) 0 (szT X.P e) rs]).o
        let out := (K f [.own impBase 0, .d (.int k n)] [.arr false (flatT X.P e) 0 (szT X.P e) rs]).enc b
        let q ← op' (fuseOut out)
        ck (fuseCk (szT X.P e) (flatT X.P e) q)
        wr r (.arr false false ver' s (rows.set i (splice row off [.sl true (szT X.P e) q.2.2.2.2])))
        pure (d1, d2, .d (.int k n), .d (.int q.1 q.2.1))
      | _ => .fail
    | _, _ => .fail
  | _, _, _ => .fail
def runFuseC (X : Ctx) (K : KonC) (fn : Nat) (ops : Array Oper) (p : Nat) (S : St) (k : St → Option R) : Option R :=
  match ops[p]?, ops[p + 1]?, ops[p + 2]? with
  | some o1, some o2, some o3 => (fuseOpC X K S.tm o1 o2 o3).runC S.mem .none fun r m _ =>
    bif Nat.blt r.1 (ntOf X.P fn) && (Nat.blt r.2.1 (ntOf X.P fn) && dstOk (ntOf X.P fn) o3.dst) then k ⟨putT o3.dst r.2.2.2 (put r.2.1 r.2.2.1 (put r.1 .undef S.tm)), m⟩ else none
  | _, _, _ => none
def regionRunC (X : Ctx) (K : KonC) (fn id : Nat) (ops : Array Oper) (draw : Bool) (S : St) (k : St → List (Nat × Log) → Option R) : Option R :=
  match X.adv.fuse fn id with
  | 0 => runOpsC X K fn ops (List.range ops.size) S [] k
  | p + 1 => match draw with
    | true => none
    | false => runOpsC X K fn ops (List.range p) S [] fun S1 _ => runFuseC X K fn ops p S1 fun S2 => runOpsC X K fn ops ((List.range ops.size).drop (p + 3)) S2 [] k
def regionC (X : Ctx) (K : KonC) (fn id : Nat) (ops : Array Oper) (draw : Bool) (S : St) (k : St → Option R) : Option R :=
  regionRunC X K fn id ops draw S fun S' L =>
    bif drawB X ops L draw then (match prune0 (X.adv.keep fn id) S' with
      | some S'' => forceTm S''.tm fun tm => forceMem S''.mem fun m => canonC ⟨tm, m⟩ k
      | none => none) else none
def rep (k : Nat) (x : V) : Tmps → Tmps
  | [] => []
  | (j, y) :: l => match Nat.beq k j with
    | true => (j, x) :: l
    | false => (j, y) :: rep k x l
def refB (c : Operand) (b : Bool) (S : St) : St := match c with
  | .tmp i => ⟨rep i (.d (.bool b)) S.tm, S.mem⟩
  | _ => S
theorem rep_get {k : Nat} {x : V} : ∀ {l : Tmps}, get k l = some x → rep k x l = l
  | [], h => rfl
  | (j, y) :: l, h => by
    simp only [get] at h
    rw [rep]
    cases hb : Nat.beq k j with
    | true =>
      rw [hb] at h
      simp only [cond_true, Option.some.injEq] at h
      rw [h]
    | false =>
      rw [hb] at h
      simp only
      rw [rep_get h]
theorem refB_eq {P : Program} {c : Operand} {b : Bool} {S : St} (h : ev P S.tm 0 c = .d (.bool b)) : refB c b S = S := by
  cases c with
  | tmp i =>
    simp only [ev, getT] at h
    cases hg : get i S.tm with
    | none => rw [hg] at h; cases h
    | some v =>
      rw [hg] at h
      simp only at h
      subst h
      rw [refB, rep_get hg]
  | _ => rfl
def denC (X : Ctx) (K : KonC) (L : LoopC) (fn : Nat) : Code → St → (Ex → St → Option R) → Option R
  | .skip, S, k => k .normal S
  | .region id ops draw, S, k => regionC X K fn id ops draw S fun S' => k .normal S'
  | .seq a b, S, k => denC X K L fn a S fun e S' => match e with
    | .normal => denC X K L fn b S' k
    | e => k e S'
  | .cond c a b, S, k => match ev X.P S.tm 0 c with
    | .d (.bool t) => (match t with
      | true => denC X K L fn a (refB c true S) k
      | false => denC X K L fn b (refB c false S) k)
    | _ => none
  | .block id c, S, k => denC X K L fn c S fun e S' => match e with
    | .exit j => bif Nat.beq j id then k .normal S' else k (.exit j) S'
    | e => k e S'
  | .loop c, S, k => match (L (lid c) S).o with
    | some b => (L (lid c) S).alt.go b fun r => k r.1 r.2
    | none => none
  | .exit id, S, k => k (.exit id) S
  | .ret, S, k => k .ret S
  | _, _, _ => none
def leaveC (X : Ctx) (g : Func) (n : Nat) (S : St) (k : List Row → List Cell → Option R) : Option R :=
  (do
    let rows ← resRows X.P S.tm g.results.toList g.resultTypes.toList
    let cells ← expAll X.adv (impKeys n) (impKeys n)
    pure (rows, cells) : Acc (List Row × List Cell)).runC S.mem .none fun r _ _ => k r.1 r.2
def bodyC (X : Ctx) (K : KonC) (L : LoopC) (f : Nat) (args : List V) (cells : List Cell) (k : List Row → List Cell → Option R) : Option R :=
  match X.P.funcs[f]? with
  | some g => match g.body with
    | some c => bif !(Nat.ble cells.length impBase && Nat.ble args.length g.ntmps) then none else (entry X f g args cells).runC (impMem 0 cells) .none fun tm m _ =>
      forceTm tm fun tm => forceMem m fun m => denC X K L f c ⟨tm, m⟩ fun e S => match e with
        | .normal => leaveC X g cells.length S k
        | .ret => leaveC X g cells.length S k
        | .exit _ => none
    | none => none
  | none => none
theorem runC_eq {α : Type} (A : Acc α) : ∀ (m : Mem) (l : Log) (k : α → Mem → Log → Option R), A.runC m l k = (A.run m l).bind fun r => k r.1 r.2.1 r.2.2 := by
  induction A with
  | ret a => intro m l k; rfl
  | fail => intro m l k; rfl
  | get i c ih => intro m l k; exact ih _ _ _ _
  | set i x c ih => intro m l k; exact ih _ _ _
  | opt o c ih => intro m l k; cases o with
    | none => rfl
    | some b => exact ih b _ _ _
  | guard b c ih => intro m l k; cases b with
    | false => rfl
    | true => exact ih _ _ _
theorem forceD_eq (x : D) (k : D → Option R) : forceD x k = k x := by
  cases x with
  | sl o s rows => cases o <;> rfl
  | _ => rfl
mutual
theorem forceV_eq : ∀ (v : V) (k : V → Option R), forceV v k = k v
  | .d x, k => by simp only [forceV, forceD_eq]
  | .nil s, k => by simp only [forceV]
  | .own r v, k => by simp only [forceV]
  | .ptr r o, k => by simp only [forceV]
  | .eptr r v i o, k => by simp only [forceV]
  | .rptr row o, k => by simp only [forceV]
  | .kptr v, k => by simp only [forceV]; rw [forceV_eq v]
  | .clo f a b, k => by simp only [forceV]; rw [forceVs_eq a, forceVs_eq b]
  | .agg cs, k => by simp only [forceV]; rw [forceVs_eq cs]
  | .tup cs, k => by simp only [forceV]; rw [forceVs_eq cs]
  | .undef, k => by simp only [forceV]
theorem forceVs_eq : ∀ (vs : List V) (k : List V → Option R), forceVs vs k = k vs
  | [], k => by simp only [forceVs]
  | v :: vs, k => by simp only [forceVs]; rw [forceV_eq v, forceVs_eq vs]
end
theorem forceTm_eq : ∀ (tm : Tmps) (k : Tmps → Option R), forceTm tm k = k tm
  | [], k => rfl
  | (t, v) :: tm, k => by simp only [forceTm]; rw [forceV_eq v, forceTm_eq tm]
theorem forceCell_eq (c : Cell) (k : Cell → Option R) : forceCell c k = k c := by
  cases c with
  | box t cs => simp only [forceCell, forceVs_eq]
  | kbox t v => simp only [forceCell, forceV_eq]
  | _ => rfl
theorem forceMem_eq : ∀ (m : Mem) (k : Mem → Option R), forceMem m k = k m
  | [], k => rfl
  | (t, v) :: m, k => by simp only [forceMem]; rw [forceCell_eq v, forceMem_eq m]
theorem renK_eq (L : List (Nat × Nat)) (r : Nat) (k : Nat → Option R) : renK L r k = k (ren L r) := by
  unfold renK ren
  cases get r L <;> rfl
mutual
theorem renVC_eq (L : List (Nat × Nat)) : ∀ (v : V) (k : V → Option R), renVC L v k = k (renV L v)
  | .d x, k => by simp only [renVC, renV]
  | .nil s, k => by simp only [renVC, renV]
  | .own r v, k => by simp only [renVC, renV, renK_eq]
  | .ptr r o, k => by simp only [renVC, renV, renK_eq]
  | .eptr r v i o, k => by simp only [renVC, renV, renK_eq]
  | .rptr row o, k => by simp only [renVC, renV]
  | .kptr v, k => by simp only [renVC, renV]; rw [renVC_eq L v]
  | .clo f a b, k => by simp only [renVC, renV]; rw [renVsC_eq L a, renVsC_eq L b]
  | .agg cs, k => by simp only [renVC, renV]; rw [renVsC_eq L cs]
  | .tup vs, k => by simp only [renVC, renV]; rw [renVsC_eq L vs]
  | .undef, k => by simp only [renVC, renV]
theorem renVsC_eq (L : List (Nat × Nat)) : ∀ (vs : List V) (k : List V → Option R), renVsC L vs k = k (renVs L vs)
  | [], k => by simp only [renVsC, renVs]
  | v :: vs, k => by simp only [renVsC, renVs]; rw [renVC_eq L v, renVsC_eq L vs]
end
theorem renTmC_eq (L : List (Nat × Nat)) : ∀ (tm : Tmps) (k : Tmps → Option R), renTmC L tm k = k (renTm L tm)
  | [], k => rfl
  | (t, v) :: tm, k => by simp only [renTmC, renTm]; rw [renVC_eq L v, renTmC_eq L tm]
theorem renCC_eq (L : List (Nat × Nat)) (c : Cell) (k : Cell → Option R) : renCC L c k = k (renC L c) := by
  cases c with
  | box t cs => simp only [renCC, renC, renVsC_eq]
  | kbox t v => simp only [renCC, renC, renVC_eq]
  | _ => rfl
theorem renMemC_eq (L : List (Nat × Nat)) : ∀ (m : Mem) (k : Mem → Option R), renMemC L m k = k (renMem L m)
  | [], k => rfl
  | (r, c) :: m, k => by simp only [renMemC, renMem, renK_eq, renCC_eq]; rw [renMemC_eq L m, forceMem_eq]
theorem forceL_eq : ∀ (l : List Nat) (k : List Nat → Option R), forceL l k = k l
  | [], k => rfl
  | x :: l, k => by simp only [forceL]; rw [forceL_eq l]
theorem forceLL_eq : ∀ (l : List (Nat × Nat)) (k : List (Nat × Nat) → Option R), forceLL l k = k l
  | [], k => rfl
  | (x, y) :: l, k => by simp only [forceLL]; rw [forceLL_eq l]
theorem canonC_eq (S : St) (k : St → Option R) : canonC S k = k (canon S) := by
  unfold canonC canon
  rw [forceL_eq]
  cases ordK S.tm S.mem with
  | nil => rfl
  | cons a o =>
    simp only [forceLL_eq, canonL]
    cases canonOk (numb names (a :: o)) (S.mem.map (·.1)) with
    | true => simp only [renTmC_eq, renMemC_eq]
    | false => rfl
def ARun {α : Type} (a b : Acc α) : Prop := ∀ m l, a.run m l = b.run m l
theorem ARun.refl {α : Type} (a : Acc α) : ARun a a := fun _ _ => rfl
theorem ARun.bind {α β : Type} {a : Acc α} {f g : α → Acc β} (h : ∀ x, ARun (f x) (g x)) : ARun (a >>= f) (a >>= g) := by
  intro m l
  rw [run_bind, run_bind]
  cases a.run m l with
  | none => rfl
  | some r => obtain ⟨x, m, l⟩ := r; exact h x m l
theorem ARun.enc {α β γ : Type} {o : Option β} {enc : β → α} {f : α → Acc γ} : ARun (op' o >>= fun b => f (enc b)) (op' (o.map enc) >>= f) := by
  intro m l
  rw [run_bind, run_bind]
  cases o <;> rfl
theorem callVC_run {X : Ctx} {K : KonC} {fn dst f : Nat} {args : List V} {m : Mem} {l : Log} : (callVC X K fn dst f args).run m l = (callV X K.to fn dst f args).run m l := by
  revert m l
  show ARun _ _
  unfold callVC callV
  refine ARun.bind fun g => ARun.bind fun _ => ARun.bind fun args => ARun.bind fun cells => ARun.bind fun ⟨args, lent⟩ => ARun.bind fun _ => ?_
  exact ARun.enc (o := (K f args cells).o) (enc := (K f args cells).enc) (f := fun out => do
    ck (Nat.beq out.1.length g.resultTypes.size)
    ck (bif (!(lent.isEmpty) && (allAtts X.P (X.adv.att fn dst) 0 g.resultTypes.toList && (impArgs X.adv _ 0 [] _).isEmpty)) then out.1.all pureRow else true)
    freeze (bif (!(lent.isEmpty) && (allAtts X.P (X.adv.att fn dst) 0 g.resultTypes.toList && (impArgs X.adv _ 0 [] _).isEmpty)) then [] else lent)
    reAll X dst out.2 0 (impArgs X.adv _ 0 [] _)
    let vs ← resAll X (X.adv.att fn dst) dst out.1 0 g.resultTypes.toList
    match vs with
    | [v] => pure v
    | vs => pure (.tup vs))
theorem vopC_run {X : Ctx} {K : KonC} {fn : Nat} {tm : Tmps} {o : Oper} {m : Mem} {l : Log} : (vopC X K fn tm o).run m l = (vop X K.to fn tm o).run m l := by
  obtain ⟨dst, op, type, pos, after, guard⟩ := o
  cases op <;> try rfl
  case call c =>
    obtain ⟨callee, args, tys⟩ := c
    cases callee with
    | value f =>
      simp only [vopC, vop]
      cases ev X.P tm 0 f with
      | clo g a b => exact callVC_run
      | _ => rfl
    | invoke r m => rfl
    | builtin b => cases b <;> rfl
  case makeFunc f a b => cases f <;> rfl
  case slice a b c d e => cases e <;> rfl
theorem wantedC_eq (ops : Array Oper) (tm : Tmps) (o : Oper) (k : Bool → Tmps → Option R) : wantedC ops tm o k = (wantedV ops tm o).bind fun r => k r.1 r.2 := by
  unfold wantedC wantedV
  cases o.guard with
  | none => rfl
  | some jw =>
    obtain ⟨j, want⟩ := jw
    simp only
    cases ops[j]? with
    | none => rfl
    | some oj =>
      simp only
      cases oj.dst with
      | none => rfl
      | some d =>
        simp only
        cases getT d tm with
        | d x => cases x with
          | bool b => cases b <;> rfl
          | _ => rfl
        | tup vs => cases vs <;> rfl
        | _ => rfl
theorem runOpC_eq (X : Ctx) (K : KonC) (fn : Nat) (ops : Array Oper) (i : Nat) (S : St) (k : St → Log → Option R) : runOpC X K fn ops i S k = (runOp X K.to fn ops i S).bind fun r => k r.1 r.2 := by
  unfold runOpC runOp
  cases ops[i]? with
  | none => rfl
  | some o =>
    simp only [wantedC_eq]
    cases wantedV ops S.tm o with
    | none => rfl
    | some r =>
      obtain ⟨b, tm⟩ := r
      cases b with
      | false => rfl
      | true =>
        simp only [Option.bind_some, runC_eq, vopC_run]
        cases (vop X K.to fn tm o).run S.mem .none with
        | none => rfl
        | some r =>
          obtain ⟨v, m, l⟩ := r
          simp only [Option.bind_some]
          cases dstOk (ntOf X.P fn) o.dst with
          | false => rfl
          | true => simp only [cond_true, forceV_eq]; rfl
theorem runOpsC_eq (X : Ctx) (K : KonC) (fn : Nat) (ops : Array Oper) : ∀ (is : List Nat) (S : St) (L : List (Nat × Log)) (k : St → List (Nat × Log) → Option R), runOpsC X K fn ops is S L k = (runOps X K.to fn ops is S L).bind fun r => k r.1 r.2
  | [], S, L, k => rfl
  | i :: is, S, L, k => by
    simp only [runOpsC, runOps_eq, runOpC_eq]
    cases runOp X K.to fn ops i S with
    | none => rfl
    | some r => simp only [Option.bind_some]; exact runOpsC_eq X K fn ops is _ _ k
theorem fuseOpC_run {X : Ctx} {K : KonC} {tm : Tmps} {o1 o2 o3 : Oper} {m : Mem} {l : Log} : (fuseOpC X K tm o1 o2 o3).run m l = (fuseOp X K.to tm o1 o2 o3).run m l := by
  revert m l
  show ARun _ _
  unfold fuseOpC fuseOp
  split
  · rename_i d1 t ta _ _ _ d2 x ty2 _ _ _ f args _ _ _ _
    refine ARun.bind fun _ => ARun.bind fun e => ?_
    generalize getT ta tm = ga
    generalize ev X.P tm ty2 x = kv
    cases ga with
    | eptr r ver i off =>
      cases kv with
      | d y =>
        cases y with
        | int k n =>
          refine ARun.bind fun c => ?_
          cases c with
          | none => exact ARun.refl _
          | some c => cases c with
            | arr fz fl ver' s rows => cases fz with
              | true => exact ARun.refl _
              | false => cases fl with
                | true => exact ARun.refl _
                | false =>
                  refine ARun.bind fun _ => ARun.bind fun row => ARun.bind fun rs => ARun.bind fun _ => ?_
                  exact ARun.enc (o := (K f [.own impBase 0, .d (.int k n)] [.arr false (flatT X.P e) 0 (szT X.P e) rs]).o) (enc := (K f [.own impBase 0, .d (.int k n)] [.arr false (flatT X.P e) 0 (szT X.P e) rs]).enc) (f := fun out => do
                    let q ← op' (fuseOut out)
                    ck (fuseCk (szT X.P e) (flatT X.P e) q)
                    wr r (.arr false false ver' s (rows.set i (splice row off [.sl true (szT X.P e) q.2.2.2.2])))
                    pure (d1, d2, V.d (.int k n), V.d (.int q.1 q.2.1)))
            | _ => exact ARun.refl _
        | _ => exact ARun.refl _
      | _ => exact ARun.refl _
    | _ => exact ARun.refl _
  · rename_i hno
    split
    · exfalso
      apply hno <;> rfl
    · exact ARun.refl _
theorem runFuseC_eq (X : Ctx) (K : KonC) (fn : Nat) (ops : Array Oper) (p : Nat) (S : St) (k : St → Option R) : runFuseC X K fn ops p S k = (runFuse X K.to fn ops p S).bind k := by
  simp only [runFuseC, runFuse_eq]
  cases ops[p]? with
  | none => rfl
  | some o1 => cases ops[p + 1]? with
    | none => rfl
    | some o2 => cases ops[p + 2]? with
      | none => rfl
      | some o3 =>
        simp only [runC_eq, fuseOpC_run]
        cases (fuseOp X K.to S.tm o1 o2 o3).run S.mem .none with
        | none => rfl
        | some r =>
          simp only [Option.bind_some]
          cases (Nat.blt r.1.1 (ntOf X.P fn) && (Nat.blt r.1.2.1 (ntOf X.P fn) && dstOk (ntOf X.P fn) o3.dst)) <;> rfl
theorem regionRunC_eq (X : Ctx) (K : KonC) (fn id : Nat) (ops : Array Oper) (draw : Bool) (S : St) (k : St → List (Nat × Log) → Option R) : regionRunC X K fn id ops draw S k = (regionRun X K.to fn id ops draw S).bind fun r => k r.1 r.2 := by
  simp only [regionRunC, regionRun_eq]
  cases X.adv.fuse fn id with
  | zero => simp only [runOpsC_eq]
  | succ p =>
    cases draw with
    | true => rfl
    | false =>
      simp only [runOpsC_eq, runFuseC_eq]
      cases runOps X K.to fn ops (List.range p) S [] with
      | none => rfl
      | some r =>
        simp only [Option.bind_some]
        cases runFuse X K.to fn ops p r.1 <;> rfl
theorem regionC_eq (X : Ctx) (K : KonC) (fn id : Nat) (ops : Array Oper) (draw : Bool) (S : St) (k : St → Option R) : regionC X K fn id ops draw S k = (region X K.to fn id ops draw S).bind k := by
  simp only [regionC, region_eq, regionRunC_eq]
  cases regionRun X K.to fn id ops draw S with
  | none => rfl
  | some r =>
    simp only [Option.bind_some]
    have hp : (match prune0 (X.adv.keep fn id) r.1 with
      | some S'' => forceTm S''.tm fun tm => forceMem S''.mem fun m => canonC ⟨tm, m⟩ k
      | none => none) = (prune (X.adv.keep fn id) r.1).bind k := by
      unfold prune
      cases prune0 (X.adv.keep fn id) r.1 with
      | none => rfl
      | some S'' => simp only [forceTm_eq, forceMem_eq, canonC_eq]; rfl
    rw [hp]
    cases draw with
    | false => rfl
    | true =>
      simp only [drawB]
      cases (X.P.follows .mixedOrders && (backOk ops && drawOk ops (Region.before ops) r.2)) <;> rfl
theorem denC_eq (X : Ctx) (K : KonC) (L : LoopC) (fn : Nat) (c : Code) : ∀ (S : St) (k : Ex → St → Option R), denC X K L fn c S k = (denL X K.to L.to fn c S).bind fun r => k r.1 r.2 := by
  induction c with
  | skip => intro S k; rfl
  | region id ops draw =>
    intro S k
    simp only [denC, denL, regionC_eq]
    cases region X K.to fn id ops draw S <;> rfl
  | seq a b iha ihb =>
    intro S k
    simp only [denC, denL, iha]
    cases denL X K.to L.to fn a S with
    | none => rfl
    | some r =>
      obtain ⟨e, S'⟩ := r
      cases e with
      | normal => exact ihb S' k
      | exit id => rfl
      | ret => rfl
  | cond c a b iha ihb =>
    intro S k
    simp only [denC, denL, condV]
    cases hev : ev X.P S.tm 0 c with
    | d x => cases x with
      | bool t => cases t with
        | true =>
          simp only [refB_eq hev]
          exact iha S k
        | false =>
          simp only [refB_eq hev]
          exact ihb S k
      | _ => rfl
    | _ => rfl
  | block id c ih =>
    intro S k
    simp only [denC, denL, ih]
    cases denL X K.to L.to fn c S with
    | none => rfl
    | some r =>
      obtain ⟨e, S'⟩ := r
      cases e with
      | normal => rfl
      | ret => rfl
      | exit j =>
        simp only [Option.bind_some]
        cases Nat.beq j id <;> rfl
  | loop c ih =>
    intro S k
    simp only [denC, denL, LoopC.to, ResA.val, Alt.go_eq]
    cases (L (lid c) S).o <;> rfl
  | exit id => intro S k; rfl
  | ret => intro S k; rfl
  | _ => intro S k; rfl
theorem leaveC_eq (X : Ctx) (g : Func) (n : Nat) (S : St) (k : List Row → List Cell → Option R) : leaveC X g n S k = (leave X g n S).bind fun r => k r.1 r.2 := by
  simp only [leaveC, leave, runC_eq]
  split
  · rename_i r m l he; simp only [he]; rfl
  · rename_i he; simp only [he]; rfl
theorem bodyC_eq (X : Ctx) (K : KonC) (L : LoopC) (f : Nat) (args : List V) (cells : List Cell) (k : List Row → List Cell → Option R) : bodyC X K L f args cells k = (bodyL X K.to L.to f args cells).bind fun r => k r.1 r.2 := by
  simp only [bodyC, bodyL]
  cases X.P.funcs[f]? with
  | none => rfl
  | some g =>
    simp only
    cases g.body with
    | none => rfl
    | some c =>
      simp only
      generalize (!(Nat.ble cells.length impBase && Nat.ble args.length g.ntmps)) = q
      cases q with
      | true => rfl
      | false =>
        simp only [cond_false, runC_eq]
        cases (entry X f g args cells).run (impMem 0 cells) .none with
        | none => rfl
        | some r =>
          obtain ⟨tm, m, l⟩ := r
          simp only [Option.bind_some, forceTm_eq, forceMem_eq, denC_eq]
          cases denL X K.to L.to f c ⟨tm, m⟩ with
          | none => rfl
          | some r =>
            obtain ⟨e, S⟩ := r
            cases e with
            | normal => simp only [Option.bind_some, leaveC_eq]
            | ret => simp only [Option.bind_some, leaveC_eq]
            | exit j => rfl
end
theorem call_ofC {X : Ctx} {K : KonC} {L : LoopC} {f : Nat} {args : List V} {cells : List Cell} {r : List Row × List Cell} (hp : X.prim f = none) (hK : KLe K.to (call X)) (hL : LOk X (call X) f L.to (loops (codeOf X.P f)))
    (h : bodyC X K L f args cells (fun a b => some (a, b)) = some r) : call X f args cells = some r := by
  refine call_ofL hp hK hL ?_
  rw [bodyC_eq] at h
  cases hb : bodyL X K.to L.to f args cells with
  | none => rw [hb] at h; cases h
  | some q => rw [hb] at h; exact h
theorem den_ofC {X : Ctx} {K : KonC} {L : LoopC} {fn : Nat} {c : Code} {S : St} {r : Ex × St} (hK : KLe K.to (call X)) (hL : LOk X (call X) fn L.to (loops c)) (h : denC X K L fn c S (fun a b => some (a, b)) = some r) : den X (call X) fn c S = some r := by
  refine den_ofL hK hL ?_
  rw [denC_eq] at h
  cases hb : denL X K.to L.to fn c S with
  | none => rw [hb] at h; cases h
  | some q => rw [hb] at h; exact h
end Go.Vm

namespace Go.Vm
open Go
def iterM {σ τ : Type} (b : σ → Option (σ ⊕ τ)) : Nat → σ → Option τ
  | 0, _ => none
  | n + 1, s => match b s with
    | some (.inl s') => iterM b n s'
    | some (.inr t) => some t
    | none => none
theorem iterM_more {σ τ : Type} {b : σ → Option (σ ⊕ τ)} : ∀ {n k : Nat} {s : σ} {t : τ}, iterM b n s = some t → n ≤ k → iterM b k s = some t
  | 0, _, _, _, h, _ => by simp [iterM] at h
  | n + 1, 0, _, _, _, hk => by omega
  | n + 1, k + 1, s, t, h, hk => by
    simp only [iterM] at h ⊢
    cases hb : b s with
    | none => simp [hb] at h
    | some q =>
      rw [hb] at h
      cases q with
      | inl s' => exact iterM_more h (by omega)
      | inr t' => exact h
noncomputable def loopM {σ τ : Type} (b : σ → Option (σ ⊕ τ)) (s : σ) : Option τ := lim fun n => iterM b n s
theorem loopM_of {σ τ : Type} {b : σ → Option (σ ⊕ τ)} {s : σ} {t : τ} {n : Nat} (h : iterM b n s = some t) : loopM b s = some t := by
  refine lim_of h fun m y hy => ?_
  have h1 := iterM_more h (Nat.le_max_left n m)
  rw [iterM_more hy (Nat.le_max_right n m)] at h1
  exact Option.some.inj h1
theorem loopM_some {σ τ : Type} {b : σ → Option (σ ⊕ τ)} {s : σ} {t : τ} (h : loopM b s = some t) : ∃ n, iterM b n s = some t := lim_some h
theorem loopM_next {σ τ : Type} {b : σ → Option (σ ⊕ τ)} {s s' : σ} (h : b s = some (.inl s')) : loopM b s = loopM b s' := by
  cases hl : loopM b s' with
  | some t =>
    obtain ⟨n, hn⟩ := loopM_some hl
    exact loopM_of (n := n + 1) (by simp only [iterM, h]; exact hn)
  | none =>
    cases hs : loopM b s with
    | none => rfl
    | some t =>
      obtain ⟨n, hn⟩ := loopM_some hs
      cases n with
      | zero => simp [iterM] at hn
      | succ n =>
        simp only [iterM, h] at hn
        rw [loopM_of hn] at hl
        cases hl
theorem loopM_end {σ τ : Type} {b : σ → Option (σ ⊕ τ)} {s : σ} {t : τ} (h : b s = some (.inr t)) : loopM b s = some t :=
  loopM_of (n := 1) (by simp only [iterM, h])
theorem loopM_run {σ τ : Type} {b : σ → Option (σ ⊕ τ)} {t : τ} (st : Nat → σ) (n : Nat) (h : ∀ i, i < n → b (st i) = some (.inl (st (i + 1)))) (he : b (st n) = some (.inr t)) : ∀ i, i ≤ n → loopM b (st i) = some t := by
  intro i hi
  obtain ⟨d, rfl⟩ : ∃ d, n = i + d := ⟨n - i, by omega⟩
  induction d generalizing i with
  | zero => exact loopM_end he
  | succ d ih =>
    rw [loopM_next (h i (by omega)), ih (i + 1) (fun j hj => h j (by omega)) (by rw [show i + 1 + d = i + (d + 1) by omega]; exact he) (by omega)]
theorem loop_sound {σ τ : Type} {b : σ → Option (σ ⊕ τ)} {D : St → Option (Ex × St)} {tm : σ → St} {tx : τ → Ex × St}
    (h : ∀ s r, b s = some r → D (tm s) = some (match r with | .inl s' => (.normal, tm s') | .inr t => tx t)) (hx : ∀ t, (tx t).1 ≠ .normal) {s : σ} {t : τ} (hl : loopM b s = some t) : loopL D (tm s) = some (tx t) := by
  obtain ⟨n, hn⟩ := loopM_some hl
  induction n generalizing s with
  | zero => simp [iterM] at hn
  | succ n ih =>
    simp only [iterM] at hn
    cases hb : b s with
    | none => simp [hb] at hn
    | some q =>
      rw [hb] at hn
      have hd := h s q hb
      cases q with
      | inl s' =>
        have hl' := ih (loopM_of hn) hn
        obtain ⟨k, hk⟩ := loopL_some hl'
        refine loopL_of (n := k + 1) ?_
        simp only [iter, hd]
        exact hk
      | inr t' =>
        simp only [Option.some.injEq] at hn
        subst hn
        refine loopL_of (n := 1) ?_
        simp only [iter, hd]
        have := hx t'
        cases ht : tx t' with
        | mk e S => cases e with
          | normal => rw [ht] at this; exact absurd rfl this
          | exit id => rfl
          | ret => rfl
def LpOk (X : Ctx) (f n : Nat) (c : Code) (P : St → ResA (Ex × St)) : Prop := lid c = n ∧ ∀ S r, (P S).val = some r → loopL (den X (call X) f c) S = some r
def findLoop (n : Nat) : Code → Option Code
  | .seq a b => match findLoop n a with
    | some c => some c
    | none => findLoop n b
  | .cond _ a b => match findLoop n a with
    | some c => some c
    | none => findLoop n b
  | .block _ c => findLoop n c
  | .loop c => bif Nat.beq (lid c) n then some c else findLoop n c
  | _ => none
def loopCode (P : Program) (f n : Nat) : Code := match findLoop n (codeOf P f) with
  | some c => c
  | none => .skip
theorem fn_sound {X : Ctx} {K : KonC} {L : LoopC} {f : Nat} {args : List V} {cells : List Cell} {ρ : Type} {o : Option ρ} {enc : ρ → List Row × List Cell} (hp : X.prim f = none) (hK : KLe K.to (call X)) (hL : LOk X (call X) f L.to (loops (codeOf X.P f)))
    (h : bodyC X K L f args cells (fun a b => some (a, b)) = o.bind fun r => some (enc r)) {r : ρ} (hr : o = some r) : call X f args cells = some (enc r) := by
  refine call_ofC hp hK hL ?_
  rw [h, hr]
  rfl
theorem lp_sound {X : Ctx} {K : KonC} {L : LoopC} {f : Nat} {c : Code} {σ τ : Type} {b : σ → Option (σ ⊕ τ)} {tm : σ → St} {tx : τ → Ex × St} (hK : KLe K.to (call X)) (hL : LOk X (call X) f L.to (loops c))
    (h : ∀ s, denC X K L f c (tm s) (fun a b => some (a, b)) = (b s).bind fun r => some (match r with | .inl s' => (.normal, tm s') | .inr t => tx t)) (hx : ∀ t, (tx t).1 ≠ .normal) {s : σ} {t : τ} (hl : loopM b s = some t) :
    loopL (den X (call X) f c) (tm s) = some (tx t) := by
  refine loop_sound (fun s r hr => ?_) hx hl
  refine den_ofC hK hL ?_
  rw [h s, hr]
  rfl
theorem bif_bind {α β : Type} (c : Bool) (a b : Option α) (f : α → Option β) : (bif c then a else b).bind f = bif c then a.bind f else b.bind f := by cases c <;> rfl
theorem bind_bind {α β γ : Type} (o : Option α) (g : α → Option β) (f : β → Option γ) : (o.bind g).bind f = o.bind fun x => (g x).bind f := by cases o <;> rfl
theorem some_bind {α β : Type} (a : α) (f : α → Option β) : (some a).bind f = f a := rfl
theorem none_bind {α β : Type} (f : α → Option β) : (none : Option α).bind f = none := rfl
def optE {α β : Type} (o : Option α) (n : Option β) (f : α → Option β) : Option β := match o with
  | none => n
  | some x => f x
def letE {α β : Type} (x : α) (f : α → Option β) : Option β := f x
theorem optE_bind {α β γ : Type} (o : Option α) (n : Option β) (f : α → Option β) (g : β → Option γ) : (optE o n f).bind g = optE o (n.bind g) fun x => (f x).bind g := by cases o <;> rfl
theorem sumE_bind {α β γ δ : Type} (r : α ⊕ β) (f : α → Option γ) (g : β → Option γ) (k : γ → Option δ) : (sumE r f g).bind k = sumE r (fun x => (f x).bind k) (fun y => (g y).bind k) := by cases r <;> rfl
theorem letE_bind {α β γ : Type} (x : α) (f : α → Option β) (g : β → Option γ) : (letE x f).bind g = letE x fun y => (f y).bind g := rfl
theorem LpOk.at {X : Ctx} {f n : Nat} {c : Code} {P : St → ResA (Ex × St)} {L : LoopC} (h : LpOk X f n c P) (hL : ∀ S, L n S = P S) : ∀ S r, L.to (lid c) S = some r → loopL (den X (call X) f c) S = some r := by
  intro S r hr
  rw [h.1, LoopC.to, hL] at hr
  exact h.2 S r hr
end Go.Vm

namespace Go.Vm
open Go
theorem wrap_ok {n : Int} (h1 : -9223372036854775808 ≤ n) (h2 : n ≤ 9223372036854775807) : IntKind.i64.wrap n = n := IntWalk.i64_in n ⟨h1, h2⟩
theorem idx_map {α β : Type} (f : α → β) (l : List α) (i : Int) : idx (l.map f) i = (idx l i).map f := by
  unfold idx
  cases decide (0 ≤ i) <;> simp
theorem idx_nat {α : Type} (l : List α) (i : Nat) : idx l (i : Int) = l[i]? := by
  simp [idx]
structure Nd where
  kind : Int
  op : Int
  text : List UInt8
  other : List UInt8
  kids : List Int
  deriving DecidableEq, Inhabited
def encI (l : List Int) : List Row := l.map fun k => [.int .i64 k]
def encS (l : List (List UInt8)) : List Row := l.map fun s => [.str s]
def encN (o : Bool) (n : Nd) : Row := [.int .i64 n.kind, .int .i64 n.op, .str n.text, .str n.other, .sl o 1 (encI n.kids)]
def encNs (o : Bool) (l : List Nd) : List Row := l.map (encN o)
structure Tk where
  kind : Int
  text : List UInt8
  at_ : Int
  deriving DecidableEq, Inhabited
def encT (n : Tk) : Row := [.int .i64 n.kind, .str n.text, .int .i64 n.at_]
def encTs (l : List Tk) : List Row := l.map encT
section
variable (o : Bool) (n : Nd) (l : List Nd) (k : List Int) (i : Int) (t : Tk) (ts : List Tk)
@[simp] theorem encI_length : (encI k).length = k.length := by simp [encI]
@[simp] theorem encNs_length : (encNs o l).length = l.length := by simp [encNs]
@[simp] theorem encTs_length : (encTs ts).length = ts.length := by simp [encTs]
@[simp] theorem idx_encI : idx (encI k) i = (idx k i).map fun k => [D.int .i64 k] := idx_map _ _ _
@[simp] theorem idx_encNs : idx (encNs o l) i = (idx l i).map (encN o) := idx_map _ _ _
@[simp] theorem idx_encTs : idx (encTs ts) i = (idx ts i).map encT := idx_map _ _ _
@[simp] theorem get_encI (j : Nat) : (encI k)[j]? = (k[j]?).map fun k => [D.int .i64 k] := by simp [encI]
@[simp] theorem get_encNs (j : Nat) : (encNs o l)[j]? = (l[j]?).map (encN o) := by simp [encNs]
@[simp] theorem get_encTs (j : Nat) : (encTs ts)[j]? = (ts[j]?).map encT := by simp [encTs]
@[simp] theorem cN0 : cInt .i64 (encN o n) 0 = some n.kind := rfl
@[simp] theorem cN1 : cInt .i64 (encN o n) 1 = some n.op := rfl
@[simp] theorem cN2 : cStr (encN o n) 2 = some n.text := rfl
@[simp] theorem cN3 : cStr (encN o n) 3 = some n.other := rfl
@[simp] theorem cN4 : cSl 1 (encN o n) 4 = some (encI n.kids) := rfl
@[simp] theorem cT0 : cInt .i64 (encT t) 0 = some t.kind := rfl
@[simp] theorem cT1 : cStr (encT t) 1 = some t.text := rfl
@[simp] theorem cT2 : cInt .i64 (encT t) 2 = some t.at_ := rfl
@[simp] theorem cI0 : cInt .i64 [D.int .i64 i] 0 = some i := rfl
@[simp] theorem fz_encI : fzRows (encI k) = encI k := by
  induction k with
  | nil => rfl
  | cons x l ih =>
    simp only [encI, List.map_cons, fzRows] at ih ⊢
    rw [ih]
    rfl
@[simp] theorem fz_encNs : fzRows (encNs o l) = encNs false l := by
  induction l with
  | nil => rfl
  | cons x l ih =>
    simp only [encNs, List.map_cons, fzRows] at ih ⊢
    rw [ih]
    simp [encN, fzRow, D.fz, fz_encI]
@[simp] theorem fz_encTs : fzRows (encTs ts) = encTs ts := by
  induction ts with
  | nil => rfl
  | cons x l ih =>
    simp only [encTs, List.map_cons, fzRows] at ih ⊢
    rw [ih]
    simp [encT, fzRow, D.fz]
@[simp] theorem flat_encI : flatRows (encI k) = true := by
  simp only [flatRows, encI, List.all_map, List.all_eq_true]
  intro x _
  rfl
theorem encI_set (j : Nat) : (encI k).set j [D.int .i64 i] = encI (k.set j i) := by simp [encI, List.map_set]
end
def I64 (n : Int) : Prop := -9223372036854775808 ≤ n ∧ n ≤ 9223372036854775807
structure Fit (n : Nd) : Prop where
  kind : I64 n.kind
  op : I64 n.op
  text : n.text.length ≤ maxLen
  other : n.other.length ≤ maxLen
  kids : n.kids.length ≤ maxLen
  kid : ∀ k, k ∈ n.kids → I64 k
structure FitT (n : Tk) : Prop where
  kind : I64 n.kind
  text : n.text.length ≤ maxLen
  at_ : I64 n.at_
def foldE {α ω τ : Type} (f : ω → α → ω ⊕ τ) (fin : ω → τ) : List α → ω → τ
  | [], w => fin w
  | x :: l, w => match f w x with
    | .inl w' => foldE f fin l w'
    | .inr t => t
theorem loopM_list {σ τ α ω : Type} (b : σ → Option (σ ⊕ τ)) (l : List α) (st : Nat → ω → σ) (f : ω → α → ω ⊕ τ) (fin : ω → τ) (I : Nat → ω → Prop)
    (hstep : ∀ i x w, l[i]? = some x → I i w → b (st i w) = some (match f w x with | .inl w' => .inl (st (i + 1) w') | .inr t => .inr t))
    (hI : ∀ i x w w', l[i]? = some x → I i w → f w x = .inl w' → I (i + 1) w')
    (hend : ∀ w, I l.length w → b (st l.length w) = some (.inr (fin w))) (w : ω) (h0 : I 0 w) : loopM b (st 0 w) = some (foldE f fin l w) := by
  have key : ∀ (t : List α) (i : Nat) (w : ω), l.drop i = t → i ≤ l.length → I i w → loopM b (st i w) = some (foldE f fin t w) := by
    intro t
    induction t with
    | nil =>
      intro i w hd hi hI'
      have : i = l.length := by
        have := congrArg List.length hd
        simp at this
        omega
      subst this
      exact loopM_end (hend w hI')
    | cons x t ih =>
      intro i w hd hi hI'
      have hx : l[i]? = some x := by
        have : (l.drop i)[0]? = some x := by rw [hd]; rfl
        simpa using this
      have hlt : i < l.length := (List.getElem?_eq_some_iff.1 hx).1
      have hd' : l.drop (i + 1) = t := by
        rw [← List.drop_drop, hd]
        rfl
      have hs := hstep i x w hx hI'
      simp only [foldE]
      cases hf : f w x with
      | inl w' =>
        rw [hf] at hs
        rw [loopM_next hs]
        exact ih (i + 1) w' hd' hlt (hI i x w w' hx hI' hf)
      | inr u =>
        rw [hf] at hs
        exact loopM_end hs
  exact key l 0 w rfl (Nat.zero_le _) h0
end Go.Vm

namespace Go.Vm
open Go
set_option linter.unusedVariables false
structure Pt (β : Type) where
  α : Type
  enc : α → β
  dec : β → Option α
  ok : ∀ b x, dec b = some x → b = enc x
noncomputable section
def pS : Pt V := ⟨List UInt8, fun s => .d (.str s), fun v => match v with | .d (.str s) => some s | _ => none, by
  intro b x h; split at h <;> simp_all⟩
def pK (k : IntKind) : Pt V := ⟨Int, fun n => .d (.int k n), fun v => match v with | .d (.int k' n) => (match decEq k' k with | .isTrue _ => some n | .isFalse _ => none) | _ => none, by
  intro b x h; split at h
  · split at h <;> simp_all
  · cases h⟩
def pI : Pt V := pK .i64
def pL (o : Bool) (s : Nat) : Pt V := ⟨List Row, fun r => .d (.sl o s r), fun v => match v with | .d (.sl o' s' r) => bif (o == o') && Nat.beq s s' then some r else none | _ => none, by
  intro b x h; split at h
  · rename_i o' s' r
    cases ho : (o == o') <;> cases hs : Nat.beq s s' <;> simp only [ho, hs, Bool.and_true, Bool.and_false, Bool.false_and, cond_true, cond_false, Option.some.injEq] at h
    all_goals first | cases h; done | skip
    cases h
    rw [beq_iff_eq] at ho
    rw [Nat.eq_of_beq_eq_true hs, ho]
  · cases h⟩
def pZ {β : Type} (v : β) (t : β → Bool) (h : ∀ b, t b = true → b = v) : Pt β := ⟨Unit, fun _ => v, fun b => bif t b then some () else none, by
  intro b x e
  cases ht : t b with
  | true => exact h b ht
  | false => rw [ht] at e; cases e⟩
def pNil (s : Nat) : Pt V := pZ (.nil s) (fun v => match v with | .nil t => Nat.beq s t | _ => false) (by
  intro b h; split at h
  · rw [Nat.eq_of_beq_eq_true h]
  · cases h)
theorem and2 {a b : Bool} (h : (a && b) = true) : a = true ∧ b = true := by simpa using h
def pO (r n : Nat) : Pt V := pZ (.own r n) (fun v => match v with | .own a b => Nat.beq r a && Nat.beq n b | _ => false) (by
  intro b h; split at h
  · obtain ⟨h1, h2⟩ := and2 h
    rw [Nat.eq_of_beq_eq_true h1, Nat.eq_of_beq_eq_true h2]
  · cases h)
def pP (r n : Nat) : Pt V := pZ (.ptr r n) (fun v => match v with | .ptr a b => Nat.beq r a && Nat.beq n b | _ => false) (by
  intro b h; split at h
  · obtain ⟨h1, h2⟩ := and2 h
    rw [Nat.eq_of_beq_eq_true h1, Nat.eq_of_beq_eq_true h2]
  · cases h)
def pCons {β : Type} (p : Pt β) (q : Pt (List β)) : Pt (List β) := ⟨p.α × q.α, fun x => p.enc x.1 :: q.enc x.2, fun l => match l with | a :: b => (match p.dec a with | some x => (match q.dec b with | some y => some (x, y) | none => none) | none => none) | [] => none, by
  intro b x h; split at h
  · split at h
    · rename_i hp
      split at h
      · rename_i hq
        cases h
        rw [p.ok _ _ hp, q.ok _ _ hq]
      · cases h
    · cases h
  · cases h⟩
def pEnd {β : Type} : Pt (List β) := pZ [] (fun l => match l with | [] => true | _ => false) (by intro b h; split at h <;> simp_all)
def pl {β : Type} (l : List (Pt β)) : Pt (List β) := List.rec pEnd (fun p _ q => pCons p q) l
def pClo (f : Nat) (a b : List (Pt V)) : Pt V := ⟨(pl a).α × (pl b).α, fun x => .clo f ((pl a).enc x.1) ((pl b).enc x.2), fun v => match v with | .clo g x y => bif Nat.beq f g then (match (pl a).dec x with | some x => (match (pl b).dec y with | some y => some (x, y) | none => none) | none => none) else none | _ => none, by
  intro v x h; split at h
  · rename_i g u w
    cases ht : Nat.beq f g with
    | false => rw [ht] at h; cases h
    | true =>
      rw [ht, cond_true] at h
      split at h
      · rename_i hp
        split at h
        · rename_i hq
          cases h
          rw [(pl a).ok _ _ hp, (pl b).ok _ _ hq, Nat.eq_of_beq_eq_true ht]
        · cases h
      · cases h
  · cases h⟩
def pAgg (a : List (Pt V)) : Pt V := ⟨(pl a).α, fun x => .agg ((pl a).enc x), fun v => match v with | .agg x => (pl a).dec x | _ => none, by
  intro v x h; split at h
  · rw [(pl a).ok _ _ h]
  · cases h⟩
def cB (t : TypeId) (a : List (Pt V)) : Pt Cell := ⟨(pl a).α, fun x => .box t ((pl a).enc x), fun v => match v with | .box u x => bif Nat.beq t u then (pl a).dec x else none | _ => none, by
  intro v x h; split at h
  · rename_i u y
    cases ht : Nat.beq t u with
    | false => rw [ht] at h; cases h
    | true =>
      rw [ht, cond_true] at h
      rw [(pl a).ok _ _ h, Nat.eq_of_beq_eq_true ht]
  · cases h⟩
def cA (z l : Bool) (n s : Nat) : Pt Cell := ⟨List Row, fun r => .arr z l n s r, fun v => match v with | .arr z' l' n' s' r => bif (z == z') && ((l == l') && (Nat.beq n n' && Nat.beq s s')) then some r else none | _ => none, by
  intro b x h; split at h
  · rename_i z' l' n' s' r
    cases ht : ((z == z') && ((l == l') && (Nat.beq n n' && Nat.beq s s'))) with
    | false => rw [ht] at h; cases h
    | true =>
      rw [ht] at h
      obtain ⟨h1, h2⟩ := and2 ht
      obtain ⟨h2, h3⟩ := and2 h2
      obtain ⟨h3, h4⟩ := and2 h3
      cases h
      rw [beq_iff_eq] at h1 h2
      rw [h1, h2, Nat.eq_of_beq_eq_true h3, Nat.eq_of_beq_eq_true h4]
  · cases h⟩
def pAt {β : Type} (n : Nat) (p : Pt β) : Pt (Nat × β) := ⟨p.α, fun x => (n, p.enc x), fun y => bif Nat.beq n y.1 then p.dec y.2 else none, by
  intro y x h
  cases ht : Nat.beq n y.1 with
  | false => rw [ht] at h; cases h
  | true =>
    rw [ht, cond_true] at h
    rw [← p.ok _ _ h, Nat.eq_of_beq_eq_true ht]⟩
def pSt (t : List (Pt (Nat × V))) (m : List (Pt (Nat × Cell))) : Pt St := ⟨(pl t).α × (pl m).α, fun x => ⟨(pl t).enc x.1, (pl m).enc x.2⟩, fun S => match (pl t).dec S.tm with | some x => (match (pl m).dec S.mem with | some y => some (x, y) | none => none) | none => none, by
  intro S x h; split at h
  · rename_i hp
    split at h
    · rename_i hq
      cases h
      cases S
      have e1 := (pl t).ok _ _ hp
      have e2 := (pl m).ok _ _ hq
      simp only at e1 e2
      rw [e1, e2]
    · cases h
  · cases h⟩
def pOr {β : Type} (p q : Pt β) : Pt β := ⟨p.α ⊕ q.α, fun x => match x with | .inl x => p.enc x | .inr y => q.enc y, fun b => match p.dec b with | some x => some (.inl x) | none => (match q.dec b with | some y => some (.inr y) | none => none), by
  intro b x h; split at h
  · rename_i hp
    cases h
    exact p.ok _ _ hp
  · split at h
    · rename_i hq
      cases h
      exact q.ok _ _ hq
    · cases h⟩
structure Sig where
  f : Nat
  p : Pt (List V)
  q : Pt (List Cell)
  ρ : Type
  enc : ρ → List Row × List Cell
@[reducible] def sg (f : Nat) (a : List (Pt V)) (c : List (Pt Cell)) {ρ : Type} (enc : ρ → List Row × List Cell) : Sig := ⟨f, pl a, pl c, ρ, enc⟩
abbrev Sig.α (S : Sig) : Type := S.p.α × S.q.α
def Sig.ok (S : Sig) (X : Ctx) (o : S.α → Option S.ρ) : Prop := ∀ x r, o x = some r → call X S.f (S.p.enc x.1) (S.q.enc x.2) = some (S.enc r)
structure FE (X : Ctx) where
  f : Nat
  P : List V → List Cell → Option (Res (List Row × List Cell))
  ok : ∀ a c q r, P a c = some q → q.val = some r → call X f a c = some r
def fe {X : Ctx} {S : Sig} {o : S.α → Option S.ρ} (h : S.ok X o) : FE X := ⟨S.f, fun a c => match S.p.dec a with | some x => (match S.q.dec c with | some y => some ⟨S.ρ, o (x, y), S.enc⟩ | none => none) | none => none, by
  intro a c q r hq hr
  split at hq
  · rename_i x hx
    split at hq
    · rename_i y hy
      cases hq
      obtain ⟨z, hz, rfl⟩ := Res.val_some hr
      rw [S.p.ok _ _ hx, S.q.ok _ _ hy]
      exact h (x, y) z hz
    · cases hq
  · cases hq⟩
def kt {X : Ctx} (l : List (FE X)) : KonC := List.rec (fun _ _ _ => .none) (fun e _ K g a c => bif Nat.beq g e.f then (match e.P a c with | some r => r | none => K g a c) else K g a c) l
theorem kt_ok {X : Ctx} (l : List (FE X)) : KLe (kt l).to (call X) := by
  induction l with
  | nil => exact fun _ _ _ _ h => by simp [KonC.to, kt, Res.none, Res.val] at h
  | cons e l ih =>
    intro g a c r hr
    have hr' : (bif Nat.beq g e.f then (match e.P a c with | some r => r | none => kt l g a c) else kt l g a c).val = some r := hr
    by_cases h : g = e.f
    · subst h
      simp only [Nat.beq_refl, cond_true] at hr'
      split at hr'
      · rename_i q hq
        exact e.ok a c q r hq hr'
      · exact ih _ a c r hr'
    · rw [beq_no h] at hr'
      exact ih g a c r hr'
structure LE (X : Ctx) (f : Nat) where
  n : Nat
  c : Code
  P : St → Option (ResA (Ex × St))
  hn : lid c = n
  ok : ∀ S q r, P S = some q → q.val = some r → loopL (den X (call X) f c) S = some r
def lt {X : Ctx} {f : Nat} (l : List (LE X f)) : LoopC := List.rec (fun _ _ => .none) (fun e _ L n S => bif Nat.beq n e.n then (match e.P S with | some r => r | none => .none) else L n S) l
def apart (l : List Nat) : Bool := match l with
  | [] => true
  | x :: l => l.all (fun y => !(Nat.beq x y)) && apart l
theorem lt_one {X : Ctx} {f : Nat} : ∀ (l : List (LE X f)), apart (l.map LE.n) = true → ∀ e, e ∈ l → ∀ S r, (lt l e.n S).val = some r → loopL (den X (call X) f e.c) S = some r
  | [], _, e, h, _, _, _ => by cases h
  | d :: l, hd, e, he, S, r, hr => by
    have hr' : (bif Nat.beq e.n d.n then (match d.P S with | some r => r | none => .none) else lt l e.n S).val = some r := hr
    simp only [List.map_cons, apart, Bool.and_eq_true] at hd
    rcases List.mem_cons.1 he with rfl | he
    · simp only [Nat.beq_refl, cond_true] at hr'
      split at hr'
      · rename_i q hq
        exact e.ok S q r hq hr'
      · simp [ResA.none, ResA.val] at hr'
    · have h1 := List.all_eq_true.1 hd.1 e.n (List.mem_map_of_mem he)
      have h2 : e.n ≠ d.n := by
        intro h
        rw [h, Nat.beq_refl] at h1
        cases h1
      rw [beq_no h2] at hr'
      exact lt_one l hd.2 e he S r hr'
theorem lt_ok {X : Ctx} {f : Nat} {l : List (LE X f)} {cs : List Code} (h : cs = l.map LE.c) (hd : apart (l.map LE.n) = true) : LOk X (call X) f (lt l).to cs := by
  intro c hc S r hr
  rw [h] at hc
  obtain ⟨e, he, rfl⟩ := List.mem_map.1 hc
  rw [e.hn] at hr
  exact lt_one l hd e he S r hr
theorem fnS {X : Ctx} {S : Sig} {o : S.α → Option S.ρ} (C : ∀ {R : Type}, S.α → (S.ρ → Option R) → Option R) (K : List (FE X)) (L : List (LE X S.f)) (hn : ∀ {R : Type} x (k : S.ρ → Option R), C x k = (C x some).bind k)
    (hE : ∀ {R : Type} x (k : List Row → List Cell → Option R), bodyC X (kt K) (lt L) S.f (S.p.enc x.1) (S.q.enc x.2) k = C x (fun r => k (S.enc r).1 (S.enc r).2) := by intros; kernel_rfl)
    (hL : loops (codeOf X.P S.f) = L.map LE.c := by kernel_rfl) (hd : apart (L.map LE.n) = true := by kernel_rfl) (hp : X.prim S.f = none := by kernel_rfl) (ho : ∀ x, o x = C x some := by intros; rfl) : S.ok X o := by
  intro x r h
  rw [ho] at h
  exact fn_sound hp (kt_ok K) (lt_ok hL hd) (by rw [hE, hn]) h
theorem Sig.lim {X : Ctx} {S : Sig} {o : Nat → S.α → Option S.ρ} (h : ∀ n, S.ok X (o n)) : S.ok X fun x => Vm.lim fun n => o n x := by
  intro x r hr
  obtain ⟨n, hn⟩ := lim_some hr
  exact h n x r hn
theorem Sig.zero {X : Ctx} {S : Sig} : S.ok X fun _ => none := fun _ _ h => by cases h
theorem Sig.lim_of {X : Ctx} {S : Sig} {o : Nat → S.α → Option S.ρ} (h : ∀ n, S.ok X (o n)) (hi : ∀ a b, S.enc a = S.enc b → a = b) {x : S.α} {n : Nat} {r : S.ρ} (hr : o n x = some r) : (Vm.lim fun n => o n x) = some r := by
  refine Vm.lim_of hr fun m y hy => ?_
  have h1 := h n x r hr
  have h2 := h m x y hy
  rw [h1] at h2
  exact (hi _ _ (Option.some.inj h2)).symm
theorem Sig.prim {X : Ctx} {S : Sig} {o : S.α → Option S.ρ} {p : List V → List Cell → Option (List Row × List Cell)} (h : ∀ x, p (S.p.enc x.1) (S.q.enc x.2) = (o x).map S.enc := by intros; rfl) (hp : X.prim S.f = some p := by kernel_rfl) : S.ok X o := by
  intro x r hr
  exact call_of_prim hp (by rw [h, hr]; rfl)
def le {X : Ctx} {f : Nat} (n : Nat) (p : Pt St) {σ : Type} (v : p.α → σ) (g : p.α → σ → p.α) (A : p.α → Alt (Ex × St)) (C : ∀ {R : Type} (x : p.α), σ → (σ → Option R) → ((A x).T → Option R) → Option R) (K : List (FE X)) (L : List (LE X f))
    (hn : ∀ {R : Type} x s (kn : σ → Option R) (ke : (A x).T → Option R), C x s kn ke = (C x s (fun s => some (Sum.inl s)) (fun t => some (Sum.inr t))).bind fun r => match r with | .inl s => kn s | .inr t => ke t)
    (hE : ∀ {R : Type} x s (k : Ex → St → Option R), denC X (kt K) (lt L) f (loopCode X.P f n) (p.enc (g x s)) k = C x s (fun s => k .normal (p.enc (g x s))) (fun t => (A x).go t fun r => k r.1 r.2) := by intros; kernel_rfl)
    (hx : ∀ x t, ((A x).enc t).1 ≠ .normal := by first | (intro x t h; cases h; done) | (intro x t; rcases t with t | t <;> first | (intro h; cases h; done) | (rcases t with t | t <;> first | (intro h; cases h; done) | (rcases t with t | t <;> (intro h; cases h)))))
    (hv : ∀ x, g x (v x) = x := by first | (intros; rfl) | (rintro (_ | _) <;> rfl) | (rintro (_ | _ | _) <;> rfl) | (rintro (_ | _ | _ | _) <;> rfl))
    (hL : loops (loopCode X.P f n) = L.map LE.c := by kernel_rfl) (hd : apart (L.map LE.n) = true := by kernel_rfl) (hi : lid (loopCode X.P f n) = n := by kernel_rfl) : LE X f :=
  ⟨n, loopCode X.P f n, fun S => match p.dec S with | some x => some ⟨A x, loopM (fun s => C x s (fun s => some (Sum.inl s)) (fun t => some (Sum.inr t))) (v x)⟩ | none => none, hi, by
    intro S q r hq hr
    split at hq
    · rename_i x hp
      cases hq
      obtain ⟨t, ht, rfl⟩ := ResA.val_some hr
      rw [p.ok _ _ hp]
      have h := lp_sound (X := X) (f := f) (c := loopCode X.P f n) (K := kt K) (L := lt L) (tm := fun s => p.enc (g x s)) (tx := (A x).enc) (kt_ok K) (lt_ok hL hd) (fun s => by
        rw [hE, hn]
        congr 1
        funext r
        cases r
        · rfl
        · exact Alt.go_eq _ _ _) (hx x) ht
      rwa [hv] at h
    · cases hq⟩
theorem nb : (∀ (α β : Type) (c : Bool) (a b : Option α) (f : α → Option β), (bif c then a else b).bind f = bif c then a.bind f else b.bind f) ∧ (∀ (α β γ : Type) (o : Option α) (g : α → Option β) (f : β → Option γ), (o.bind g).bind f = o.bind fun x => (g x).bind f) ∧
    (∀ (α β : Type) (a : α) (f : α → Option β), (some a).bind f = f a) ∧ (∀ (α β : Type) (f : α → Option β), (none : Option α).bind f = none) ∧
    (∀ (α β γ : Type) (o : Option α) (n : Option β) (f : α → Option β) (g : β → Option γ), (optE o n f).bind g = optE o (n.bind g) fun x => (f x).bind g) ∧
    (∀ (α β γ δ : Type) (r : α ⊕ β) (f : α → Option γ) (g : β → Option γ) (k : γ → Option δ), (sumE r f g).bind k = sumE r (fun x => (f x).bind k) (fun y => (g y).bind k)) ∧
    (∀ (α β γ : Type) (x : α) (f : α → Option β) (g : β → Option γ), (letE x f).bind g = letE x fun y => (f y).bind g) :=
  ⟨fun _ _ => bif_bind, fun _ _ _ => bind_bind, fun _ _ => some_bind, fun _ _ => none_bind, fun _ _ _ => optE_bind, fun _ _ _ _ => sumE_bind, fun _ _ _ => letE_bind⟩
section
variable {α β ρ R : Type} {k : ρ → Option R}
theorem nbif {c : Bool} {x y : Option R} {u v : Option ρ} (h1 : x = u.bind k) (h2 : y = v.bind k) : (bif c then x else y) = (bif c then u else v).bind k := by cases c <;> assumption
theorem nbb {o : Option α} {f : α → Option R} {g : α → Option ρ} (h : ∀ a, f a = (g a).bind k) : o.bind f = (o.bind g).bind k := by cases o with
  | none => rfl
  | some a => exact h a
theorem nbo {o : Option α} {n : Option R} {m : Option ρ} {f : α → Option R} {g : α → Option ρ} (h1 : n = m.bind k) (h : ∀ a, f a = (g a).bind k) : optE o n f = (optE o m g).bind k := by rw [optE_bind, h1, funext h]
theorem nbs {o : α ⊕ β} {f : α → Option R} {g : β → Option R} {f' : α → Option ρ} {g' : β → Option ρ} (h1 : ∀ a, f a = (f' a).bind k) (h2 : ∀ a, g a = (g' a).bind k) : sumE o f g = (sumE o f' g').bind k := by rw [sumE_bind, funext h1, funext h2]
theorem nbl {x : α} {f : α → Option R} {g : α → Option ρ} (h : ∀ a, f a = (g a).bind k) : letE x f = (letE x g).bind k := by rw [letE_bind, funext h]
end
end
end Go.Vm

namespace Go.Vm
open Go
section
variable {X : Ctx} {base : Nat} {U : Nat → Prop} {w w' : World} {f : FuncId} {gargs gcells : List Value} {N1 N2 : List Nat} {P : Program}
theorem given_ro {args : List V} (hG : Given X base U w f args [] gargs gcells N1 N2) (hm : ∀ i, i < args.length → modeOf X.adv f i = 0) :
    gcells = [] ∧ N1 = [] ∧ N2 = [] ∧ simVs (impμ []) [] (view w U (· ∈ ([] : List Nat) ++ [])) args gargs := by
  obtain ⟨rfl, rfl⟩ := hG.cells
  have key : ∀ (args : List V) (i : Nat) (gs : List Value) (N : List Nat) (hv : View), (∀ j, i ≤ j → j < i + args.length → modeOf X.adv f j = 0) → mixS X.adv f (impμ []) (impMem 0 []) (heapOf w) hv i args gs N → N = [] ∧ simVs (impμ []) [] hv args gs := by
    intro args
    induction args with
    | nil =>
      intro i gs N hv _ h
      simp only [mixS] at h
      exact ⟨h.2, by simpa [simVs] using h.1⟩
    | cons a args ih =>
      intro i gs N hv hi h
      simp only [mixS, hi i (Nat.le_refl _) (by simp)] at h
      obtain ⟨g, gs', M1, M2, rfl, rfl, ⟨rfl, hq⟩, hr⟩ := h
      obtain ⟨rfl, hs⟩ := ih (i + 1) gs' M2 hv (fun j h1 h2 => hi j (by omega) (by simp only [List.length_cons]; omega)) hr
      exact ⟨rfl, by simp only [simVs]; exact ⟨g, gs', rfl, hq, hs⟩⟩
  obtain ⟨rfl, hs⟩ := key args 0 gargs N1 _ (fun j _ hj => hm j (by omega)) hG.args
  exact ⟨rfl, rfl, rfl, hs⟩
theorem simVs_strs {μ : Nat → Value} {m : Mem} {h : View} {a b : List UInt8} (q : simVs μ m h [.d (.str a), .d (.str b)] gargs) : gargs = [.string ⟨⟨a⟩⟩, .string ⟨⟨b⟩⟩] := by
  simp only [simVs, simV, ro] at q
  obtain ⟨g, gs, rfl, rfl, g', gs', rfl, rfl, rfl⟩ := q
  rfl
theorem did_scalar {t : TypeId} {x : D} {g : Value} (ht : aggT P t = false) (hx : ∀ H h, ow H h x g []) (hk : Keep [] w w') : Did P U w w' ([] ++ []) [t] [] [] [] [[x]] [g] [] [] := by
  refine ⟨hk, by simp, by simp, rfl, ⟨rfl, rfl⟩, ?_⟩
  simp only [retsS]
  refine ⟨_, _, _, _, [g], [], [], rfl, rfl, rfl, ?_, ?_, rfl, rfl, rfl, rfl⟩
  · rw [valOf, if_neg (by rw [ht]; simp)]
  · simp only [owRow]
    exact ⟨_, _, [], [], rfl, rfl, hx _ _, rfl⟩
end
end Go.Vm

namespace Go.Vm
open Go
inductive Tn where
  | mk (kind op : Int) (text other : List UInt8) (kids : List Tn)
mutual
def Tn.size : Tn → Nat
  | .mk _ _ _ _ ks => sizes ks + 1
def sizes : List Tn → Nat
  | [] => 0
  | t :: ts => t.size + sizes ts
end
def ends : List Tn → Nat → List Int
  | [], _ => []
  | t :: ts, b => ((b : Int) + t.size - 1) :: ends ts (b + t.size)
mutual
def Tn.flat : Tn → Nat → List Nd
  | .mk k o x y ks, b => flats ks b ++ [⟨k, o, x, y, ends ks b⟩]
def flats : List Tn → Nat → List Nd
  | [], _ => []
  | t :: ts, b => t.flat b ++ flats ts (b + t.size)
end
mutual
def Tn.row (w : Bool) : Tn → Row
  | .mk k o x y ks => [.int .i64 k, .int .i64 o, .str x, .str y, .sl w 5 (rowsT w ks)]
def rowsT (w : Bool) : List Tn → List Row
  | [] => []
  | t :: ts => t.row w :: rowsT w ts
end
mutual
def Tn.depth : Tn → Int
  | .mk _ _ _ _ ks => depths 0 ks + 1
def depths (a : Int) : List Tn → Int
  | [] => a
  | t :: ts => depths (bif decide (a < t.depth) then t.depth else a) ts
end
def Tn.kids : Tn → List Tn | .mk _ _ _ _ ks => ks
def Tn.kind : Tn → Int | .mk k _ _ _ _ => k
def Tn.op : Tn → Int | .mk _ o _ _ _ => o
def Tn.text : Tn → List UInt8 | .mk _ _ x _ _ => x
def Tn.other : Tn → List UInt8 | .mk _ _ _ y _ => y
theorem Tn.ind {P : Tn → Prop} (h : ∀ k o x y ks, (∀ t, t ∈ ks → P t) → P (.mk k o x y ks)) (t : Tn) : P t := by
  refine Tn.rec (motive_1 := P) (motive_2 := fun ks => ∀ t, t ∈ ks → P t) ?_ ?_ ?_ t
  · intro k o x y ks ih; exact h k o x y ks ih
  · intro t ht; cases ht
  · intro t ts h1 h2 u hu
    rcases List.mem_cons.1 hu with rfl | hu
    · exact h1
    · exact h2 u hu
theorem Tn.size_pos : ∀ t : Tn, 1 ≤ t.size
  | .mk _ _ _ _ ks => by rw [Tn.size]; omega
theorem Tn.size_kids (t : Tn) : t.size = sizes t.kids + 1 := by cases t; rfl
theorem sizes_append : ∀ a b : List Tn, sizes (a ++ b) = sizes a + sizes b
  | [], b => by simp [sizes]
  | t :: a, b => by rw [List.cons_append, sizes, sizes, sizes_append a b]; omega
theorem sizes_le : ∀ ks : List Tn, ks.length ≤ sizes ks
  | [] => Nat.le_refl _
  | t :: ts => by
    have := sizes_le ts
    have := t.size_pos
    rw [sizes, List.length_cons]
    omega
theorem sizes_mem : ∀ {ks : List Tn} {t : Tn}, t ∈ ks → t.size ≤ sizes ks
  | u :: ts, t, h => by
    rw [sizes]
    rcases List.mem_cons.1 h with rfl | h
    · omega
    · have := sizes_mem h
      omega
theorem sizes_reverse : ∀ a : List Tn, sizes a.reverse = sizes a
  | [] => rfl
  | t :: a => by
    rw [List.reverse_cons, sizes_append, sizes_reverse a, sizes, sizes, sizes]
    omega
theorem ends_length : ∀ (ks : List Tn) (b : Nat), (ends ks b).length = ks.length
  | [], _ => rfl
  | t :: ts, b => by rw [ends, List.length_cons, ends_length ts, List.length_cons]
theorem ends_append : ∀ (a c : List Tn) (b : Nat), ends (a ++ c) b = ends a b ++ ends c (b + sizes a)
  | [], c, b => by simp [ends, sizes]
  | t :: a, c, b => by
    rw [List.cons_append, ends, ends, ends_append a c, sizes, List.cons_append, Nat.add_assoc]
theorem flats_append : ∀ (a c : List Tn) (b : Nat), flats (a ++ c) b = flats a b ++ flats c (b + sizes a)
  | [], c, b => by simp [flats, sizes]
  | t :: a, c, b => by
    rw [List.cons_append, flats, flats, flats_append a c, sizes, List.append_assoc, Nat.add_assoc]
mutual
theorem Tn.flat_length : ∀ (t : Tn) (b : Nat), (t.flat b).length = t.size
  | .mk _ _ _ _ ks, b => by rw [Tn.flat, Tn.size, List.length_append, flats_length ks b]; rfl
theorem flats_length : ∀ (ks : List Tn) (b : Nat), (flats ks b).length = sizes ks
  | [], _ => rfl
  | t :: ts, b => by rw [flats, sizes, List.length_append, t.flat_length b, flats_length ts]
end
theorem ends_get {ks : List Tn} {b j : Nat} (h : j < ks.length) : (ends ks b)[j]? = some ((b : Int) + sizes (ks.take (j + 1)) - 1) := by
  induction ks generalizing b j with
  | nil => simp at h
  | cons t ts ih =>
    cases j with
    | zero => simp [ends, sizes]
    | succ j =>
      simp only [List.length_cons, Nat.add_lt_add_iff_right] at h
      rw [ends, List.getElem?_cons_succ, ih h, List.take_succ_cons, sizes]
      congr 1
      omega
def Nd.up (d : Int) (n : Nd) : Nd := { n with kids := n.kids.map (· + d) }
theorem ends_by : ∀ (ks : List Tn) (b c : Nat), ends ks c = (ends ks b).map (· + ((c : Int) - b))
  | [], _, _ => rfl
  | t :: ts, b, c => by
    rw [ends, ends, List.map_cons, ends_by ts (b + t.size) (c + t.size)]
    have e : (((c + t.size : Nat) : Int) - ((b + t.size : Nat) : Int)) = (c : Int) - b := by omega
    rw [e]
    congr 1
    omega
mutual
theorem Tn.flat_by : ∀ (t : Tn) (b c : Nat), t.flat c = (t.flat b).map (Nd.up ((c : Int) - b))
  | .mk k o x y ks, b, c => by
    rw [Tn.flat, Tn.flat, List.map_append, flats_by ks b c, ends_by ks b c]
    rfl
theorem flats_by : ∀ (ks : List Tn) (b c : Nat), flats ks c = (flats ks b).map (Nd.up ((c : Int) - b))
  | [], _, _ => rfl
  | t :: ts, b, c => by
    rw [flats, flats, List.map_append, t.flat_by b c, flats_by ts (b + t.size) (c + t.size)]
    have e : (((c + t.size : Nat) : Int) - ((b + t.size : Nat) : Int)) = (c : Int) - b := by omega
    rw [e]
end
def Lies (l : List Nd) (b : Nat) (t : Tn) : Prop := ∃ pre post, l = pre ++ (t.flat b ++ post) ∧ pre.length = b
theorem Lies.whole (t : Tn) : Lies (t.flat 0) 0 t := ⟨[], [], by simp, rfl⟩
theorem Lies.root {l : List Nd} {b : Nat} {k o : Int} {x y : List UInt8} {ks : List Tn} (h : Lies l b (.mk k o x y ks)) : l[b + sizes ks]? = some ⟨k, o, x, y, ends ks b⟩ := by
  obtain ⟨pre, post, rfl, rfl⟩ := h
  rw [Tn.flat, List.getElem?_append_right (by omega), List.append_assoc, List.getElem?_append_right (by rw [flats_length]; omega), flats_length]
  simp
theorem Lies.kid {l : List Nd} {b : Nat} {k o : Int} {x y : List UInt8} {a c : List Tn} {t : Tn} (h : Lies l b (.mk k o x y (a ++ t :: c))) : Lies l (b + sizes a) t := by
  obtain ⟨pre, post, rfl, rfl⟩ := h
  refine ⟨pre ++ flats a pre.length, flats c (pre.length + sizes a + t.size) ++ [⟨k, o, x, y, ends (a ++ t :: c) pre.length⟩] ++ post, ?_, by rw [List.length_append, flats_length]⟩
  rw [Tn.flat, flats_append, flats]
  simp only [List.append_assoc]
theorem Lies.lt {l : List Nd} {b : Nat} {t : Tn} (h : Lies l b t) : b + t.size ≤ l.length := by
  obtain ⟨pre, post, rfl, rfl⟩ := h
  simp only [List.length_append, t.flat_length]
  omega
theorem Lies.part {l : List Nd} {b : Nat} {t : Tn} (h : Lies l b t) : (l.drop b).take t.size = t.flat b := by
  obtain ⟨pre, post, rfl, rfl⟩ := h
  rw [List.drop_left, ← t.flat_length pre.length, List.take_left]
def walkKids (st : List Int) : List Int → Int → Option Int
  | [], at_ => some at_
  | k :: ks, at_ => if at_ < 0 ∨ k ≠ at_ then none else walkKids st ks ((st[k.toNat]?.getD 0) - 1)
def startsL : List Int → List (List Int) → Option (List Int)
  | st, [] => some st
  | st, n :: l => match walkKids st n.reverse ((st.length : Int) - 1) with
    | none => none
    | some at_ => startsL (st ++ [at_ + 1]) l
def startsOk (l : List (List Int)) : Option (List Int) := if 1 ≤ l.length ∧ l.length ≤ 400 then startsL [] l else none
def ks (l : List Nd) : List (List Int) := l.map (·.kids)
def lshape (l : List Nd) : Bool := match startsOk (ks l) with
  | none => false
  | some st => st[l.length - 1]?.getD 0 == 0
theorem ks_length (l : List Nd) : (ks l).length = l.length := by simp [ks]
theorem ks_append (a b : List Nd) : ks (a ++ b) = ks a ++ ks b := by simp [ks]
def rootsT (st : List Int) : List Tn → Prop
  | [] => True
  | t :: ts => st[sizes (t :: ts) - 1]? = some (sizes ts : Int) ∧ rootsT st ts
theorem roots_ext {st u : List Int} : ∀ {ts : List Tn}, sizes ts ≤ st.length → (rootsT (st ++ u) ts ↔ rootsT st ts)
  | [], _ => Iff.rfl
  | t :: ts, h => by
    have hp := t.size_pos
    have h1 : sizes ts ≤ st.length := by rw [sizes] at h; omega
    rw [rootsT, rootsT, roots_ext h1, List.getElem?_append_left (by rw [sizes] at h ⊢; omega)]
theorem walk_roots {st : List Int} : ∀ {ks : List Int} {ts : List Tn} {a : Int}, rootsT st ts → walkKids st ks ((sizes ts : Int) - 1) = some a →
    ∃ u v, ts = u ++ v ∧ ks.reverse = ends u.reverse (sizes v) ∧ a = (sizes v : Int) - 1
  | [], ts, a, _, h => by
    rw [walkKids] at h
    cases h
    exact ⟨[], ts, rfl, rfl, rfl⟩
  | k :: ks, [], a, _, h => by
    rw [walkKids, if_pos (.inl (by simp [sizes]))] at h
    cases h
  | k :: ks, t :: ts, a, hr, h => by
    have hp := t.size_pos
    have hs : sizes (t :: ts) = t.size + sizes ts := by rw [sizes]
    rw [walkKids] at h
    split at h
    · cases h
    · rename_i hc
      have hk : k = (sizes (t :: ts) : Int) - 1 := by omega
      have hk' : k.toNat = sizes (t :: ts) - 1 := by omega
      rw [hk', hr.1, Option.getD_some] at h
      obtain ⟨u, v, rfl, h1, h2⟩ := walk_roots hr.2 h
      refine ⟨t :: u, v, rfl, ?_, h2⟩
      rw [List.reverse_cons, List.reverse_cons, h1, ends_append, sizes_reverse, hk, hs, sizes_append, ends, ends]
      congr 2
      omega
theorem roots_drop {st : List Int} : ∀ {u v : List Tn}, rootsT st (u ++ v) → rootsT st v
  | [], _, h => h
  | _ :: u, _, h => roots_drop (u := u) h.2
theorem starts_stack : ∀ (l pre : List Nd) (st r : List Int) (ts : List Tn), pre = flats ts.reverse 0 → st.length = pre.length → rootsT st ts → startsL st (ks l) = some r →
    ∃ us, pre ++ l = flats us.reverse 0 ∧ r.length = (pre ++ l).length ∧ rootsT r us
  | [], pre, st, r, ts, h1, h2, h3, h => by
    rw [show ks [] = [] from rfl, startsL] at h
    cases h
    exact ⟨ts, by simpa using h1, by simpa using h2, h3⟩
  | n :: l, pre, st, r, ts, h1, h2, h3, h => by
    have hk : ks (n :: l) = n.kids :: ks l := rfl
    have hpl : pre.length = sizes ts := by rw [h1, flats_length, sizes_reverse]
    rw [hk, startsL] at h
    split at h
    · cases h
    · rename_i a ha
      rw [h2, hpl] at ha
      obtain ⟨u, v, rfl, hu, rfl⟩ := walk_roots h3 ha
      rw [List.reverse_reverse] at hu
      have hz : sizes (Tn.mk n.kind n.op n.text n.other u.reverse :: v) = sizes u + 1 + sizes v := by rw [sizes, Tn.size, sizes_reverse]
      have := starts_stack l (pre ++ [n]) (st ++ [(sizes v : Int) - 1 + 1]) r (Tn.mk n.kind n.op n.text n.other u.reverse :: v) (by
        rw [h1, List.reverse_append, List.reverse_cons, flats_append, flats_append, flats, flats, Tn.flat, List.append_nil, List.append_assoc, sizes_reverse, Nat.zero_add, ← hu]) (by simp [h2]) (by
        refine ⟨?_, ?_⟩
        · rw [hz, List.getElem?_append_right (by rw [h2, hpl, sizes_append]; omega), h2, hpl, sizes_append]
          rw [show sizes u + 1 + sizes v - 1 - (sizes u + sizes v) = 0 by omega]
          simp
        · rw [roots_ext (by rw [h2, hpl, sizes_append]; omega)]
          exact roots_drop h3) h
      obtain ⟨us, k1, k2, k3⟩ := this
      exact ⟨us, by simpa using k1, by simpa using k2, k3⟩
theorem shape_tree {l : List Nd} (h : lshape l = true) : ∃ t : Tn, l = t.flat 0 ∧ t.size ≤ 400 := by
  unfold lshape at h
  cases hs : startsOk (ks l) with
  | none => rw [hs] at h; cases h
  | some r =>
    rw [hs] at h
    unfold startsOk at hs
    split at hs
    · rename_i hq
      rw [ks_length] at hq
      obtain ⟨us, k1, k2, k3⟩ := starts_stack l [] [] r [] rfl rfl trivial hs
      simp only [List.nil_append] at k1 k2
      have hl : l.length = sizes us := by rw [k1, flats_length, sizes_reverse]
      cases us with
      | nil => rw [sizes] at hl; omega
      | cons t ts =>
        rw [rootsT, ← hl] at k3
        simp only [k3.1, Option.getD_some, beq_iff_eq] at h
        have : ts = [] := by
          cases ts with
          | nil => rfl
          | cons u us =>
            have := u.size_pos
            rw [sizes] at h
            omega
        subst this
        refine ⟨t, by simpa [flats] using k1, ?_⟩
        rw [sizes, sizes] at hl
        omega
    · cases hs
mutual
def Tn.sts : Tn → Nat → List Int
  | .mk _ _ _ _ ks, b => stss ks b ++ [(b : Int)]
def stss : List Tn → Nat → List Int
  | [], _ => []
  | t :: ts, b => t.sts b ++ stss ts (b + t.size)
end
mutual
theorem Tn.sts_length : ∀ (t : Tn) (b : Nat), (t.sts b).length = t.size
  | .mk _ _ _ _ ks, b => by rw [Tn.sts, Tn.size, List.length_append, stss_length ks b]; rfl
theorem stss_length : ∀ (ks : List Tn) (b : Nat), (stss ks b).length = sizes ks
  | [], _ => rfl
  | t :: ts, b => by rw [stss, sizes, List.length_append, t.sts_length b, stss_length ts]
end
theorem Tn.sts_last : ∀ (t : Tn) (b : Nat), ∃ u, t.sts b = u ++ [(b : Int)] ∧ u.length = t.size - 1
  | .mk _ _ _ _ ks, b => ⟨stss ks b, by rw [Tn.sts], by rw [stss_length, Tn.size]; omega⟩
theorem walk_ends {st : List Int} {b : Nat} (hb : st.length = b) : ∀ (ks : List Tn) (u : List Int), walkKids (st ++ stss ks b ++ u) (ends ks b).reverse ((b : Int) + sizes ks - 1) = some ((b : Int) - 1) := by
  intro ks
  induction hn : ks.length generalizing ks with
  | zero =>
    intro u
    have : ks = [] := List.length_eq_zero_iff.1 hn
    subst this
    simp [ends, walkKids, sizes]
  | succ n ih =>
    intro u
    obtain ⟨ts, t, rfl⟩ : ∃ ts t, ks = ts ++ [t] := by
      have hne : ks ≠ [] := by intro e; simp [e] at hn
      exact ⟨ks.dropLast, ks.getLast hne, (List.dropLast_concat_getLast hne).symm⟩
    have hp := t.size_pos
    have hss : stss (ts ++ [t]) b = stss ts b ++ t.sts (b + sizes ts) := by
      have : ∀ (ts : List Tn) (b : Nat), stss (ts ++ [t]) b = stss ts b ++ t.sts (b + sizes ts) := by
        intro ts
        induction ts with
        | nil => intro b; simp [stss, sizes]
        | cons v vs ihv => intro b; rw [List.cons_append, stss, stss, ihv, sizes, List.append_assoc, Nat.add_assoc]
      exact this ts b
    have hsz : sizes (ts ++ [t]) = sizes ts + t.size := by rw [sizes_append, sizes, sizes]; omega
    rw [ends_append, List.reverse_append, ends, ends, List.reverse_singleton, List.singleton_append, walkKids, hsz]
    have hn' : ¬ ((b : Int) + ((sizes ts + t.size : Nat) : Int) - 1 < 0 ∨ ((b + sizes ts : Nat) : Int) + t.size - 1 ≠ (b : Int) + ((sizes ts + t.size : Nat) : Int) - 1) := by omega
    rw [if_neg hn']
    obtain ⟨w, hw, hwl⟩ := t.sts_last (b + sizes ts)
    have hget : (st ++ stss (ts ++ [t]) b ++ u)[(((b + sizes ts : Nat) : Int) + t.size - 1).toNat]? = some ((b + sizes ts : Nat) : Int) := by
      rw [hss, hw]
      have e : (((b + sizes ts : Nat) : Int) + t.size - 1).toNat = (st ++ stss ts b ++ w).length := by
        simp only [List.length_append, hb, stss_length, hwl]
        omega
      rw [e, show st ++ (stss ts b ++ (w ++ [((b + sizes ts : Nat) : Int)])) ++ u = (st ++ stss ts b ++ w) ++ (((b + sizes ts : Nat) : Int) :: u) by simp, List.getElem?_append_right (Nat.le_refl _)]
      simp
    rw [hget, Option.getD_some, hss, show st ++ (stss ts b ++ t.sts (b + sizes ts)) ++ u = st ++ stss ts b ++ (t.sts (b + sizes ts) ++ u) by simp]
    have := ih ts (by simpa using hn) (t.sts (b + sizes ts) ++ u)
    rw [← this]
    congr 1
mutual
theorem Tn.starts_flat : ∀ (t : Tn) (st : List Int) (l : List Nd), startsL st (ks (t.flat st.length ++ l)) = startsL (st ++ t.sts st.length) (ks l)
  | .mk k o x y us, st, l => by
    rw [Tn.flat, List.append_assoc, starts_flats us st]
    have e : ks ([⟨k, o, x, y, ends us st.length⟩] ++ l) = ends us st.length :: ks l := rfl
    have hw := walk_ends (st := st) rfl us []
    rw [List.append_nil] at hw
    rw [e, startsL, List.length_append, stss_length, Int.natCast_add, hw, Tn.sts]
    simp only
    rw [List.append_assoc]
    congr 3
    simp
theorem starts_flats : ∀ (us : List Tn) (st : List Int) (l : List Nd), startsL st (ks (flats us st.length ++ l)) = startsL (st ++ stss us st.length) (ks l)
  | [], st, l => by simp [flats, stss]
  | t :: us, st, l => by
    rw [flats, List.append_assoc, t.starts_flat st]
    have := starts_flats us (st ++ t.sts st.length) l
    rw [List.length_append, t.sts_length] at this
    rw [this, stss, List.append_assoc]
end
theorem tree_starts (t : Tn) : startsL [] (ks (t.flat 0)) = some (t.sts 0) := by
  have := t.starts_flat [] []
  simpa [ks, startsL] using this
theorem Lies.sts {l : List Nd} {t : Tn} (hl : l = t.flat 0) {b : Nat} {u : Tn} (h : Lies l b u) : (t.sts 0)[b + u.size - 1]? = some (b : Int) := by
  obtain ⟨pre, post, e, hb⟩ := h
  have h0 := tree_starts t
  rw [← hl, e, ks_append] at h0
  have key : ∀ (a c : List (List Int)) (st r : List Int), startsL st (a ++ c) = some r → ∃ m, startsL st a = some m ∧ startsL m c = some r ∧ m.length = st.length + a.length := by
    intro a
    induction a with
    | nil => intro c st r h; exact ⟨st, rfl, h, by simp⟩
    | cons x a ih =>
      intro c st r h
      rw [List.cons_append, startsL] at h
      rw [startsL]
      split at h
      · cases h
      · obtain ⟨m, k1, k2, k3⟩ := ih c _ r h
        exact ⟨m, k1, k2, by rw [k3]; simp; omega⟩
  obtain ⟨m, k1, k2, k3⟩ := key _ _ _ _ h0
  have hm : m.length = b := by rw [k3, ks_length, hb]; simp
  subst hm
  rw [u.starts_flat m post] at k2
  have pref : ∀ (a : List (List Int)) (st r : List Int), startsL st a = some r → ∃ w, r = st ++ w := by
    intro a
    induction a with
    | nil => intro st r h; cases h; exact ⟨[], by simp⟩
    | cons x a ih =>
      intro st r h
      rw [startsL] at h
      split at h
      · cases h
      · obtain ⟨w, hw⟩ := ih _ r h
        exact ⟨_, by rw [hw, List.append_assoc]⟩
  obtain ⟨w, hw⟩ := pref _ _ _ k2
  obtain ⟨v, hv, hvl⟩ := u.sts_last m.length
  have hp := u.size_pos
  rw [hw, hv, show m ++ (v ++ [(m.length : Int)]) ++ w = (m ++ v) ++ ((m.length : Int) :: w) by simp, show m.length + u.size - 1 = (m ++ v).length by rw [List.length_append, hvl]; omega, List.getElem?_append_right (Nat.le_refl _)]
  simp
theorem rowsT_map (w : Bool) : ∀ ts : List Tn, rowsT w ts = ts.map (Tn.row w)
  | [] => rfl
  | t :: ts => by rw [rowsT, rowsT_map w ts]; rfl
mutual
theorem fz_row (w : Bool) : ∀ t : Tn, fzRow (t.row w) = t.row false
  | .mk k o x y ts => by
    have := fz_rowsT w ts
    simp only [Tn.row, fzRow, D.fz, this]
theorem fz_rowsT (w : Bool) : ∀ ts : List Tn, fzRows (rowsT w ts) = rowsT false ts
  | [] => rfl
  | t :: ts => by rw [rowsT, fzRows, fz_row w t, fz_rowsT w ts, rowsT]
end
end Go.Vm

namespace Go.Vm
open Go
mutual
def tyD (P : Program) : Nat → TypeId → Row → Prop
  | 0, _, _ => False
  | n + 1, t, row => match P.underlying t with
    | some .bool => ∃ b, row = [.bool b]
    | some (.int k) => ∃ x, row = [.int k x] ∧ (Lit.int k x).wf = true
    | some .string => ∃ s, row = [.str s] ∧ s.length ≤ maxLen
    | some (.slice e) => ∃ rows, row = [.sl false (szT P e) rows] ∧ rows.length ≤ maxLen ∧ ∀ r, r ∈ rows → tyD P n e r
    | some (.struct fs) => tyFs P n fs.toList row
    | _ => False
def tyFs (P : Program) : Nat → List Field → Row → Prop
  | _, [], row => row = []
  | n, f :: fs, row => ∃ r1 r2, row = r1 ++ r2 ∧ tyD P n f.type r1 ∧ tyFs P n fs r2
end
def contig (P : Program) : Nat → List Field → Option Nat
  | o, [] => some o
  | o, f :: fs => bif Nat.beq f.offset o then contig P (o + P.cellsOf f.type) fs else none
def goodT (P : Program) : Nat → TypeId → Bool
  | 0, _ => false
  | n + 1, t => match P.underlying t with
    | some .bool | some (.int _) | some .string => true
    | some (.slice e) => goodT P n e && Nat.ble 1 (szT P e)
    | some (.struct fs) => (match contig P 0 fs.toList with | some o => Nat.beq o (P.cellsOf t) | none => false) && fs.toList.all fun f => goodT P n f.type
    | _ => false
theorem szT_cells (P : Program) (t : TypeId) : szT P t = P.cellsOf t := by
  unfold szT Program.cellsOf
  cases P.info? t <;> rfl
theorem mapM_get {α β : Type} {f : α → Option β} : ∀ {l : List α} {r : List β}, l.mapM f = some r → r.length = l.length ∧ ∀ (i : Nat) x, l[i]? = some x → ∃ y, f x = some y ∧ r[i]? = some y
  | [], r, h => by
    simp at h
    subst h
    exact ⟨rfl, fun i x h => by simp at h⟩
  | a :: l, r, h => by
    rw [List.mapM_cons] at h
    simp only [Option.bind_eq_bind, Option.bind_eq_some_iff, Option.pure_def, Option.some.injEq] at h
    obtain ⟨y, h1, r', h2, rfl⟩ := h
    obtain ⟨h3, h4⟩ := mapM_get h2
    refine ⟨by simp [h3], fun i x hx => ?_⟩
    cases i with
    | zero =>
      simp only [List.getElem?_cons_zero, Option.some.injEq] at hx
      subst hx
      exact ⟨y, h1, rfl⟩
    | succ i => simpa using h4 i x (by simpa using hx)
theorem list_of {α : Type} {p : Nat → α → Prop} : ∀ (n k : Nat), (∀ i, i < n → ∃ x, p (k + i) x) → ∃ l : List α, l.length = n ∧ ∀ (i : Nat) x, l[i]? = some x → p (k + i) x
  | 0, _, _ => ⟨[], rfl, fun i x h => by simp at h⟩
  | n + 1, k, h => by
    obtain ⟨x, hx⟩ := h 0 (by omega)
    obtain ⟨l, h1, h2⟩ := list_of n (k + 1) (fun i hi => by
      have := h (i + 1) (by omega)
      rwa [show k + (i + 1) = k + 1 + i by omega] at this)
    refine ⟨x :: l, by simp [h1], fun i y hy => ?_⟩
    cases i with
    | zero =>
      simp only [List.getElem?_cons_zero, Option.some.injEq] at hy
      subst hy
      exact hx
    | succ i =>
      have := h2 i y (by simpa using hy)
      rwa [show k + 1 + i = k + (i + 1) by omega] at this
theorem roRow_of {h : View} : ∀ (r : Row) (b o : Nat) (cs : List Value), (∀ (j : Nat) v, cs[j]? = some v → h b (o + j) = some v) → seenRow h r cs → roRow h r b o
  | [], _, _, _, _, _ => trivial
  | x :: r, b, o, cs, hc, ⟨v, cs', e, h1, h2⟩ => by
    subst e
    exact ⟨⟨v, by simpa using hc 0 v rfl, h1⟩, roRow_of r b (o + 1) cs' (fun j u hj => by
      have := hc (j + 1) u (by simpa using hj)
      rwa [show o + (j + 1) = o + 1 + j by omega] at this) h2⟩
theorem roRows_of {h : View} {s b : Nat} : ∀ (rs : List Row) (o : Nat), (∀ (i : Nat) r, rs[i]? = some r → r.length = s ∧ roRow h r b (o + i * s)) → roRows h s rs b o
  | [], _, _ => trivial
  | r :: rs, o, hr => by
    obtain ⟨h1, h2⟩ := hr 0 r rfl
    refine ⟨h1, by simpa using h2, roRows_of rs (o + s) fun i q hq => ?_⟩
    obtain ⟨h3, h4⟩ := hr (i + 1) q (by simpa using hq)
    refine ⟨h3, ?_⟩
    rwa [show o + (i + 1) * s = o + s + i * s by rw [Nat.succ_mul]; omega] at h4
theorem seenRow_app {h : View} : ∀ {r1 r2 : Row} {c1 c2 : List Value}, seenRow h r1 c1 → r1.length = c1.length → seenRow h r2 c2 → seenRow h (r1 ++ r2) (c1 ++ c2)
  | [], r2, c1, c2, _, hl, h2 => by
    have : c1 = [] := List.length_eq_zero_iff.1 hl.symm
    subst this
    exact h2
  | x :: r1, r2, _, c2, ⟨v, cs', e, h1, h3⟩, hl, h2 => by
    subst e
    exact ⟨v, cs' ++ c2, rfl, h1, seenRow_app h3 (by simpa using hl) h2⟩
theorem cells?_get {w : World} {base : Nat} {a : Addr} {n : Nat} {cs : List Value} (h : w.cells? base a n = some cs) : cs.length = n ∧ ∀ j, j < n → ∃ v, w.cell? (a.add j) = some v ∧ cs[j]? = some v := by
  unfold World.cells? at h
  split at h
  · obtain ⟨h1, h2⟩ := mapM_get h
    rw [List.length_range] at h1
    refine ⟨h1, fun j hj => ?_⟩
    exact h2 j j (by simp [hj])
  · cases h
section
variable {H : Type} {enc : TypeId × Value → H} {P : Program} {w : World} {base : Nat} {spare : Nat → Bool} {held : Bool}
theorem fields_ro {n : Nat} (ih : ∀ (t : TypeId) (cs : List Value) (d : DataW H) (ps : List MemPlace), goodT P n t = true → DataW.trod enc P w base spare held n t cs = some (d, ps) → ∃ row : Row, row.length = cs.length ∧ tyD P n t row ∧ seenRow (full w) row cs) :
    ∀ (fs : List Field) (o tot : Nat) (cs : List Value) (xs : List (DataW H × List MemPlace)), contig P o fs = some tot → (fs.all fun f => goodT P n f.type) = true → tot ≤ cs.length →
      fs.mapM (fun f => DataW.trod enc P w base spare held n f.type ((cs.drop f.offset).take (P.cellsOf f.type))) = some xs →
      ∃ row : Row, row.length = tot - o ∧ o ≤ tot ∧ tyFs P n fs row ∧ seenRow (full w) row ((cs.drop o).take (tot - o))
  | [], o, tot, cs, xs, hc, _, _, _ => by
    simp only [contig, Option.some.injEq] at hc
    subst hc
    exact ⟨[], by simp, Nat.le_refl _, by simp [tyFs], trivial⟩
  | f :: fs, o, tot, cs, xs, hc, hg, hle, hm => by
    simp only [contig] at hc
    cases hb : Nat.beq f.offset o with
    | false => simp [hb] at hc
    | true =>
      simp only [hb, cond_true] at hc
      have hbo := Nat.eq_of_beq_eq_true hb
      simp only [List.all_cons, Bool.and_eq_true] at hg
      rw [List.mapM_cons] at hm
      simp only [Option.bind_eq_bind, Option.bind_eq_some_iff, Option.pure_def, Option.some.injEq] at hm
      obtain ⟨y, h1, ys, h2, rfl⟩ := hm
      obtain ⟨row2, l2, le2, t2, s2⟩ := fields_ro ih fs _ tot cs ys hc hg.2 hle h2
      obtain ⟨row1, l1, t1, s1⟩ := ih _ _ y.1 y.2 hg.1 h1
      rw [hbo] at l1 s1
      have hl : ((cs.drop o).take (P.cellsOf f.type)).length = P.cellsOf f.type := by simp; omega
      rw [hl] at l1
      refine ⟨row1 ++ row2, by simp [l1, l2]; omega, by omega, by simp only [tyFs]; exact ⟨row1, row2, rfl, t1, t2⟩, ?_⟩
      have e : (cs.drop o).take (tot - o) = (cs.drop o).take (P.cellsOf f.type) ++ (cs.drop (o + P.cellsOf f.type)).take (tot - (o + P.cellsOf f.type)) := by
        rw [← List.drop_drop, show tot - o = P.cellsOf f.type + (tot - (o + P.cellsOf f.type)) by omega, List.take_add]
      rw [e]
      exact seenRow_app s1 (by rw [l1, hl]) s2
theorem trod_ro : ∀ (n : Nat) (t : TypeId) (cs : List Value) (d : DataW H) (ps : List MemPlace), goodT P n t = true → DataW.trod enc P w base spare held n t cs = some (d, ps) →
    ∃ row : Row, row.length = cs.length ∧ tyD P n t row ∧ seenRow (full w) row cs
  | 0, t, cs, d, ps, hg, _ => by simp [goodT] at hg
  | n + 1, t, cs, d, ps, hg, h => by
    simp only [goodT] at hg
    unfold DataW.trod at h
    cases hu : P.underlying t with
    | none => simp [hu] at hg
    | some D =>
      rw [hu] at hg h
      cases D with
      | bool =>
        split at h <;> simp_all
        rename_i b
        exact ⟨[.bool b], by simp, by simp [tyD, hu], _, _, rfl, rfl, trivial⟩
      | int k =>
        split at h <;> simp_all
        rename_i k' x _
        obtain ⟨⟨rfl, hw⟩, _⟩ := h
        refine ⟨[.int _ x], by simp, ?_, _, _, rfl, rfl, trivial⟩
        simp only [tyD, hu]
        exact ⟨x, rfl, hw⟩
      | string =>
        split at h <;> simp_all
        rename_i s
        refine ⟨[.str s.data.toList], by simp, ?_, _, _, rfl, ?_, trivial⟩
        · simp only [tyD, hu]
          refine ⟨_, rfl, ?_⟩
          simpa using h.1
        · simp [ro]
      | slice e =>
        simp only [Bool.and_eq_true] at hg
        split at h
        all_goals first
          | (rename_i e1; cases e1; done)
          | (cases h; done)
          | (exfalso; rename_i h21 _ _ _ _ _ _ _ _ _ _ _ _ _ _ _ _ _ _ _; exact h21 _ rfl)
          | skip
        case h_7 =>
          rename_i e1
          refine ⟨[.sl false (szT P e) []], rfl, ?_, _, _, rfl, ?_, trivial⟩
          · simp only [tyD, hu]
            exact ⟨[], rfl, by simp, fun r hr => by simp at hr⟩
          · simp only [ro]
            exact ⟨none, 0, rfl, by simp, fun hn => absurd rfl hn⟩
        case h_8 =>
          rename_i _ e' a len cap e1
          cases e1
          split at h
          · rename_i hb
            rw [Option.bind_eq_some_iff] at h
            obtain ⟨elems, hel, _⟩ := h
            obtain ⟨hl, hget⟩ := mapM_get hel
            rw [List.length_range] at hl
            have hs := szT_cells P e
            have hpos : 1 ≤ P.cellsOf e := by rw [← hs]; exact Nat.le_of_ble_eq_true hg.2
            have hrow : ∀ i, i < len → ∃ r : Row, tyD P n e r ∧ r.length = szT P e ∧ a.spot = none ∧ roRow (full w) r a.block (a.off + i * szT P e) := by
              intro i hi
              obtain ⟨y, hy, _⟩ := hget i i (by simp [hi])
              rw [Option.bind_eq_some_iff] at hy
              obtain ⟨cs, hcs, hy⟩ := hy
              obtain ⟨row, l1, t1, s1⟩ := trod_ro n e cs y.1 y.2 hg.1 hy
              obtain ⟨hcl, hcg⟩ := cells?_get hcs
              refine ⟨row, t1, by rw [l1, hcl, hs], ?_, ?_⟩
              · obtain ⟨y0, hy0, _⟩ := hget 0 0 (List.getElem?_range (by omega))
                rw [Option.bind_eq_some_iff] at hy0
                obtain ⟨cs0, hcs0, _⟩ := hy0
                obtain ⟨u, hu1, _⟩ := (cells?_get hcs0).2 0 (by omega)
                simpa [Addr.add] using World.cell?_spot hu1
              · refine roRow_of row a.block _ cs (fun j v hj => ?_) s1
                have hjn : j < P.cellsOf e := by have := (List.getElem?_eq_some_iff.1 hj).1; omega
                obtain ⟨u, hu1, hu2⟩ := hcg j hjn
                rw [hu2] at hj
                cases hj
                have hsp := World.cell?_spot hu1
                have e2 : ((a.add (i * P.cellsOf e)).add j) = ⟨a.block, a.off + i * szT P e + j, none⟩ := by
                  rw [hs]
                  generalize i * P.cellsOf e = q at hsp ⊢
                  obtain ⟨ab, ao, as_⟩ := a
                  rcases Nat.eq_zero_or_pos q with h1 | h1 <;> rcases Nat.eq_zero_or_pos j with h2 | h2
                  · subst h1; subst h2
                    have : as_ = none := hsp
                    subst this
                    rfl
                  · subst h1
                    simp [Addr.add, show j ≠ 0 by omega]
                  · subst h2
                    simp [Addr.add, show q ≠ 0 by omega]
                  · simp [Addr.add, show q ≠ 0 by omega, show j ≠ 0 by omega]
                rw [e2] at hu1
                exact hu1
            obtain ⟨rows, r1, r2⟩ := list_of (p := fun i (r : Row) => tyD P n e r ∧ r.length = szT P e ∧ a.spot = none ∧ roRow (full w) r a.block (a.off + i * szT P e)) len 0 (fun i hi => by rw [Nat.zero_add]; exact hrow i hi)
            refine ⟨[.sl false (szT P e) rows], rfl, ?_, _, _, rfl, ?_, trivial⟩
            · simp only [tyD, hu]
              refine ⟨rows, rfl, by omega, fun r hr => ?_⟩
              obtain ⟨i, hi⟩ := List.getElem?_of_mem hr
              exact (r2 i r hi).1
            · simp only [ro]
              refine ⟨some a, cap, by rw [r1], by omega, fun hn => ?_⟩
              have h0 : ∃ r0, rows[0]? = some r0 := by
                cases rows with
                | nil => exact absurd rfl hn
                | cons r0 _ => exact ⟨r0, rfl⟩
              obtain ⟨r0, h0⟩ := h0
              have hsp := (r2 0 r0 h0).2.2.1
              refine ⟨a.block, a.off, ?_, roRows_of rows a.off fun i r hr => ?_⟩
              · obtain ⟨ab, ao, as_⟩ := a
                simp only at hsp
                subst hsp
                rfl
              · obtain ⟨_, h2, _, h4⟩ := r2 i r hr
                rw [Nat.zero_add] at h4
                exact ⟨h2, h4⟩
          · cases h
      | struct fs =>
        simp only [Bool.and_eq_true] at hg
        split at h
        all_goals first
          | (rename_i e1; cases e1; done)
          | (cases h; done)
          | (exfalso; rename_i h21 _ _ _ _ _ _ _ _ _ _ _ _ _ _ _ _ _ _ _; exact h21 _ rfl)
          | skip
        case h_9 =>
          rename_i _ fs' cs' e1
          cases e1
          split at h
          · rename_i hcl
            rw [Option.map_eq_some_iff] at h
            obtain ⟨xs, hxs, _⟩ := h
            cases hc : contig P 0 fs.toList with
            | none => simp [hc] at hg
            | some tot =>
              simp only [hc] at hg
              have htot := Nat.eq_of_beq_eq_true hg.1
              obtain ⟨row, l1, _, t1, s1⟩ := fields_ro (fun t cs d ps hg h => trod_ro n t cs d ps hg h) fs.toList 0 tot _ xs hc hg.2 (by omega) hxs
              refine ⟨row, by rw [l1]; omega, by simp only [tyD, hu]; exact t1, ?_⟩
              simpa [htot, ← hcl] using s1
          · cases h
      | _ => simp at hg
end
end Go.Vm

namespace Go.Vm
open Go Go.RowKit
theorem simVs_mix {A : Adv} {f : Nat} (hm : A.move f = []) {μ : Nat → Value} {m : Mem} {H : Heap} {h : View} : ∀ {vs : List V} {gs : List Value} (i : Nat), simVs μ m h vs gs → mixS A f μ m H h i vs gs []
  | [], gs, i, q => by simp only [simVs] at q; simp only [mixS]; exact ⟨q, trivial⟩
  | v :: vs, gs, i, q => by
    simp only [simVs] at q
    obtain ⟨g, gs', rfl, h1, h2⟩ := q
    simp only [mixS]
    refine ⟨g, gs', [], [], rfl, rfl, ?_, simVs_mix hm (i + 1) h2⟩
    split
    · rename_i hmo
      simp only [modeOf, hm, mem?, cond_false] at hmo
      cases hr : mem? i (A.ref f) <;> cases hr2 : mem? i (A.raw f) <;> cases hr3 : mem? i (A.look f) <;> simp [hr, hr2, hr3] at hmo
    · exact ⟨rfl, h1⟩
theorem law_calls {X : Ctx} (hp : PrimOk X) {f : Nat} {fn : Func} {t : TypeId} {args : List V} {gargs : List Value} {w : World} (hf : X.P.funcs[f]? = some fn) (hb : fn.body.isSome = true) (hr : fn.resultTypes = #[t]) (ht : aggT X.P t = false) (hm : X.adv.move f = []) (hgl : globS X (full w)) (htb : tabS X w)
    (hs : simVs (impμ []) [] (full w) args gargs) (h : call X f args [] = some ([[.bool true]], [])) :
    Calls X.P f gargs.toArray w fun e w' => e = .returned (.bool true) ∧ Below w.heap.size w w' := by
  have hG : Given X 0 (fun _ => True) w f args [] gargs [] [] [] := by
    have hv : (full w).le (view w (fun _ => True) (· ∈ ([] : List Nat) ++ [])) := by
      intro b o v h
      exact view_mk trivial (by simp) h
    refine ⟨by simp, by simp, fun _ _ => trivial, Nat.zero_le _, ?_, ⟨rfl, rfl⟩, globS_mono hv hgl, htb⟩
    exact mixS_mono (memLe_refl _ _) hv (fun _ _ => rfl) (simVs_mix (H := heapOf w) hm 0 hs)
  refine (call_ok hp f fn args [] [[.bool true]] [] hf hb h 0 (fun _ => True) w gargs [] [] [] hG).mono ?_
  rintro e w' ⟨gs, M1, M2, rfl, D⟩
  have hres := D.res
  rw [hr] at hres
  simp only [retsS] at hres
  obtain ⟨row, rows', g, gs', cs, N1, N2, e1, e2, _, hv, ho, hl, e3, e4, _⟩ := hres
  simp only [List.cons.injEq] at e1
  obtain ⟨rfl, rfl⟩ := e1
  subst e4
  subst e2
  simp only [valOf, ht, Bool.false_eq_true, if_false] at hv
  subst hv
  simp only [owRow, ow] at ho
  obtain ⟨v, cs', N1, N2, e5, _, ⟨rfl, _⟩, _⟩ := ho
  simp only [List.cons.injEq] at e5
  obtain ⟨rfl, _⟩ := e5
  refine ⟨rfl, ⟨D.keep.os, D.keep.tape, D.keep.output, D.keep.size, fun k hk => D.keep.block k hk (by simp)⟩⟩
section
variable {H : Type} {enc : TypeId × Value → H} {P : Program} {w : World} {base : Nat} {spare : Nat → Bool} {held : Bool} {t : TypeId} {v : Value} {d : DataW H} {ps : List MemPlace}
theorem arg_one {μ : Nat → Value} {m : Mem} (h : DataW.Trod enc P w base spare held t v d ps) (hg : ∀ n, goodT P (n + 8) t = true) (hv : v.cells.toList = [v]) :
    ∃ n x, tyD P (n + 8) t [x] ∧ simV μ m (full w) (.d x) v := by
  obtain ⟨n, hn⟩ := h
  have hn' : DataW.trod enc P w base spare held (n + 8) t v.cells.toList = some (d, ps) := DataW.trod_le (Nat.le_add_right n 8) hn
  obtain ⟨row, hl, ht, hs⟩ := trod_ro (n + 8) t _ d ps (hg n) hn'
  rw [hv] at hl hs
  cases row with
  | nil => simp at hl
  | cons x r =>
    cases r with
    | cons _ _ => simp at hl
    | nil =>
      obtain ⟨u, cs', e, h1, _⟩ := hs
      simp only [List.cons.injEq] at e
      obtain ⟨rfl, _⟩ := e
      exact ⟨_, x, ht, by simpa [simV] using h1⟩
end
section
variable {P : Program} {n : Nat} {t : TypeId} {row : Row}
theorem tyD_int {k : IntKind} (hu : P.underlying t = some (.int k)) (h : tyD P (n + 1) t row) : ∃ x, row = [.int k x] ∧ (Lit.int k x).wf = true := by simpa [tyD, hu] using h
theorem tyD_str (hu : P.underlying t = some .string) (h : tyD P (n + 1) t row) : ∃ s, row = [.str s] ∧ s.length ≤ maxLen := by simpa [tyD, hu] using h
theorem tyD_sl {e : TypeId} (hu : P.underlying t = some (.slice e)) (h : tyD P (n + 1) t row) : ∃ rows, row = [.sl false (szT P e) rows] ∧ rows.length ≤ maxLen ∧ ∀ r, r ∈ rows → tyD P n e r := by simpa [tyD, hu] using h
theorem tyD_struct {fs : Array Field} (hu : P.underlying t = some (.struct fs)) (h : tyD P (n + 1) t row) : tyFs P n fs.toList row := by simpa [tyD, hu] using h
theorem tyFs_cons {f : Field} {fs : List Field} (h : tyFs P n (f :: fs) row) : ∃ r1 r2, row = r1 ++ r2 ∧ tyD P n f.type r1 ∧ tyFs P n fs r2 := by simpa [tyFs] using h
theorem tyFs_nil (h : tyFs P n [] row) : row = [] := by simpa [tyFs] using h
theorem list_enc {α : Type} {f : α → Row} {p : α → Prop} : ∀ {rows : List Row}, (∀ r, r ∈ rows → ∃ x, r = f x ∧ p x) → ∃ l : List α, rows = l.map f ∧ ∀ x, x ∈ l → p x
  | [], _ => ⟨[], rfl, fun x h => by simp at h⟩
  | r :: rows, h => by
    obtain ⟨x, hx, hp⟩ := h r (by simp)
    obtain ⟨l, hl, hq⟩ := list_enc (rows := rows) (fun r hr => h r (by simp [hr]))
    refine ⟨x :: l, by simp [hx, hl], fun y hy => ?_⟩
    rcases List.mem_cons.1 hy with rfl | hy
    · exact hp
    · exact hq y hy
end
end Go.Vm

namespace Go.Vm
open Go
section
variable {H : Type} {enc : TypeId × Value → H}
theorem returns_shaped {a : Assume} {C : Checked} {os : Os} {f : FuncId} {fn : Func} {s : ChangeSpec} {conds : List PathCond} {apart fresh handsOn again : Bool} {X : World → Array Value → Prop}
    (hX : ∀ (w w' : World) (args : Array Value), w.heap = w'.heap → X w args → X w' args)
    (own : ownKnob C.prog.godebug = none) (started : os.Started) (noInit : C.prog.inits.idxOf? f = none) (hfn : C.prog.funcs[f]? = some fn)
    (witness : ∃ (w : World) (tape : Tape) (i : Input), w.os = os ∧ (w.forCall tape i).Shaped C.prog ∧ i.vars = [] ∧ Input.okWide C.prog (w.forCall tape i) .any w.heap.size f i ∧
      ((s.pre enc C.prog fn conds apart (w.forCall tape i).memory i.args ∧ X (w.forCall tape i).memory i.args) ∧ sizedMet enc C.prog fn (OpenSpec.ofChange s) apart (w.forCall tape i).memory i.args) ∧ a.holds C.prog (lone (Frame.enter C.prog f i.args .normal) [] (w.forCall tape i)))
    (contract : ∀ (W : World) (base : Nat) (args : Array Value) (ds gs : List (DataW H)) (before : List MemPlace),
      (∀ (j : Nat) t v, fn.params[j]? = some t → args[j]? = some v → Value.okWide C.prog W .any base t v) →
      DataW.Whole enc C.prog fn.params.toList s.vars apart W args.toList ds gs before → X W args → W.ShapedOpen C.prog →
      Calls C.prog f args W fun e W' => ∃ v, e = .returned v ∧ s.post enc C.prog fn apart fresh handsOn again W args v W') :
    ReturnsInHanded a C os f .any (fun w args => (s.pre enc C.prog fn conds apart w args ∧ X w args) ∧ sizedMet enc C.prog fn (OpenSpec.ofChange s) apart w args) (s.post enc C.prog fn apart fresh handsOn again) := by
  refine returnsInHanded_of_calls own started noInit witness ?_
  rintro w tape i _ shp _ ⟨_, _, _, g, hg, _, _, _, _, val⟩ ⟨⟨⟨ds, gs, before, whole, _⟩, hx⟩, _⟩ _
  have e : g = fn := Option.some.inj (hg.symm.trans hfn)
  rw [e] at val
  have c := contract (w.forCall tape i) w.heap.size i.args ds gs before val (DataW.Whole.of_heap (w' := w.forCall tape i) (by rfl) whole) (hX _ _ _ (by rfl) hx) shp
  refine c.mono ?_
  rintro e W' ⟨v, rfl, hp⟩
  exact ChangeSpec.post_blind hp
end
def litV : DataW Unit → Value
  | .lit (.int k n) => .int k n
  | .lit (.bool b) => .bool b
  | .lit (.string b) => .string ⟨b.toArray⟩
  | _ => .tuple #[]
def dataCells : Nat → DataW Unit → List Value
  | 0, _ => []
  | n + 1, d => match d with
    | .agg ds => ds.flatMap (dataCells n)
    | d => [litV d]
def layAt (h : Array Obj) (g : Nat) (d : DataW Unit) : Array Obj := h.modify g fun o => match o with
  | .cells _ t fr => .cells (dataCells 4 d).toArray t fr
  | o => o
def layAll (h : Array Obj) : List (Nat × DataW Unit) → Array Obj
  | [] => h
  | (g, d) :: l => layAll (layAt h g d) l
noncomputable def laidWorld (P : Program) (l : List (Nat × DataW Unit)) (os : Os) : World :=
  let w := World.holding P os ⟨#[], #[], []⟩
  { w with heap := layAll w.heap l }
theorem roRow_at {h : View} {g : Nat} : ∀ (row : Row) (o : Nat), (∀ (j : Nat) x, row[j]? = some x → ∃ v, h g (o + j) = some v ∧ ro h x v) → roRow h row g o
  | [], _, _ => trivial
  | x :: row, o, q => ⟨by simpa using q 0 x rfl, roRow_at row (o + 1) fun j y hj => by
      have := q (j + 1) y (by simpa using hj)
      rwa [show o + (j + 1) = o + 1 + j by omega] at this⟩
theorem strRow_of {P : Program} {w : World} {nm : String} {g t e n fuel : Nat} {cs : Array Value} {ss : List (List UInt8)} {p : List MemPlace} (hu : P.underlying t = some (.array n e)) (he : P.underlying e = some .string) (hc : P.cellsOf e = 1)
    (hg : P.globalNamed nm = some g) (hv : w.var? P nm = some cs) (h : DataW.trod (fun _ => ()) P w 0 (fun _ => true) false fuel t cs.toList = some (.agg (ss.map fun s => .lit (.string s)), p)) : roRow (full w) (ss.map D.str) g 0 := by
  obtain ⟨xs, m, rfl, hx, hcl, hxl, hel⟩ := DataW.trod_array hu h
  simp only [Prod.mk.injEq, DataW.agg.injEq] at hx
  refine roRow_at _ 0 fun j x hj => ?_
  rw [List.getElem?_map] at hj
  cases hs : ss[j]? with
  | none => rw [hs] at hj; cases hj
  | some s =>
    rw [hs] at hj
    cases hj
    have hjl : j < ss.length := (List.getElem?_eq_some_iff.1 hs).1
    have hlen : ss.length = xs.length := by
      have := congrArg List.length hx.1
      simpa using this
    obtain ⟨y, hy⟩ : ∃ y, xs[j]? = some y := ⟨xs[j]'(by omega), by simp⟩
    have hh := hel j (by omega)
    rw [hy] at hh
    obtain ⟨b, hb1, hb2, _⟩ := DataW.trod_string he hh
    have hyx : y.1 = .lit (.string s) := by
      have := congrArg (fun l => l[j]?) hx.1
      simp only [List.getElem?_map, hs, hy, Option.map_some, Option.some.injEq] at this
      exact this.symm
    rw [hb2] at hyx
    simp only [DataW.lit.injEq, Lit.string.injEq] at hyx
    rw [hc, Nat.mul_one] at hb1
    have hcell : cs[j]? = some (.string b) := by
      have := congrArg (fun l => l[0]?) hb1
      simpa using this
    refine ⟨.string b, ?_, ?_⟩
    · have := World.var?_cell hg hv j
      rw [Nat.zero_add]
      show w.cell? ⟨g, j, none⟩ = _
      rw [this]
      exact hcell
    · simp only [ro]
      rw [← hyx]
end Go.Vm
