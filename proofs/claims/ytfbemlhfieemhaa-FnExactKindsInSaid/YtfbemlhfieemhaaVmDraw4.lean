/-
  A drawn region: every order comes to what the text's order comes to; a region's soundness.
-/
import Derived.Test.YtfbemlhfieemhaaVmFuse
namespace Go.Vm
open Go

section
variable {base : Nat} {U : Nat → Prop} {M0 : List Nat} {w0 w : World} {ν : Nat → Value} {M : Mem} {nt : Nat} {S T : St} {G : GS} {a : Act} {X : Ctx} {K : Kont} {fn : Nat} {ops : Array Oper}

theorem runOps_tr : ∀ {is : List Nat} {S S' : St} {L L' : List (Nat × Log)}, runOps X K fn ops is S L = some (S', L') →
    ∃ T : List (Nat × Log), L' = T.reverse ++ L ∧ Tr X K fn ops T S S' ∧ T.map (·.1) = is
  | [], S, S', L, L', h => by
    simp only [runOps, Option.some.injEq, Prod.mk.injEq] at h
    obtain ⟨rfl, rfl⟩ := h
    exact ⟨[], rfl, rfl, rfl⟩
  | i :: is, S, S', L, L', h => by
    simp only [runOps] at h
    cases h1 : runOp X K fn ops i S with
    | none => simp [h1] at h
    | some r =>
      obtain ⟨S1, l1⟩ := r
      simp only [h1] at h
      obtain ⟨T, e, t, m⟩ := runOps_tr h
      exact ⟨(i, l1) :: T, by rw [e]; simp, ⟨S1, h1, t⟩, by simp [m]⟩

theorem backFrom_spec : ∀ {l : List Oper} {n k : Nat} {o : Oper}, backFrom n l = true → l[k]? = some o → ∀ e, e ∈ o.after → e.on < n + k
  | [], _, _, _, _, h => by simp at h
  | o' :: l, n, 0, o, hb, h => by
    simp only [List.getElem?_cons_zero, Option.some.injEq] at h
    subst h
    simp only [backFrom, Bool.and_eq_true] at hb
    intro e he
    have := List.all_eq_true.1 hb.1 e (by simpa using he)
    simpa using this
  | o' :: l, n, k + 1, o, hb, h => by
    simp only [backFrom, Bool.and_eq_true] at hb
    intro e he
    have := backFrom_spec hb.2 (by simpa using h) e he
    omega
theorem backOk_spec {k : Nat} {o : Oper} (hb : backOk ops = true) (h : ops[k]? = some o) : ∀ e, e ∈ o.after → e.on < k := by
  intro e he
  have := backFrom_spec (n := 0) hb (k := k) (o := o) (by simpa using h) e he
  omega

theorem any_ok (hK : Sound X K) (hnt : ntOf X.P fn = nt) (hb : backOk ops = true) {Q : Exit → Act → World → Prop} : ∀ (fuel : Nat) {listed : Array Bool} {L : List (Nat × Log)} {w : World} {S S' : St} {G : GS} {a : Act}
    (_ : L.length ≤ fuel) (_ : listed.size = ops.size) (_ : Cl ops listed) (_ : ∀ i, i < ops.size → (listed.getD i true = false ↔ i ∈ L.map (·.1))) (_ : (L.map (·.1)).Nodup)
    (_ : Ok ops L) (_ : Tr X K fn ops L S S') (_ : Rel base U M0 w0 ν M nt w S G a)
    (_ : ∀ w' G' a', Rel base U M0 w0 ν M nt w' S' G' a' → (Gh U w G).le (Gh U w' G') → Q .normal a' w'), wpAny X.P .any ops Q fuel listed a w
  | 0, listed, L, w, S, S', G, a, hf, hs, hcl, hl, hnd, hok, htr, R, hn => by
    have : L = [] := List.length_eq_zero_iff.1 (Nat.le_zero.1 hf)
    subst this
    cases htr
    refine ⟨?_, hn w G a R (View.le_refl _)⟩
    rw [List.eq_nil_iff_forall_not_mem]
    intro i hi
    obtain ⟨h1, o, h2, _⟩ := mem_ready.1 hi
    have hlt : i < ops.size := (Array.getElem?_eq_some_iff.1 h2).1
    simpa using (hl i hlt).1 h1
  | fuel + 1, listed, L, w, S, S', G, a, hf, hs, hcl, hl, hnd, hok, htr, R, hn => by
    refine ⟨fun hr => ?_, fun i hi => ?_⟩
    · have hL : L = [] := by
        rw [List.eq_nil_iff_forall_not_mem]
        have hall : ∀ i, i ∉ L.map (·.1) := by
          intro i
          induction i using Nat.strongRecOn with
          | _ i ih =>
            intro hi
            have hlt : i < ops.size := by
              rcases Nat.lt_or_ge i ops.size with h | h
              · exact h
              · obtain ⟨⟨i', l⟩, hx, rfl⟩ := List.mem_map.1 hi
                exfalso
                have : ∀ {L : List (Nat × Log)} {S S' : St}, Tr X K fn ops L S S' → ∀ x, x ∈ L → ∃ o, ops[x.1]? = some o := by
                  intro L
                  induction L with
                  | nil => intro _ _ _ x hx; simp at hx
                  | cons y L ihL =>
                    rintro S S' ⟨S1, h1, h2⟩ x hx
                    rcases List.mem_cons.1 hx with rfl | hx
                    · exact runOp_op h1
                    · exact ihL h2 x hx
                obtain ⟨o, ho⟩ := this htr _ hx
                have := (Array.getElem?_eq_some_iff.1 ho).1
                simp at this h
                omega
            have hni : i ∉ Region.ready .any ops listed := by rw [hr]; simp
            apply hni
            rw [mem_ready]
            refine ⟨(hl i hlt).2 hi, ops[i], by simp [hlt], fun e he _ => ?_⟩
            have hei := backOk_spec hb (k := i) (by simp [hlt]) e he
            have hel : e.on < ops.size := Nat.lt_trans hei hlt
            have := ih e.on hei
            rw [← hl e.on hel] at this
            have hsz : e.on < listed.size := by rw [hs]; exact hel
            simp only [Array.getD, hsz, dite_true] at this ⊢
            simpa using this
        intro x hx
        exact hall x.1 (List.mem_map.2 ⟨x, hx, rfl⟩)
      subst hL
      cases htr
      exact hn w G a R (View.le_refl _)
    · obtain ⟨h1, o, h2, h3⟩ := mem_ready.1 hi
      have hlt : i < ops.size := (Array.getElem?_eq_some_iff.1 h2).1
      obtain ⟨⟨i', l⟩, hx, rfl⟩ := List.mem_map.1 ((hl i hlt).1 h1)
      obtain ⟨pre, post, rfl⟩ := List.append_of_mem hx
      simp only at h1 h2 h3 hlt hi
      have hsz : i' < listed.size := by rw [hs]; exact hlt
      have hun : ∀ x, x ∈ pre → listed.getD x.1 false = false ∧ x.1 < ops.size := by
        intro x hxp
        have hxo : ∃ o, ops[x.1]? = some o := by
          have : ∀ {L : List (Nat × Log)} {S S' : St}, Tr X K fn ops L S S' → ∀ x, x ∈ L → ∃ o, ops[x.1]? = some o := by
            intro L
            induction L with
            | nil => intro _ _ _ x hx; simp at hx
            | cons y L ihL =>
              rintro S S' ⟨S1, h1, h2⟩ x hx
              rcases List.mem_cons.1 hx with rfl | hx
              · exact runOp_op h1
              · exact ihL h2 x hx
          exact this htr x (by simp [hxp])
        obtain ⟨ox, hox⟩ := hxo
        have hxl := (Array.getElem?_eq_some_iff.1 hox).1
        have := (hl x.1 hxl).2 (List.mem_map.2 ⟨x, by simp [hxp], rfl⟩)
        have hsx : x.1 < listed.size := by rw [hs]; exact hxl
        simp only [Array.getD, hsx, dite_true] at this ⊢
        exact ⟨this, hxl⟩
      have hind : ∀ x, x ∈ pre → Indep ops x.1 i' x.2 l := by
        intro x hxp
        have := (List.pairwise_append.1 hok).2.2 x hxp (i', l) (by simp)
        rcases this with ho | ho
        · exfalso
          obtain ⟨o', e, q1, q2, q3, q4⟩ := before_bit ho
          simp only at q1
          rw [h2] at q1
          cases q1
          have hel := h3 e q2 q3
          have hx0 := (hun x hxp).1
          rcases q4 with q4 | ⟨_, q4⟩
          · rw [q4, hel] at hx0; cases hx0
          · rw [hcl.path e.on x.1 hel q4] at hx0; cases hx0
        · exact ho
      obtain ⟨S'', ⟨S1, r1, r2⟩, hE⟩ := Tr.front htr hind
      refine runOp_ok hK hnt R r1 fun w1 G1 a1 R1 v1 => ?_
      have hnd' : ((pre ++ post).map (·.1)).Nodup ∧ i' ∉ (pre ++ post).map (·.1) := by
        have h' : (pre.map (·.1) ++ i' :: post.map (·.1)).Nodup := by simpa using hnd
        have h'' := (List.perm_middle (a := i') (l₁ := pre.map (·.1)) (l₂ := post.map (·.1))).nodup_iff.1 h'
        rw [List.nodup_cons] at h''
        exact ⟨by simpa using h''.2, by simpa using h''.1⟩
      refine any_ok hK hnt hb fuel (L := pre ++ post) ?_ ?_ ?_ ?_ hnd'.1 ?_ r2 R1 ?_
      · simp at hf ⊢; omega
      · simp [hs]
      · intro k hk o' ho' e he hbd
        by_cases hki : k = i'
        · subst hki
          rw [h2] at ho'
          cases ho'
          have := h3 e he hbd
          by_cases hei : k = e.on
          · simp [Array.getD, ← hei, hsz]
          · rw [getD_set_ne false hei]; exact this
        · rw [getD_set_ne false (Ne.symm hki)] at hk
          have := hcl k hk o' ho' e he hbd
          by_cases hei : i' = e.on
          · simp [Array.getD, ← hei, hsz]
          · rw [getD_set_ne false hei]; exact this
      · intro k hk
        by_cases hki : k = i'
        · subst hki
          have e1 : (listed.setIfInBounds k true).getD k true = true := by simp [Array.getD, hsz]
          rw [e1]
          exact ⟨fun h => by simp at h, fun h => absurd h hnd'.2⟩
        · rw [getD_set_ne true (Ne.symm hki), hl k hk]
          simp [hki]
      · have h' := List.pairwise_append.1 hok
        exact List.pairwise_append.2 ⟨h'.1, (List.pairwise_cons.1 h'.2.1).2, fun x hx y hy => h'.2.2 x hx y (by simp [hy])⟩
      · intro w' G' a' R' v'
        exact hn w' G' a' (R'.eqv hE.symm) (v1.trans' v')

theorem range_drop {n p : Nat} (h : p + 2 < n) : List.range n = List.range p ++ (p :: (p + 1) :: (p + 2) :: (List.range n).drop (p + 3)) := by
  have e : ∀ k, k < n → (List.range n).drop k = k :: (List.range n).drop (k + 1) := by
    intro k hk
    rw [List.drop_eq_getElem_cons (by simpa using hk)]
    simp
  rw [← e (p + 2) h, ← e (p + 1) (by omega), ← e p (by omega)]
  have : List.range p = (List.range n).take p := by rw [List.take_range, Nat.min_eq_left (by omega)]
  rw [this, List.take_append_drop]
theorem region_ok (hK : Sound X K) (hnt : ntOf X.P fn = nt) (hM : ∀ r c, get r M = some c → impKey r = true) : RegOk base U M0 w0 ν M nt X K fn := by
  intro id ops draw w S S' G a Q R h hn
  simp only [region] at h
  cases hr : regionRun X K fn id ops draw S with
  | none => simp [hr] at h
  | some r =>
    obtain ⟨S1, L⟩ := r
    simp only [hr] at h
    have hfin : prune (X.adv.keep fn id) S1 = some S' → ∀ w1 G1 a1, Rel base U M0 w0 ν M nt w1 S1 G1 a1 → (Gh U w G).le (Gh U w1 G1) → Q .normal a1 w1 := by
      intro hp w1 G1 a1 R1 v1
      obtain ⟨G2, R2, v2⟩ := prune_ok R1 hM hp
      exact hn w1 G2 a1 R2 (v1.trans' v2)
    simp only [regionRun] at hr
    cases hfu : X.adv.fuse fn id with
    | succ p =>
      rw [hfu] at hr
      cases draw with
      | true => simp at hr
      | false =>
        simp only at hr
        simp only [cond_true] at h
        cases h1 : runOps X K fn ops (List.range p) S [] with
        | none => simp [h1] at hr
        | some r1 =>
          obtain ⟨T1, L1⟩ := r1
          simp only [h1] at hr
          cases h2 : runFuse X K fn ops p T1 with
          | none => simp [h2] at hr
          | some T2 =>
            simp only [h2] at hr
            have hlt : p + 2 < ops.size := by
              simp only [runFuse] at h2
              cases hq : ops[p + 2]? with
              | some o => exact (Array.getElem?_eq_some_iff.1 hq).1
              | none =>
                rw [hq] at h2
                split at h2
                · rename_i h3; simp at h3
                · cases h2
            refine wp_region ?_
            rw [range_drop hlt]
            refine runOps_ok' hK hnt R h1 fun w1 G1 a1 R1 v1 => ?_
            refine fuse_ok hK R1 hnt h2 fun w2 G2 a2 R2 v2 => ?_
            exact runOps_ok hK hnt R2 hr fun w3 G3 a3 R3 v3 => hfin h w3 G3 a3 R3 ((v1.trans' v2).trans' v3)
    | zero =>
    rw [hfu] at hr
    simp only at hr
    cases draw with
    | false =>
      simp only [cond_true] at h
      exact wp_region (runOps_ok hK hnt R hr (hfin h))
    | true =>
      simp only at h
      cases hc : (X.P.follows .mixedOrders && (backOk ops && drawOk ops (Region.before ops) L)) with
      | false => simp [hc] at h
      | true =>
        simp only [hc, cond_true] at h
        simp only [Bool.and_eq_true] at hc
        obtain ⟨hm, hb, hd⟩ := hc
        obtain ⟨T, e, ht, hmp⟩ := runOps_tr hr
        simp only [List.append_nil] at e
        subst e
        have hok : Ok ops T := by
          have := drawOk_spec hd
          rw [List.pairwise_reverse] at this
          exact this
        have hlen : T.length = ops.size := by
          have := congrArg List.length hmp
          simpa using this
        have hR' : Rel base U M0 w0 ν M nt { w with drawn := w.drawn + 1 } S G a := by
          have ok := R.at_.ok
          have fr := R.at_.fr
          have kp := fr.keep
          exact ⟨⟨⟨ok.cell, ok.dj, ok.djE, ok.nd, ok.ndE, ok.lt, ok.up, ok.bs, ok.none_, ok.out_⟩, R.at_.E, R.at_.out, ⟨⟨kp.os, kp.tape, kp.output, kp.size, kp.block⟩, fr.fr⟩⟩, R.tm, R.size, R.defers, R.imp⟩
        refine wp_region_any hm (any_ok hK hnt hb ops.size (L := T) (by omega) (by simp) ?_ ?_ ?_ hok ht hR' ?_)
        · intro k hk
          simp [Array.getD] at hk
        · intro i hi
          simp [Array.getD, hi, hmp]
        · rw [hmp]; exact List.nodup_range
        · intro w' G' a' R' v'
          exact hfin h w' G' a' R' v'
end
end Go.Vm
