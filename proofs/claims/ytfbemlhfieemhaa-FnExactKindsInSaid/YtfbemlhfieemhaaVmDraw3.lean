/-
  A drawn region: every order comes to what the text's order comes to.
-/
import Derived.Test.YtfbemlhfieemhaaVmDraw2
namespace Go.Vm
open Go

section
variable {base : Nat} {U : Nat → Prop} {M0 : List Nat} {w0 w : World} {ν : Nat → Value} {M : Mem} {nt : Nat} {S T : St} {G : GS} {a : Act} {X : Ctx} {K : Kont} {fn : Nat} {ops : Array Oper}

theorem memLe_eqv (h : Eqv S T) (μ : Nat → Value) : memLe μ S.mem μ T.mem := fun r c hc => ⟨c, by rw [← h.mem r]; exact hc, cellLe_refl μ r c⟩
theorem Rel.eqv (R : Rel base U M0 w0 ν M nt w S G a) (h : Eqv S T) : Rel base U M0 w0 ν M nt w T G a := by
  have ok := R.at_.ok
  refine ⟨⟨⟨?_, ok.dj, ok.djE, ok.nd, ok.ndE, ok.lt, ok.up, ok.bs, ?_, ok.out_⟩, R.at_.E, R.at_.out, R.at_.fr⟩, ?_, R.size, R.defers, memLe_trans R.imp (memLe_eqv h _)⟩
  · intro r c hc ho
    exact simCell_mono (memLe_eqv h _) (View.le_refl _) rfl (fun _ _ => rfl) (ok.cell r c (by rw [h.mem r]; exact hc) ho)
  · intro r hr
    exact ok.none_ r (by rw [h.mem r]; exact hr)
  · intro t v hv
    obtain ⟨h1, h2⟩ := R.tm t v (by rw [h.tm t]; exact hv)
    exact ⟨h1, simV_mono (memLe_eqv h _) (View.le_refl _) _ _ h2⟩

/-- what is listed leads to what is listed -/
def Cl (ops : Array Oper) (listed : Array Bool) : Prop := ∀ k, listed.getD k false = true → ∀ o, ops[k]? = some o → ∀ e, e ∈ o.after → Region.binds .any e = true → listed.getD e.on false = true
theorem Cl.path {listed : Array Bool} (h : Cl ops listed) : ∀ (k j : Nat), listed.getD k false = true → ordered (Region.before ops) k j = true → listed.getD j false = true := by
  intro k
  induction k using Nat.strongRecOn with
  | _ k ih =>
    intro j hk ho
    obtain ⟨o, e, h1, h2, h3, h4⟩ := before_bit ho
    have he := h k hk o h1 e h2 h3
    rcases h4 with rfl | ⟨h5, h6⟩
    · exact he
    · exact ih e.on h5 j he h6
def Ok (ops : Array Oper) : List (Nat × Log) → Prop := List.Pairwise fun p q => ordered (Region.before ops) q.1 p.1 = true ∨ Indep ops p.1 q.1 p.2 q.2
theorem drawOk_spec : ∀ {L : List (Nat × Log)}, drawOk ops (Region.before ops) L = true → L.Pairwise fun q p => ordered (Region.before ops) q.1 p.1 = true ∨ Indep ops p.1 q.1 p.2 q.2
  | [], _ => List.Pairwise.nil
  | (i, l) :: L, h => by
    simp only [drawOk, Bool.and_eq_true] at h
    refine List.Pairwise.cons ?_ (drawOk_spec h.2)
    rintro ⟨j, l'⟩ hj
    have := List.all_eq_true.1 h.1 (j, l') hj
    simp only [Bool.or_eq_true, Bool.and_eq_true] at this
    rcases this with h1 | ⟨h1, h2⟩
    · exact .inl h1
    · right
      cases ha : ops[i]? with
      | none => simp [ha] at h2
      | some a =>
        cases hb : ops[j]? with
        | none => simp [ha, hb] at h2
        | some b =>
          simp only [ha, hb] at h2
          obtain ⟨p1, p2, p3⟩ := Oper.apart_spec h2
          simp only [Log.apart, Bool.and_eq_true] at h1
          refine ⟨⟨b, a, hb, ha, p3, fun d hd he => p2 d he hd, p1⟩, fun k hk hr => disj_spec h1.2 k hr hk, fun k hk hr => disj_spec h1.1.2 k hr hk, fun k hk hr => disj_spec h1.1.1 k hr hk⟩
end
end Go.Vm
