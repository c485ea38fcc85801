/-
  Code: what the machine makes of it is what Go does, given its regions.
-/
import Derived.Test.YtfbemlhfieemhaaVmPrune
import Derived.LoopN
namespace Go.Vm
open Go

theorem lim_some {α : Type} {f : Nat → Option α} {x : α} (h : lim f = some x) : ∃ n, f n = some x := by
  unfold lim at h
  split at h
  · rename_i hx
    have := Classical.choose_spec hx
    obtain ⟨n, hn⟩ := this
    simp only [Option.some.injEq] at h
    exact ⟨n, by rw [hn, h]⟩
  · cases h
def exOf : Ex → Exit
  | .normal => .normal
  | .exit id => .exit id
  | .ret => .ret

section
variable {base : Nat} {U : Nat → Prop} {M0 : List Nat} {w0 : World} {ν : Nat → Value} {M : Mem} {nt : Nat} {X : Ctx} {K : Kont} {fn : Nat}

def RegOk (base : Nat) (U : Nat → Prop) (M0 : List Nat) (w0 : World) (ν : Nat → Value) (M : Mem) (nt : Nat) (X : Ctx) (K : Kont) (fn : Nat) : Prop :=
  ∀ (id : Nat) (ops : Array Oper) (draw : Bool) (w : World) (S S' : St) (G : GS) (a : Act) (Q : Exit → Act → World → Prop), Rel base U M0 w0 ν M nt w S G a → region X K fn id ops draw S = some S' →
    (∀ w' G' a', Rel base U M0 w0 ν M nt w' S' G' a' → (Gh U w G).le (Gh U w' G') → Q .normal a' w') → (Code.region id ops draw).wp X.P Q a w

theorem den_ok (hR : RegOk base U M0 w0 ν M nt X K fn) (c : Code) : ∀ {w : World} {S S' : St} {ex : Ex} {G : GS} {a : Act} {Q : Exit → Act → World → Prop}, Rel base U M0 w0 ν M nt w S G a → den X K fn c S = some (ex, S') →
    (∀ w' G' a', Rel base U M0 w0 ν M nt w' S' G' a' → (Gh U w G).le (Gh U w' G') → Q (exOf ex) a' w') → c.wp X.P Q a w := by
  induction c with
  | skip =>
    intro w S S' ex G a Q R h hn
    simp only [den, Option.some.injEq, Prod.mk.injEq] at h
    obtain ⟨rfl, rfl⟩ := h
    exact Go.wp_skip (hn _ _ _ R (View.le_refl _))
  | region id ops draw =>
    intro w S S' ex G a Q R h hn
    simp only [den] at h
    cases hr : region X K fn id ops draw S with
    | none => simp [hr] at h
    | some S1 =>
      simp only [hr, Option.some.injEq, Prod.mk.injEq] at h
      obtain ⟨rfl, rfl⟩ := h
      exact hR id ops draw w S S1 G a Q R hr hn
  | seq x y ihx ihy =>
    intro w S S' ex G a Q R h hn
    simp only [den] at h
    refine wp_seq ?_
    cases hx : den X K fn x S with
    | none => simp [hx] at h
    | some r =>
      obtain ⟨e1, S1⟩ := r
      rw [hx] at h
      cases e1 with
      | normal =>
        simp only at h
        exact ihx R hx fun w1 G1 a1 R1 v1 => ihy R1 h fun w' G' a' R' v' => hn w' G' a' R' (v1.trans' v')
      | exit id =>
        simp only [Option.some.injEq, Prod.mk.injEq] at h
        obtain ⟨rfl, rfl⟩ := h
        exact ihx R hx fun w1 G1 a1 R1 v1 => hn w1 G1 a1 R1 v1
      | ret =>
        simp only [Option.some.injEq, Prod.mk.injEq] at h
        obtain ⟨rfl, rfl⟩ := h
        exact ihx R hx fun w1 G1 a1 R1 v1 => hn w1 G1 a1 R1 v1
  | cond c x y ihx ihy =>
    intro w S S' ex G a Q R h hn
    simp only [den] at h
    have hc : ∀ b, condV X.P S.tm c = some b → a.eval c = .bool b := by
      intro b hb
      have := ev_ok (P := X.P) R.tm 0 c
      unfold condV at hb
      split at hb
      · rename_i b' he
        rw [he] at this
        simp only [Option.some.injEq] at hb
        subst hb
        simpa [simV, ro] using this
      · cases hb
    cases hb : condV X.P S.tm c with
    | none => simp [hb] at h
    | some b =>
      rw [hb] at h
      cases b with
      | true => exact wp_cond (hc _ hb) (ihx R h hn)
      | false => exact wp_cond (hc _ hb) (ihy R h hn)
  | block id c ih =>
    intro w S S' ex G a Q R h hn
    simp only [den] at h
    refine wp_block ?_
    cases hx : den X K fn c S with
    | none => simp [hx] at h
    | some r =>
      obtain ⟨e1, S1⟩ := r
      rw [hx] at h
      cases e1 with
      | normal =>
        simp only [Option.some.injEq, Prod.mk.injEq] at h
        obtain ⟨rfl, rfl⟩ := h
        exact ih R hx fun w1 G1 a1 R1 v1 => hn w1 G1 a1 R1 v1
      | ret =>
        simp only [Option.some.injEq, Prod.mk.injEq] at h
        obtain ⟨rfl, rfl⟩ := h
        exact ih R hx fun w1 G1 a1 R1 v1 => hn w1 G1 a1 R1 v1
      | exit j =>
        refine ih R hx fun w1 G1 a1 R1 v1 => ?_
        simp only [exOf, Exit.inBlock]
        by_cases hj : j = id
        · subst hj
          simp only [Nat.beq_refl, cond_true, Option.some.injEq, Prod.mk.injEq] at h
          obtain ⟨rfl, rfl⟩ := h
          simp only [if_true]
          exact hn w1 G1 a1 R1 v1
        · dsimp only at h
          rw [beq_no hj] at h
          simp only [cond_false, Option.some.injEq, Prod.mk.injEq] at h
          obtain ⟨rfl, rfl⟩ := h
          simp only [hj, if_false]
          exact hn w1 G1 a1 R1 v1
  | loop c ih =>
    intro w S S' ex G a Q R h hn
    simp only [den, loopL] at h
    have hl := lim_some h
    clear h
    obtain ⟨n, h⟩ := hl
    refine wp_loop_rounds n ?_
    induction n generalizing w S G a with
    | zero => simp [iter] at h
    | succ n ihn =>
      simp only [iter] at h
      rw [rounds_succ]
      cases hx : den X K fn c S with
      | none => simp [hx] at h
      | some r =>
        obtain ⟨e1, S1⟩ := r
        rw [hx] at h
        cases e1 with
        | normal => exact ih R hx fun w1 G1 a1 R1 v1 => ihn R1 (fun w' G' a' R' v' => hn w' G' a' R' (v1.trans' v')) h
        | exit id =>
          simp only [Option.some.injEq, Prod.mk.injEq] at h
          obtain ⟨rfl, rfl⟩ := h
          exact ih R hx fun w1 G1 a1 R1 v1 => hn w1 G1 a1 R1 v1
        | ret =>
          simp only [Option.some.injEq, Prod.mk.injEq] at h
          obtain ⟨rfl, rfl⟩ := h
          exact ih R hx fun w1 G1 a1 R1 v1 => hn w1 G1 a1 R1 v1
  | exit id =>
    intro w S S' ex G a Q R h hn
    simp only [den, Option.some.injEq, Prod.mk.injEq] at h
    obtain ⟨rfl, rfl⟩ := h
    exact wp_exit (hn _ _ _ R (View.le_refl _))
  | ret =>
    intro w S S' ex G a Q R h hn
    simp only [den, Option.some.injEq, Prod.mk.injEq] at h
    obtain ⟨rfl, rfl⟩ := h
    exact wp_ret (hn _ _ _ R (View.le_refl _))
  | _ =>
    intro w S S' ex G a Q R h hn
    simp [den] at h
end
end Go.Vm
