/-
  Code whose loops and calls come out of tables: what a function's body comes to, given what its loops and calls come to.
-/
import Derived.Test.YtfbemlhfieemhaaVmEq
namespace Go.Vm
open Go

abbrev Loops := Nat → St → Option (Ex × St)
/-- the first region of a code: its name, for a loop -/
def lid : Code → Nat
  | .region id _ _ => id
  | .seq a b => match lid a with
    | 0 => lid b
    | n => n
  | .block _ c => lid c
  | .loop c => lid c
  | .cond _ a b => match lid a with
    | 0 => lid b
    | n => n
  | _ => 0
/-- the outermost loops -/
def loops : Code → List Code
  | .seq a b => loops a ++ loops b
  | .cond _ a b => loops a ++ loops b
  | .block _ c => loops c
  | .loop c => [c]
  | _ => []
def denL (X : Ctx) (K : Kont) (L : Loops) (fn : Nat) : Code → St → Option (Ex × St)
  | .skip, S => some (.normal, S)
  | .region id ops draw, S => match region X K fn id ops draw S with
    | some S' => some (.normal, S')
    | none => none
  | .seq a b, S => match denL X K L fn a S with
    | some (.normal, S') => denL X K L fn b S'
    | r => r
  | .cond c a b, S => match condV X.P S.tm c with
    | some true => denL X K L fn a S
    | some false => denL X K L fn b S
    | none => none
  | .block id c, S => match denL X K L fn c S with
    | some (.exit j, S') => bif Nat.beq j id then some (.normal, S') else some (.exit j, S')
    | r => r
  | .loop c, S => L (lid c) S
  | .exit id, S => some (.exit id, S)
  | .ret, S => some (.ret, S)
  | _, _ => none
def codeOf (P : Program) (f : Nat) : Code := match P.funcs[f]? with
  | some g => match g.body with
    | some c => c
    | none => .skip
  | none => .skip
def bodyL (X : Ctx) (K : Kont) (L : Loops) (f : Nat) (args : List V) (cells : List Cell) : Option (List Row × List Cell) :=
  match X.P.funcs[f]? with
  | some g => match g.body with
    | some c => bif !(Nat.ble cells.length impBase && Nat.ble args.length g.ntmps) then none else match (entry X f g args cells).run (impMem 0 cells) .none with
      | some (tm, m, _) => (match denL X K L f c ⟨tm, m⟩ with
        | some (.normal, S) => leave X g cells.length S
        | some (.ret, S) => leave X g cells.length S
        | _ => none)
      | none => none
    | none => none
  | none => none
/-- what the table says of loops holds -/
def LOk (X : Ctx) (K : Kont) (fn : Nat) (L : Loops) (cs : List Code) : Prop := ∀ c, c ∈ cs → ∀ S r, L (lid c) S = some r → loopL (den X K fn c) S = some r
theorem LOk.nil {X : Ctx} {K : Kont} {fn : Nat} {L : Loops} : LOk X K fn L [] := fun _ h => by simp at h
theorem LOk.cons {X : Ctx} {K : Kont} {fn : Nat} {L : Loops} {c : Code} {cs : List Code} (h : ∀ S r, L (lid c) S = some r → loopL (den X K fn c) S = some r) (k : LOk X K fn L cs) : LOk X K fn L (c :: cs) := by
  intro d hd
  rcases List.mem_cons.1 hd with rfl | hd
  · exact h
  · exact k d hd

theorem den_of {X : Ctx} {K : Kont} {L : Loops} {fn : Nat} : ∀ {c : Code} {S : St} {r : Ex × St}, LOk X K fn L (loops c) → denL X K L fn c S = some r → den X K fn c S = some r := by
  intro c
  induction c with
  | seq a b iha ihb =>
    intro S r hL h
    have hLa : LOk X K fn L (loops a) := fun d hd => hL d (by simp [loops, hd])
    have hLb : LOk X K fn L (loops b) := fun d hd => hL d (by simp [loops, hd])
    simp only [denL] at h
    simp only [den]
    cases ha : denL X K L fn a S with
    | none => simp [ha] at h
    | some q =>
      rw [iha hLa ha]
      rw [ha] at h
      obtain ⟨e, S'⟩ := q
      cases e with
      | normal => exact ihb hLb h
      | exit id => exact h
      | ret => exact h
  | cond c a b iha ihb =>
    intro S r hL h
    have hLa : LOk X K fn L (loops a) := fun d hd => hL d (by simp [loops, hd])
    have hLb : LOk X K fn L (loops b) := fun d hd => hL d (by simp [loops, hd])
    simp only [denL] at h
    simp only [den]
    cases hc : condV X.P S.tm c with
    | none => simp [hc] at h
    | some q =>
      rw [hc] at h
      cases q with
      | true => exact iha hLa h
      | false => exact ihb hLb h
  | block id c ih =>
    intro S r hL h
    simp only [denL] at h
    simp only [den]
    cases ha : denL X K L fn c S with
    | none => simp [ha] at h
    | some q => rw [ih hL ha]; rw [ha] at h; exact h
  | loop c ih =>
    intro S r hL h
    exact hL c (by simp [loops]) S r h
  | region id ops draw => intro S r hL h; exact h
  | skip => intro S r hL h; exact h
  | exit id => intro S r hL h; exact h
  | ret => intro S r hL h; exact h
  | _ => intro S r hL h; simp [denL] at h

theorem denL_up (X : Ctx) (L : Loops) (fn : Nat) (c : Code) : ∀ S, Up fun K => denL X K L fn c S := by
  induction c with
  | region id ops draw =>
    intro S K K' hK r hr
    simp only [denL] at hr ⊢
    cases h : region X K fn id ops draw S with
    | none => simp [h] at hr
    | some S' =>
      have he0 := region_up X fn id ops draw S K K' hK S' h
      dsimp only at he0
      rw [he0]; rw [h] at hr; exact hr
  | seq a b iha ihb =>
    intro S K K' hK r hr
    simp only [denL] at hr ⊢
    cases h : denL X K L fn a S with
    | none => simp [h] at hr
    | some q =>
      have he0 := iha S K K' hK q h
      dsimp only at he0
      rw [he0]
      rw [h] at hr
      obtain ⟨e, S'⟩ := q
      cases e with
      | normal => exact ihb S' K K' hK r hr
      | exit id => exact hr
      | ret => exact hr
  | cond c a b iha ihb =>
    intro S K K' hK r hr
    simp only [denL] at hr ⊢
    cases h : condV X.P S.tm c with
    | none => simp [h] at hr
    | some q =>
      rw [h] at hr
      cases q with
      | true => exact iha S K K' hK r hr
      | false => exact ihb S K K' hK r hr
  | block id c ih =>
    intro S K K' hK r hr
    simp only [denL] at hr ⊢
    cases h : denL X K L fn c S with
    | none => simp [h] at hr
    | some q =>
      have he0 := ih S K K' hK q h
      dsimp only at he0
      rw [he0]; rw [h] at hr; exact hr
  | _ => intro S; exact Up.const _
theorem bodyL_up (X : Ctx) (L : Loops) (f : Nat) (args : List V) (cells : List Cell) : Up fun K => bodyL X K L f args cells := by
  intro K K' hK r hr
  simp only [bodyL] at hr ⊢
  cases hg : X.P.funcs[f]? with
  | none => simp [hg] at hr
  | some g =>
    simp only [hg] at hr ⊢
    cases hcd : g.body with
    | none => simp [hcd] at hr
    | some c =>
      simp only [hcd] at hr ⊢
      revert hr
      generalize (!(Nat.ble cells.length impBase && Nat.ble args.length g.ntmps)) = q
      cases q with
      | true => exact id
      | false =>
        simp only [cond_false]
        intro hr
        split at hr
        · rename_i tm m l he
          cases h : denL X K L f c ⟨tm, m⟩ with
          | none => simp [h] at hr
          | some q =>
            have he0 := denL_up X L f c ⟨tm, m⟩ K K' hK q h
            dsimp only at he0
            rw [he0]; rw [h] at hr; exact hr
        · cases hr
theorem body_of {X : Ctx} {K : Kont} {L : Loops} {f : Nat} {args : List V} {cells : List Cell} {r : List Row × List Cell} (hL : LOk X K f L (loops (codeOf X.P f))) (h : bodyL X K L f args cells = some r) : body X K f args cells = some r := by
  simp only [bodyL] at h
  simp only [body]
  cases hg : X.P.funcs[f]? with
  | none => simp [hg] at h
  | some g =>
    simp only [hg] at h ⊢
    cases hcd : g.body with
    | none => simp [hcd] at h
    | some c =>
      simp only [hcd] at h ⊢
      have hcode : codeOf X.P f = c := by simp [codeOf, hg, hcd]
      rw [hcode] at hL
      revert h
      generalize (!(Nat.ble cells.length impBase && Nat.ble args.length g.ntmps)) = q
      cases q with
      | true => exact id
      | false =>
        simp only [cond_false]
        intro h
        split at h
        · rename_i tm m l he
          simp only [he]
          cases hd : denL X K L f c ⟨tm, m⟩ with
          | none => simp [hd] at h
          | some q => rw [den_of hL hd]; rw [hd] at h; exact h
        · cases h

/-- a call by its body's equation -/
theorem call_ofL {X : Ctx} {K : Kont} {L : Loops} {f : Nat} {args : List V} {cells : List Cell} {r : List Row × List Cell} (hp : X.prim f = none) (hK : KLe K (call X)) (hL : LOk X (call X) f L (loops (codeOf X.P f)))
    (h : bodyL X K L f args cells = some r) : call X f args cells = some r := by
  exact call_of (KLe.refl _) hp (body_of hL (bodyL_up X L f args cells K (call X) hK r h))
theorem den_ofL {X : Ctx} {K : Kont} {L : Loops} {fn : Nat} {c : Code} {S : St} {r : Ex × St} (hK : KLe K (call X)) (hL : LOk X (call X) fn L (loops c)) (h : denL X K L fn c S = some r) : den X (call X) fn c S = some r :=
  den_of hL (denL_up X L fn c S K (call X) hK r h)
/-- one round -/
theorem loop_next {X : Ctx} {K : Kont} {fn : Nat} {c : Code} {S S' : St} {r : Ex × St} (h : den X K fn c S = some (.normal, S')) (k : loopL (den X K fn c) S' = some r) : loopL (den X K fn c) S = some r := by
  obtain ⟨n, hn⟩ := loopL_some k
  refine loopL_of (n := n + 1) ?_
  simp only [iter, h]
  exact hn
theorem loop_exit {X : Ctx} {K : Kont} {fn : Nat} {c : Code} {S S' : St} {id : Nat} (h : den X K fn c S = some (.exit id, S')) : loopL (den X K fn c) S = some (.exit id, S') :=
  loopL_of (n := 1) (by simp only [iter, h])
theorem loop_ret {X : Ctx} {K : Kont} {fn : Nat} {c : Code} {S S' : St} (h : den X K fn c S = some (.ret, S')) : loopL (den X K fn c) S = some (.ret, S') :=
  loopL_of (n := 1) (by simp only [iter, h])
end Go.Vm
