/-
  A function's plain form: its rows, its loops, its calls.
-/
import Derived.Test.YtfbemlhfieemhaaVmCps
namespace Go.Vm
open Go

/-! ### loops -/
def iterM {σ τ : Type} (b : σ → Option (σ ⊕ τ)) : Nat → σ → Option τ
  | 0, _ => none
  | n + 1, s => match b s with
    | some (.inl s') => iterM b n s'
    | some (.inr t) => some t
    | none => none
theorem iterM_more {σ τ : Type} {b : σ → Option (σ ⊕ τ)} : ∀ {n k : Nat} {s : σ} {t : τ}, iterM b n s = some t → n ≤ k → iterM b k s = some t
  | 0, _, _, _, h, _ => by simp [iterM] at h
  | n + 1, 0, _, _, _, hk => by omega
  | n + 1, k + 1, s, t, h, hk => by
    simp only [iterM] at h ⊢
    cases hb : b s with
    | none => simp [hb] at h
    | some q =>
      rw [hb] at h
      cases q with
      | inl s' => exact iterM_more h (by omega)
      | inr t' => exact h
/-- rounds till one ends it -/
noncomputable def loopM {σ τ : Type} (b : σ → Option (σ ⊕ τ)) (s : σ) : Option τ := lim fun n => iterM b n s
theorem loopM_of {σ τ : Type} {b : σ → Option (σ ⊕ τ)} {s : σ} {t : τ} {n : Nat} (h : iterM b n s = some t) : loopM b s = some t := by
  refine lim_of h fun m y hy => ?_
  have h1 := iterM_more h (Nat.le_max_left n m)
  rw [iterM_more hy (Nat.le_max_right n m)] at h1
  exact Option.some.inj h1
theorem loopM_some {σ τ : Type} {b : σ → Option (σ ⊕ τ)} {s : σ} {t : τ} (h : loopM b s = some t) : ∃ n, iterM b n s = some t := lim_some h
theorem loopM_next {σ τ : Type} {b : σ → Option (σ ⊕ τ)} {s s' : σ} (h : b s = some (.inl s')) : loopM b s = loopM b s' := by
  cases hl : loopM b s' with
  | some t =>
    obtain ⟨n, hn⟩ := loopM_some hl
    exact loopM_of (n := n + 1) (by simp only [iterM, h]; exact hn)
  | none =>
    cases hs : loopM b s with
    | none => rfl
    | some t =>
      obtain ⟨n, hn⟩ := loopM_some hs
      cases n with
      | zero => simp [iterM] at hn
      | succ n =>
        simp only [iterM, h] at hn
        rw [loopM_of hn] at hl
        cases hl
theorem loopM_end {σ τ : Type} {b : σ → Option (σ ⊕ τ)} {s : σ} {t : τ} (h : b s = some (.inr t)) : loopM b s = some t :=
  loopM_of (n := 1) (by simp only [iterM, h])
/-- a loop that comes to its end: along a row of states -/
theorem loopM_run {σ τ : Type} {b : σ → Option (σ ⊕ τ)} {t : τ} (st : Nat → σ) (n : Nat) (h : ∀ i, i < n → b (st i) = some (.inl (st (i + 1)))) (he : b (st n) = some (.inr t)) : ∀ i, i ≤ n → loopM b (st i) = some t := by
  intro i hi
  obtain ⟨d, rfl⟩ : ∃ d, n = i + d := ⟨n - i, by omega⟩
  induction d generalizing i with
  | zero => exact loopM_end he
  | succ d ih =>
    rw [loopM_next (h i (by omega)), ih (i + 1) (fun j hj => h j (by omega)) (by rw [show i + 1 + d = i + (d + 1) by omega]; exact he) (by omega)]

theorem loop_sound {σ τ : Type} {b : σ → Option (σ ⊕ τ)} {D : St → Option (Ex × St)} {tm : σ → St} {tx : τ → Ex × St}
    (h : ∀ s r, b s = some r → D (tm s) = some (match r with | .inl s' => (.normal, tm s') | .inr t => tx t)) (hx : ∀ t, (tx t).1 ≠ .normal) {s : σ} {t : τ} (hl : loopM b s = some t) : loopL D (tm s) = some (tx t) := by
  obtain ⟨n, hn⟩ := loopM_some hl
  induction n generalizing s with
  | zero => simp [iterM] at hn
  | succ n ih =>
    simp only [iterM] at hn
    cases hb : b s with
    | none => simp [hb] at hn
    | some q =>
      rw [hb] at hn
      have hd := h s q hb
      cases q with
      | inl s' =>
        have hl' := ih (loopM_of hn) hn
        obtain ⟨k, hk⟩ := loopL_some hl'
        refine loopL_of (n := k + 1) ?_
        simp only [iter, hd]
        exact hk
      | inr t' =>
        simp only [Option.some.injEq] at hn
        subst hn
        refine loopL_of (n := 1) ?_
        simp only [iter, hd]
        have := hx t'
        cases ht : tx t' with
        | mk e S => cases e with
          | normal => rw [ht] at this; exact absurd rfl this
          | exit id => rfl
          | ret => rfl

/-! ### tables -/
def kcons (f : Nat) (P : List V → List Cell → Res (List Row × List Cell)) (K : KonC) : KonC := fun g a c => bif Nat.beq g f then P a c else K g a c
def knil : KonC := fun _ _ _ => .none
def lcons (n : Nat) (P : St → ResA (Ex × St)) (L : LoopC) : LoopC := fun m S => bif Nat.beq m n then P S else L m S
def lnil : LoopC := fun _ _ => .none
def FnOk (X : Ctx) (f : Nat) (P : List V → List Cell → Res (List Row × List Cell)) : Prop := ∀ a c r, (P a c).val = some r → call X f a c = some r
theorem knil_ok {X : Ctx} : KLe knil.to (call X) := fun _ _ _ _ h => by simp [KonC.to, knil, Res.none, Res.val] at h
theorem kcons_ok {X : Ctx} {f : Nat} {P : List V → List Cell → Res (List Row × List Cell)} {K : KonC} (h : FnOk X f P) (k : KLe K.to (call X)) : KLe (kcons f P K).to (call X) := by
  intro g a c r hr
  simp only [KonC.to, kcons] at hr
  by_cases e : g = f
  · subst e
    simp only [Nat.beq_refl, cond_true] at hr
    exact h a c r hr
  · rw [beq_no e] at hr
    exact k g a c r hr
def LpOk (X : Ctx) (f n : Nat) (c : Code) (P : St → ResA (Ex × St)) : Prop := lid c = n ∧ ∀ S r, (P S).val = some r → loopL (den X (call X) f c) S = some r
theorem lnil_ok {X : Ctx} {f : Nat} {cs : List Code} : LOk X (call X) f lnil.to cs := fun _ _ S r h => by simp [LoopC.to, lnil, ResA.none, ResA.val] at h
/-- a loop of the table stands for each code that it names -/
theorem lcons_ok {X : Ctx} {f n : Nat} {c : Code} {P : St → ResA (Ex × St)} {L : LoopC} {cs : List Code} (h : LpOk X f n c P) (hc : ∀ d, d ∈ cs → lid d = n → d = c) (k : LOk X (call X) f L.to cs) : LOk X (call X) f (lcons n P L).to cs := by
  intro d hd S r hr
  simp only [LoopC.to, lcons] at hr
  by_cases e : lid d = n
  · have := hc d hd e
    subst this
    rw [e] at hr
    simp only [Nat.beq_refl, cond_true] at hr
    exact h.2 S r hr
  · rw [beq_no e] at hr
    exact k d hd S r hr
/-- the loop that a name names -/
def findLoop (n : Nat) : Code → Option Code
  | .seq a b => match findLoop n a with
    | some c => some c
    | none => findLoop n b
  | .cond _ a b => match findLoop n a with
    | some c => some c
    | none => findLoop n b
  | .block _ c => findLoop n c
  | .loop c => bif Nat.beq (lid c) n then some c else findLoop n c
  | _ => none
def loopCode (P : Program) (f n : Nat) : Code := match findLoop n (codeOf P f) with
  | some c => c
  | none => .skip
theorem loops_one {c d : Code} {cs : List Code} {n : Nat} (h : cs = [c]) : ∀ d, d ∈ cs → lid d = n → d = c := by
  intro d hd _
  rw [h] at hd
  simpa using hd
/-- in a list of loops of different names, the name picks -/
theorem loops_pick {c : Code} {cs ds : List Code} {n : Nat} (h : cs = ds) (hn : ds.all (fun d => !(Nat.beq (lid d) n)) = true ∨ ∃ a b, ds = a ++ c :: b ∧ (a ++ b).all (fun d => !(Nat.beq (lid d) n)) = true) : ∀ d, d ∈ cs → lid d = n → d = c := by
  intro d hd e
  rw [h] at hd
  rcases hn with hn | ⟨a, b, rfl, hn⟩
  · have := List.all_eq_true.1 hn d hd
    rw [e, Nat.beq_refl] at this
    cases this
  · rcases List.mem_append.1 hd with hd | hd
    · have := List.all_eq_true.1 hn d (by simp [hd])
      rw [e, Nat.beq_refl] at this
      cases this
    · rcases List.mem_cons.1 hd with hd | hd
      · exact hd
      · have := List.all_eq_true.1 hn d (by simp [hd])
        rw [e, Nat.beq_refl] at this
        cases this

theorem fn_sound {X : Ctx} {K : KonC} {L : LoopC} {f : Nat} {args : List V} {cells : List Cell} {ρ : Type} {o : Option ρ} {enc : ρ → List Row × List Cell} (hp : X.prim f = none) (hK : KLe K.to (call X)) (hL : LOk X (call X) f L.to (loops (codeOf X.P f)))
    (h : bodyC X K L f args cells (fun a b => some (a, b)) = o.bind fun r => some (enc r)) {r : ρ} (hr : o = some r) : call X f args cells = some (enc r) := by
  refine call_ofC hp hK hL ?_
  rw [h, hr]
  rfl
theorem lp_sound {X : Ctx} {K : KonC} {L : LoopC} {f : Nat} {c : Code} {σ τ : Type} {b : σ → Option (σ ⊕ τ)} {tm : σ → St} {tx : τ → Ex × St} (hK : KLe K.to (call X)) (hL : LOk X (call X) f L.to (loops c))
    (h : ∀ s, denC X K L f c (tm s) (fun a b => some (a, b)) = (b s).bind fun r => some (match r with | .inl s' => (.normal, tm s') | .inr t => tx t)) (hx : ∀ t, (tx t).1 ≠ .normal) {s : σ} {t : τ} (hl : loopM b s = some t) :
    loopL (den X (call X) f c) (tm s) = some (tx t) := by
  refine loop_sound (fun s r hr => ?_) hx hl
  refine den_ofC hK hL ?_
  rw [h s, hr]
  rfl

/-! ### the rest drawn out of a tree -/
theorem bif_bind {α β : Type} (c : Bool) (a b : Option α) (f : α → Option β) : (bif c then a else b).bind f = bif c then a.bind f else b.bind f := by cases c <;> rfl
theorem bind_bind {α β γ : Type} (o : Option α) (g : α → Option β) (f : β → Option γ) : (o.bind g).bind f = o.bind fun x => (g x).bind f := by cases o <;> rfl
theorem some_bind {α β : Type} (a : α) (f : α → Option β) : (some a).bind f = f a := rfl
theorem none_bind {α β : Type} (f : α → Option β) : (none : Option α).bind f = none := rfl
def optE {α β : Type} (o : Option α) (n : Option β) (f : α → Option β) : Option β := match o with
  | none => n
  | some x => f x
def letE {α β : Type} (x : α) (f : α → Option β) : Option β := f x
theorem optE_bind {α β γ : Type} (o : Option α) (n : Option β) (f : α → Option β) (g : β → Option γ) : (optE o n f).bind g = optE o (n.bind g) fun x => (f x).bind g := by cases o <;> rfl
theorem sumE_bind {α β γ δ : Type} (r : α ⊕ β) (f : α → Option γ) (g : β → Option γ) (k : γ → Option δ) : (sumE r f g).bind k = sumE r (fun x => (f x).bind k) (fun y => (g y).bind k) := by cases r <;> rfl
theorem letE_bind {α β γ : Type} (x : α) (f : α → Option β) (g : β → Option γ) : (letE x f).bind g = letE x fun y => (f y).bind g := rfl
def pnil : List V → List Cell → Res (List Row × List Cell) := fun _ _ => .none
theorem pnil_ok {X : Ctx} {f : Nat} : FnOk X f pnil := fun _ _ _ h => by simp [pnil, Res.none, Res.val] at h
theorem LpOk.at {X : Ctx} {f n : Nat} {c : Code} {P : St → ResA (Ex × St)} {L : LoopC} (h : LpOk X f n c P) (hL : ∀ S, L n S = P S) : ∀ S r, L.to (lid c) S = some r → loopL (den X (call X) f c) S = some r := by
  intro S r hr
  rw [h.1, LoopC.to, hL] at hr
  exact h.2 S r hr
end Go.Vm
