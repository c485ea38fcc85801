/-
  A call comes to what its body comes to.
-/
import Derived.Test.YtfbemlhfieemhaaVmBody2
namespace Go.Vm
open Go

def KLe (K K' : Kont) : Prop := ∀ f args cells r, K f args cells = some r → K' f args cells = some r
theorem KLe.refl (K : Kont) : KLe K K := fun _ _ _ _ h => h
theorem KLe.trans {K1 K2 K3 : Kont} (h : KLe K1 K2) (k : KLe K2 K3) : KLe K1 K3 := fun f a c r q => k f a c r (h f a c r q)

/-- steps that rise with what calls come to -/
def AUp {α : Type} (A : Kont → Acc α) : Prop := ∀ K K', KLe K K' → ∀ m l r, (A K).run m l = some r → (A K').run m l = some r
theorem AUp.const {α : Type} (a : Acc α) : AUp fun _ => a := fun _ _ _ _ _ _ h => h
theorem AUp.bind {α β : Type} {A : Kont → Acc α} {B : Kont → α → Acc β} (h : AUp A) (k : ∀ x, AUp fun K => B K x) : AUp fun K => A K >>= B K := by
  intro K K' hK m l r hr
  obtain ⟨y, m', l'⟩ := r
  obtain ⟨x, m1, l1, h1, h2⟩ := run_bind_some hr
  rw [run_bind, h K K' hK m l _ h1]
  exact k x K K' hK m1 l1 _ h2
theorem AUp.op {f : Nat} {args : List V} {cells : List Cell} : AUp fun K => op' (K f args cells) := by
  intro K K' hK m l r hr
  obtain ⟨x, m', l'⟩ := r
  obtain ⟨h1, rfl, rfl⟩ := run_op' hr
  simp only
  rw [hK f args cells x h1]
  rfl
/-- .. and with their limits -/
def ACt {α : Type} (Kn : Nat → Kont) (K : Kont) (A : Kont → Acc α) : Prop := ∀ m l r, (A K).run m l = some r → ∃ n, (A (Kn n)).run m l = some r
def Chain (Kn : Nat → Kont) : Prop := ∀ n, KLe (Kn n) (Kn (n + 1))
theorem Chain.le {Kn : Nat → Kont} (h : Chain Kn) {n k : Nat} (hk : n ≤ k) : KLe (Kn n) (Kn k) := by
  induction hk with
  | refl => exact KLe.refl _
  | step _ ih => exact ih.trans (h _)
section
variable {Kn : Nat → Kont} {K : Kont} (hc : Chain Kn)
theorem ACt.const {α : Type} (a : Acc α) : ACt Kn K fun _ => a := fun _ _ _ h => ⟨0, h⟩
include hc in
theorem ACt.bind {α β : Type} {A : Kont → Acc α} {B : Kont → α → Acc β} (hu : AUp A) (ku : ∀ x, AUp fun K => B K x) (h : ACt Kn K A) (k : ∀ x, ACt Kn K fun K => B K x) : ACt Kn K fun K => A K >>= B K := by
  intro m l r hr
  obtain ⟨y, m', l'⟩ := r
  obtain ⟨x, m1, l1, h1, h2⟩ := run_bind_some hr
  obtain ⟨n1, q1⟩ := h m l _ h1
  obtain ⟨n2, q2⟩ := k x m1 l1 _ h2
  refine ⟨max n1 n2, ?_⟩
  rw [run_bind, hu _ _ (hc.le (Nat.le_max_left n1 n2)) m l _ q1]
  exact ku x _ _ (hc.le (Nat.le_max_right n1 n2)) m1 l1 _ q2
theorem ACt.op (hK : ∀ f args cells r, K f args cells = some r → ∃ n, Kn n f args cells = some r) {f : Nat} {args : List V} {cells : List Cell} : ACt Kn K fun K => op' (K f args cells) := by
  intro m l r hr
  obtain ⟨x, m', l'⟩ := r
  obtain ⟨h1, rfl, rfl⟩ := run_op' hr
  obtain ⟨n, hn⟩ := hK f args cells x h1
  refine ⟨n, ?_⟩
  simp only
  rw [hn]
  rfl
end

theorem callV_up (X : Ctx) (fn dst f : Nat) (args : List V) : AUp fun K => callV X K fn dst f args := by
  unfold callV
  refine AUp.bind (AUp.const _) fun g => AUp.bind (AUp.const _) fun _ => AUp.bind (AUp.const _) fun args => AUp.bind (AUp.const _) fun cells => AUp.bind (AUp.const _) fun ⟨args, lent⟩ => AUp.bind (AUp.const _) fun _ => AUp.bind AUp.op fun out => AUp.const _
theorem callV_ct {Kn : Nat → Kont} {K : Kont} (hc : Chain Kn) (hK : ∀ f args cells r, K f args cells = some r → ∃ n, Kn n f args cells = some r) (X : Ctx) (fn dst f : Nat) (args : List V) : ACt Kn K fun K => callV X K fn dst f args := by
  unfold callV
  refine ACt.bind hc (AUp.const _) ?_ (ACt.const _) fun g => ?_
  · exact fun g => AUp.bind (AUp.const _) fun _ => AUp.bind (AUp.const _) fun args => AUp.bind (AUp.const _) fun cells => AUp.bind (AUp.const _) fun ⟨args, lent⟩ => AUp.bind (AUp.const _) fun _ => AUp.bind AUp.op fun out => AUp.const _
  refine ACt.bind hc (AUp.const _) ?_ (ACt.const _) fun _ => ?_
  · exact fun g => AUp.bind (AUp.const _) fun args => AUp.bind (AUp.const _) fun cells => AUp.bind (AUp.const _) fun ⟨args, lent⟩ => AUp.bind (AUp.const _) fun _ => AUp.bind AUp.op fun out => AUp.const _
  refine ACt.bind hc (AUp.const _) ?_ (ACt.const _) fun args => ?_
  · exact fun g => AUp.bind (AUp.const _) fun cells => AUp.bind (AUp.const _) fun ⟨args, lent⟩ => AUp.bind (AUp.const _) fun _ => AUp.bind AUp.op fun out => AUp.const _
  refine ACt.bind hc (AUp.const _) ?_ (ACt.const _) fun cells => ?_
  · exact fun g => AUp.bind (AUp.const _) fun ⟨args, lent⟩ => AUp.bind (AUp.const _) fun _ => AUp.bind AUp.op fun out => AUp.const _
  refine ACt.bind hc (AUp.const _) ?_ (ACt.const _) fun ⟨args, lent⟩ => ?_
  · exact fun ⟨args, lent⟩ => AUp.bind (AUp.const _) fun _ => AUp.bind AUp.op fun out => AUp.const _
  refine ACt.bind hc (AUp.const _) ?_ (ACt.const _) fun _ => ?_
  · exact fun _ => AUp.bind AUp.op fun out => AUp.const _
  exact ACt.bind hc AUp.op (fun out => AUp.const _) (ACt.op hK) fun out => ACt.const _

theorem vop_up (X : Ctx) (fn : Nat) (tm : Tmps) (o : Oper) : AUp fun K => vop X K fn tm o := by
  obtain ⟨dst, op, type, pos, after, guard⟩ := o
  cases op <;> try exact AUp.const _
  case call c =>
    obtain ⟨callee, args, tys⟩ := c
    cases callee with
    | value f =>
      simp only [vop]
      split
      · exact callV_up X fn _ _ _
      · exact AUp.const _
    | invoke r m => exact AUp.const _
    | builtin b => cases b <;> exact AUp.const _
  case makeFunc f a b => cases f <;> exact AUp.const _
  case slice a b c d e => cases e <;> exact AUp.const _
theorem vop_ct {Kn : Nat → Kont} {K : Kont} (hc : Chain Kn) (hK : ∀ f args cells r, K f args cells = some r → ∃ n, Kn n f args cells = some r) (X : Ctx) (fn : Nat) (tm : Tmps) (o : Oper) : ACt Kn K fun K => vop X K fn tm o := by
  obtain ⟨dst, op, type, pos, after, guard⟩ := o
  cases op <;> try exact ACt.const _
  case call c =>
    obtain ⟨callee, args, tys⟩ := c
    cases callee with
    | value f =>
      simp only [vop]
      split
      · exact callV_ct hc hK X fn _ _ _
      · exact ACt.const _
    | invoke r m => exact ACt.const _
    | builtin b => cases b <;> exact ACt.const _
  case makeFunc f a b => cases f <;> exact ACt.const _
  case slice a b c d e => cases e <;> exact ACt.const _

/-! ### what may fail, rising -/
def Up {β : Type} (E : Kont → Option β) : Prop := ∀ K K', KLe K K' → ∀ r, E K = some r → E K' = some r
def Ct {β : Type} (Kn : Nat → Kont) (K : Kont) (E : Kont → Option β) : Prop := ∀ r, E K = some r → ∃ n, E (Kn n) = some r
theorem Up.const {β : Type} (e : Option β) : Up fun _ => e := fun _ _ _ _ h => h
theorem Ct.const {β : Type} {Kn : Nat → Kont} {K : Kont} (e : Option β) : Ct Kn K fun _ => e := fun _ h => ⟨0, h⟩
theorem Up.bind {α β : Type} {E : Kont → Option α} {F : Kont → α → Option β} (h : Up E) (k : ∀ x, Up fun K => F K x) : Up fun K => (E K).bind (F K) := by
  intro K K' hK r hr
  simp only [Option.bind_eq_some_iff] at hr ⊢
  obtain ⟨x, h1, h2⟩ := hr
  exact ⟨x, h K K' hK x h1, k x K K' hK r h2⟩
theorem Ct.bind {α β : Type} {Kn : Nat → Kont} {K : Kont} (hc : Chain Kn) {E : Kont → Option α} {F : Kont → α → Option β} (hu : Up E) (ku : ∀ x, Up fun K => F K x) (h : Ct Kn K E) (k : ∀ x, Ct Kn K fun K => F K x) : Ct Kn K fun K => (E K).bind (F K) := by
  intro r hr
  simp only [Option.bind_eq_some_iff] at hr ⊢
  obtain ⟨x, h1, h2⟩ := hr
  obtain ⟨n1, q1⟩ := h x h1
  obtain ⟨n2, q2⟩ := k x r h2
  exact ⟨max n1 n2, x, hu _ _ (hc.le (Nat.le_max_left n1 n2)) x q1, ku x _ _ (hc.le (Nat.le_max_right n1 n2)) r q2⟩

theorem runOp_up (X : Ctx) (fn : Nat) (ops : Array Oper) (i : Nat) (S : St) : Up fun K => runOp X K fn ops i S := by
  intro K K' hK r hr
  simp only [runOp] at hr ⊢
  cases ho : ops[i]? with
  | none => simp [ho] at hr
  | some o =>
    simp only [ho] at hr ⊢
    cases hw : wantedV ops S.tm o with
    | none => simp [hw] at hr
    | some bt =>
      obtain ⟨b, tm⟩ := bt
      cases b with
      | false => simpa [hw] using hr
      | true =>
        simp only [hw] at hr ⊢
        cases hv : (vop X K fn tm o).run S.mem .none with
        | none => simp [hv] at hr
        | some q => rw [vop_up X fn tm o K K' hK S.mem .none q hv]; rw [hv] at hr; exact hr
theorem runOp_ct {Kn : Nat → Kont} {K : Kont} (hc : Chain Kn) (hK : ∀ f args cells r, K f args cells = some r → ∃ n, Kn n f args cells = some r) (X : Ctx) (fn : Nat) (ops : Array Oper) (i : Nat) (S : St) : Ct Kn K fun K => runOp X K fn ops i S := by
  intro r hr
  simp only [runOp] at hr ⊢
  cases ho : ops[i]? with
  | none => simp [ho] at hr
  | some o =>
    simp only [ho] at hr ⊢
    cases hw : wantedV ops S.tm o with
    | none => simp [hw] at hr
    | some bt =>
      obtain ⟨b, tm⟩ := bt
      cases b with
      | false => exact ⟨0, by simpa [hw] using hr⟩
      | true =>
        simp only [hw] at hr ⊢
        cases hv : (vop X K fn tm o).run S.mem .none with
        | none => simp [hv] at hr
        | some q =>
          obtain ⟨n, hn⟩ := vop_ct hc hK X fn tm o S.mem .none q hv
          exact ⟨n, by rw [hn]; rw [hv] at hr; exact hr⟩
theorem runOps_eq (X : Ctx) (fn : Nat) (ops : Array Oper) (i : Nat) (is : List Nat) (S : St) (L : List (Nat × Log)) (K : Kont) :
    runOps X K fn ops (i :: is) S L = (runOp X K fn ops i S).bind fun r => runOps X K fn ops is r.1 ((i, r.2) :: L) := by
  simp only [runOps]
  cases runOp X K fn ops i S with
  | none => rfl
  | some r => rfl
theorem runOps_up (X : Ctx) (fn : Nat) (ops : Array Oper) : ∀ (is : List Nat) (S : St) (L : List (Nat × Log)), Up fun K => runOps X K fn ops is S L
  | [], S, L => Up.const _
  | i :: is, S, L => by
    simp only [runOps_eq]
    exact Up.bind (runOp_up X fn ops i S) fun r => runOps_up X fn ops is r.1 _
theorem runOps_ct {Kn : Nat → Kont} {K : Kont} (hc : Chain Kn) (hK : ∀ f args cells r, K f args cells = some r → ∃ n, Kn n f args cells = some r) (X : Ctx) (fn : Nat) (ops : Array Oper) : ∀ (is : List Nat) (S : St) (L : List (Nat × Log)), Ct Kn K fun K => runOps X K fn ops is S L
  | [], S, L => Ct.const _
  | i :: is, S, L => by
    simp only [runOps_eq]
    exact Ct.bind hc (runOp_up X fn ops i S) (fun r => runOps_up X fn ops is r.1 _) (runOp_ct hc hK X fn ops i S) fun r => runOps_ct hc hK X fn ops is r.1 _
theorem fuseOp_up (X : Ctx) (tm : Tmps) (o1 o2 o3 : Oper) : AUp fun K => fuseOp X K tm o1 o2 o3 := by
  unfold fuseOp
  split
  · refine AUp.bind (AUp.const _) fun _ => AUp.bind (AUp.const _) fun e => ?_
    split
    · refine AUp.bind (AUp.const _) fun c => ?_
      split
      · exact AUp.bind (AUp.const _) fun _ => AUp.bind (AUp.const _) fun row => AUp.bind (AUp.const _) fun rs => AUp.bind (AUp.const _) fun _ => AUp.bind AUp.op fun out => AUp.const _
      · exact AUp.const _
    · exact AUp.const _
  · exact AUp.const _
theorem fuseOp_ct {Kn : Nat → Kont} {K : Kont} (hc : Chain Kn) (hK : ∀ f args cells r, K f args cells = some r → ∃ n, Kn n f args cells = some r) (X : Ctx) (tm : Tmps) (o1 o2 o3 : Oper) : ACt Kn K fun K => fuseOp X K tm o1 o2 o3 := by
  unfold fuseOp
  split
  · refine ACt.bind hc (AUp.const _) ?_ (ACt.const _) fun _ => ACt.bind hc (AUp.const _) ?_ (ACt.const _) fun e => ?_
    · intro _
      refine AUp.bind (AUp.const _) fun e => ?_
      split
      · refine AUp.bind (AUp.const _) fun c => ?_
        split
        · exact AUp.bind (AUp.const _) fun _ => AUp.bind (AUp.const _) fun row => AUp.bind (AUp.const _) fun rs => AUp.bind (AUp.const _) fun _ => AUp.bind AUp.op fun out => AUp.const _
        · exact AUp.const _
      · exact AUp.const _
    · intro e
      split
      · refine AUp.bind (AUp.const _) fun c => ?_
        split
        · exact AUp.bind (AUp.const _) fun _ => AUp.bind (AUp.const _) fun row => AUp.bind (AUp.const _) fun rs => AUp.bind (AUp.const _) fun _ => AUp.bind AUp.op fun out => AUp.const _
        · exact AUp.const _
      · exact AUp.const _
    · split
      · refine ACt.bind hc (AUp.const _) ?_ (ACt.const _) fun c => ?_
        · intro c
          split
          · exact AUp.bind (AUp.const _) fun _ => AUp.bind (AUp.const _) fun row => AUp.bind (AUp.const _) fun rs => AUp.bind (AUp.const _) fun _ => AUp.bind AUp.op fun out => AUp.const _
          · exact AUp.const _
        · split
          · refine ACt.bind hc (AUp.const _) ?_ (ACt.const _) fun _ => ACt.bind hc (AUp.const _) ?_ (ACt.const _) fun row => ACt.bind hc (AUp.const _) ?_ (ACt.const _) fun rs => ACt.bind hc (AUp.const _) ?_ (ACt.const _) fun _ => ACt.bind hc AUp.op (fun out => AUp.const _) (ACt.op hK) fun out => ACt.const _
            · exact fun _ => AUp.bind (AUp.const _) fun row => AUp.bind (AUp.const _) fun rs => AUp.bind (AUp.const _) fun _ => AUp.bind AUp.op fun out => AUp.const _
            · exact fun row => AUp.bind (AUp.const _) fun rs => AUp.bind (AUp.const _) fun _ => AUp.bind AUp.op fun out => AUp.const _
            · exact fun rs => AUp.bind (AUp.const _) fun _ => AUp.bind AUp.op fun out => AUp.const _
            · exact fun _ => AUp.bind AUp.op fun out => AUp.const _
          · exact ACt.const _
      · exact ACt.const _
  · exact ACt.const _
theorem runFuse_eq (X : Ctx) (fn : Nat) (ops : Array Oper) (p : Nat) (S : St) (K : Kont) : runFuse X K fn ops p S =
    match ops[p]?, ops[p + 1]?, ops[p + 2]? with
    | some o1, some o2, some o3 => ((fuseOp X K S.tm o1 o2 o3).run S.mem .none).bind fun r =>
      bif Nat.blt r.1.1 (ntOf X.P fn) && (Nat.blt r.1.2.1 (ntOf X.P fn) && dstOk (ntOf X.P fn) o3.dst) then some ⟨putT o3.dst r.1.2.2.2 (put r.1.2.1 r.1.2.2.1 (put r.1.1 .undef S.tm)), r.2.1⟩ else none
    | _, _, _ => none := by
  simp only [runFuse]
  cases ops[p]? with
  | none => rfl
  | some o1 => cases ops[p + 1]? with
    | none => rfl
    | some o2 => cases ops[p + 2]? with
      | none => rfl
      | some o3 =>
        simp only
        cases (fuseOp X K S.tm o1 o2 o3).run S.mem .none with
        | none => rfl
        | some r => rfl
theorem runFuse_up (X : Ctx) (fn : Nat) (ops : Array Oper) (p : Nat) (S : St) : Up fun K => runFuse X K fn ops p S := by
  simp only [runFuse_eq]
  cases ops[p]? with
  | none => exact Up.const _
  | some o1 => cases ops[p + 1]? with
    | none => exact Up.const _
    | some o2 => cases ops[p + 2]? with
      | none => exact Up.const _
      | some o3 => exact Up.bind (fun K K' hK r hr => fuseOp_up X S.tm o1 o2 o3 K K' hK S.mem .none r hr) fun r => Up.const _
theorem runFuse_ct {Kn : Nat → Kont} {K : Kont} (hc : Chain Kn) (hK : ∀ f args cells r, K f args cells = some r → ∃ n, Kn n f args cells = some r) (X : Ctx) (fn : Nat) (ops : Array Oper) (p : Nat) (S : St) : Ct Kn K fun K => runFuse X K fn ops p S := by
  simp only [runFuse_eq]
  cases ops[p]? with
  | none => exact Ct.const _
  | some o1 => cases ops[p + 1]? with
    | none => exact Ct.const _
    | some o2 => cases ops[p + 2]? with
      | none => exact Ct.const _
      | some o3 => exact Ct.bind hc (fun K K' hK r hr => fuseOp_up X S.tm o1 o2 o3 K K' hK S.mem .none r hr) (fun r => Up.const _) (fun r hr => fuseOp_ct hc hK X S.tm o1 o2 o3 S.mem .none r hr) fun r => Ct.const _
theorem regionRun_eq (X : Ctx) (fn id : Nat) (ops : Array Oper) (draw : Bool) (S : St) (K : Kont) : regionRun X K fn id ops draw S =
    match X.adv.fuse fn id with
    | 0 => runOps X K fn ops (List.range ops.size) S []
    | p + 1 => match draw with
      | true => none
      | false => (runOps X K fn ops (List.range p) S []).bind fun r => (runFuse X K fn ops p r.1).bind fun S2 => runOps X K fn ops ((List.range ops.size).drop (p + 3)) S2 [] := by
  simp only [regionRun]
  cases X.adv.fuse fn id with
  | zero => rfl
  | succ p =>
    cases draw with
    | true => rfl
    | false =>
      simp only
      cases runOps X K fn ops (List.range p) S [] with
      | none => rfl
      | some r =>
        simp only [Option.bind_some]
        cases runFuse X K fn ops p r.1 <;> rfl
theorem regionRun_up (X : Ctx) (fn id : Nat) (ops : Array Oper) (draw : Bool) (S : St) : Up fun K => regionRun X K fn id ops draw S := by
  simp only [regionRun_eq]
  cases X.adv.fuse fn id with
  | zero => exact runOps_up X fn ops _ S _
  | succ p =>
    cases draw with
    | true => exact Up.const _
    | false => exact Up.bind (runOps_up X fn ops _ S _) fun r => Up.bind (runFuse_up X fn ops p r.1) fun S2 => runOps_up X fn ops _ S2 _
theorem regionRun_ct {Kn : Nat → Kont} {K : Kont} (hc : Chain Kn) (hK : ∀ f args cells r, K f args cells = some r → ∃ n, Kn n f args cells = some r) (X : Ctx) (fn id : Nat) (ops : Array Oper) (draw : Bool) (S : St) : Ct Kn K fun K => regionRun X K fn id ops draw S := by
  simp only [regionRun_eq]
  cases X.adv.fuse fn id with
  | zero => exact runOps_ct hc hK X fn ops _ S _
  | succ p =>
    cases draw with
    | true => exact Ct.const _
    | false =>
      exact Ct.bind hc (runOps_up X fn ops _ S _) (fun r => Up.bind (runFuse_up X fn ops p r.1) fun S2 => runOps_up X fn ops _ S2 _) (runOps_ct hc hK X fn ops _ S _) fun r =>
        Ct.bind hc (runFuse_up X fn ops p r.1) (fun S2 => runOps_up X fn ops _ S2 _) (runFuse_ct hc hK X fn ops p r.1) fun S2 => runOps_ct hc hK X fn ops _ S2 _
theorem region_eq (X : Ctx) (fn id : Nat) (ops : Array Oper) (draw : Bool) (S : St) (K : Kont) :
    region X K fn id ops draw S = (regionRun X K fn id ops draw S).bind fun r =>
      bif (match draw with | false => true | true => X.P.follows .mixedOrders && (backOk ops && drawOk ops (Region.before ops) r.2)) then prune (X.adv.keep fn id) r.1 else none := by
  simp only [region]
  cases regionRun X K fn id ops draw S with
  | none => rfl
  | some r => rfl
theorem region_up (X : Ctx) (fn id : Nat) (ops : Array Oper) (draw : Bool) (S : St) : Up fun K => region X K fn id ops draw S := by
  simp only [region_eq]
  exact Up.bind (regionRun_up X fn id ops draw S) fun r => Up.const _
theorem region_ct {Kn : Nat → Kont} {K : Kont} (hc : Chain Kn) (hK : ∀ f args cells r, K f args cells = some r → ∃ n, Kn n f args cells = some r) (X : Ctx) (fn id : Nat) (ops : Array Oper) (draw : Bool) (S : St) : Ct Kn K fun K => region X K fn id ops draw S := by
  simp only [region_eq]
  exact Ct.bind hc (regionRun_up X fn id ops draw S) (fun r => Up.const _) (regionRun_ct hc hK X fn id ops draw S) fun r => Ct.const _

/-! ### loops -/
theorem iter_more {b : St → Option (Ex × St)} : ∀ {n k : Nat} {S : St} {r : Ex × St}, iter b n S = some r → n ≤ k → iter b k S = some r
  | 0, _, _, _, h, _ => by simp [iter] at h
  | n + 1, 0, _, _, _, hk => by omega
  | n + 1, k + 1, S, r, h, hk => by
    simp only [iter] at h ⊢
    cases hb : b S with
    | none => simp [hb] at h
    | some q =>
      obtain ⟨e, S'⟩ := q
      rw [hb] at h
      cases e with
      | normal => exact iter_more h (by omega)
      | exit id => exact h
      | ret => exact h
theorem lim_of {α : Type} {f : Nat → Option α} {x : α} {n : Nat} (hn : f n = some x) (h : ∀ m y, f m = some y → y = x) : lim f = some x := by
  unfold lim
  rw [dif_pos ⟨x, n, hn⟩]
  congr 1
  obtain ⟨m, hm⟩ := Classical.choose_spec (⟨x, n, hn⟩ : ∃ a n, f n = some a)
  exact h m _ hm
theorem loopL_of {b : St → Option (Ex × St)} {S : St} {r : Ex × St} {n : Nat} (h : iter b n S = some r) : loopL b S = some r := by
  refine lim_of h fun m y hy => ?_
  have h1 := iter_more h (Nat.le_max_left n m)
  rw [iter_more hy (Nat.le_max_right n m)] at h1
  exact Option.some.inj h1
theorem loopL_some {b : St → Option (Ex × St)} {S : St} {r : Ex × St} (h : loopL b S = some r) : ∃ n, iter b n S = some r := lim_some h
theorem iter_eq {b : St → Option (Ex × St)} {n : Nat} {S : St} : iter b (n + 1) S = (b S).bind fun q => match q with | (.normal, S') => iter b n S' | (e, S') => some (e, S') := by
  simp only [iter]
  cases b S with
  | none => rfl
  | some q => obtain ⟨e, S'⟩ := q; cases e <;> rfl
theorem iter_up {B : Kont → St → Option (Ex × St)} (h : ∀ S, Up fun K => B K S) : ∀ (n : Nat) (S : St), Up fun K => iter (B K) n S
  | 0, S => Up.const _
  | n + 1, S => by
    simp only [iter_eq]
    refine Up.bind (h S) fun q => ?_
    obtain ⟨e, S'⟩ := q
    cases e with
    | normal => exact iter_up h n S'
    | exit id => exact Up.const _
    | ret => exact Up.const _
theorem iter_ct {Kn : Nat → Kont} {K : Kont} (hc : Chain Kn) {B : Kont → St → Option (Ex × St)} (hu : ∀ S, Up fun K => B K S) (h : ∀ S, Ct Kn K fun K => B K S) : ∀ (n : Nat) (S : St), Ct Kn K fun K => iter (B K) n S
  | 0, S => Ct.const _
  | n + 1, S => by
    simp only [iter_eq]
    refine Ct.bind hc (hu S) (fun q => ?_) (h S) fun q => ?_
    all_goals
      obtain ⟨e, S'⟩ := q
      cases e
    · exact iter_up hu n S'
    · exact Up.const _
    · exact Up.const _
    · exact iter_ct hc hu h n S'
    · exact Ct.const _
    · exact Ct.const _
theorem loopL_up {B : Kont → St → Option (Ex × St)} (h : ∀ S, Up fun K => B K S) (S : St) : Up fun K => loopL (B K) S := by
  intro K K' hK r hr
  obtain ⟨n, hn⟩ := loopL_some hr
  exact loopL_of (iter_up h n S K K' hK r hn)
theorem loopL_ct {Kn : Nat → Kont} {K : Kont} (hc : Chain Kn) {B : Kont → St → Option (Ex × St)} (hu : ∀ S, Up fun K => B K S) (h : ∀ S, Ct Kn K fun K => B K S) (S : St) : Ct Kn K fun K => loopL (B K) S := by
  intro r hr
  obtain ⟨n, hn⟩ := loopL_some hr
  obtain ⟨k, hk⟩ := iter_ct hc hu h n S r hn
  exact ⟨k, loopL_of hk⟩

/-! ### code -/
theorem den_up (X : Ctx) (fn : Nat) (c : Code) : ∀ S, Up fun K => den X K fn c S := by
  induction c with
  | region id ops draw =>
    intro S K K' hK r hr
    simp only [den] at hr ⊢
    cases h : region X K fn id ops draw S with
    | none => simp [h] at hr
    | some S' =>
      have he0 := region_up X fn id ops draw S K K' hK S' h
      dsimp only at he0
      rw [he0]; rw [h] at hr; exact hr
  | seq a b iha ihb =>
    intro S K K' hK r hr
    simp only [den] at hr ⊢
    cases h : den X K fn a S with
    | none => simp [h] at hr
    | some q =>
      have he0 := iha S K K' hK q h
      dsimp only at he0
      rw [he0]
      rw [h] at hr
      obtain ⟨e, S'⟩ := q
      cases e with
      | normal => exact ihb S' K K' hK r hr
      | exit id => exact hr
      | ret => exact hr
  | cond c a b iha ihb =>
    intro S K K' hK r hr
    simp only [den] at hr ⊢
    cases h : condV X.P S.tm c with
    | none => simp [h] at hr
    | some q =>
      rw [h] at hr
      cases q with
      | true => exact iha S K K' hK r hr
      | false => exact ihb S K K' hK r hr
  | block id c ih =>
    intro S K K' hK r hr
    simp only [den] at hr ⊢
    cases h : den X K fn c S with
    | none => simp [h] at hr
    | some q =>
      have he0 := ih S K K' hK q h
      dsimp only at he0
      rw [he0]; rw [h] at hr; exact hr
  | loop c ih =>
    intro S
    exact loopL_up ih S
  | _ => intro S; exact Up.const _
theorem den_ct {Kn : Nat → Kont} {K : Kont} (hc : Chain Kn) (hK : ∀ f args cells r, K f args cells = some r → ∃ n, Kn n f args cells = some r) (X : Ctx) (fn : Nat) (c : Code) : ∀ S, Ct Kn K fun K => den X K fn c S := by
  induction c with
  | region id ops draw =>
    intro S r hr
    simp only [den] at hr ⊢
    cases h : region X K fn id ops draw S with
    | none => simp [h] at hr
    | some S' =>
      obtain ⟨n, hn⟩ := region_ct hc hK X fn id ops draw S S' h
      dsimp only at hn
      exact ⟨n, by rw [hn]; rw [h] at hr; exact hr⟩
  | seq a b iha ihb =>
    intro S r hr
    simp only [den] at hr ⊢
    cases h : den X K fn a S with
    | none => simp [h] at hr
    | some q =>
      obtain ⟨n, hn⟩ := iha S q h
      dsimp only at hn
      rw [h] at hr
      obtain ⟨e, S'⟩ := q
      cases e with
      | normal =>
        obtain ⟨k, hk⟩ := ihb S' r hr
        dsimp only at hk
        refine ⟨max n k, ?_⟩
        have he0 := den_up X fn a S _ _ (hc.le (Nat.le_max_left n k)) _ hn
        dsimp only at he0
        rw [he0]
        exact den_up X fn b S' _ _ (hc.le (Nat.le_max_right n k)) _ hk
      | exit id => exact ⟨n, by rw [hn]; exact hr⟩
      | ret => exact ⟨n, by rw [hn]; exact hr⟩
  | cond c a b iha ihb =>
    intro S r hr
    simp only [den] at hr ⊢
    cases h : condV X.P S.tm c with
    | none => simp [h] at hr
    | some q =>
      rw [h] at hr
      cases q with
      | true => exact iha S r hr
      | false => exact ihb S r hr
  | block id c ih =>
    intro S r hr
    simp only [den] at hr ⊢
    cases h : den X K fn c S with
    | none => simp [h] at hr
    | some q =>
      obtain ⟨n, hn⟩ := ih S q h
      dsimp only at hn
      exact ⟨n, by rw [hn]; rw [h] at hr; exact hr⟩
  | loop c ih =>
    intro S
    exact loopL_ct hc (den_up X fn c) ih S
  | _ => intro S; exact Ct.const _

theorem body_up (X : Ctx) (f : Nat) (args : List V) (cells : List Cell) : Up fun K => body X K f args cells := by
  intro K K' hK r hr
  simp only [body] at hr ⊢
  cases hg : X.P.funcs[f]? with
  | none => simp [hg] at hr
  | some g =>
    simp only [hg] at hr ⊢
    cases hcd : g.body with
    | none => simp [hcd] at hr
    | some c =>
      simp only [hcd] at hr ⊢
      revert hr
      generalize (!(Nat.ble cells.length impBase && Nat.ble args.length g.ntmps)) = q
      cases q with
      | true => exact id
      | false =>
        simp only [cond_false]
        intro hr
        split at hr
        · rename_i tm m l he
          cases h : den X K f c ⟨tm, m⟩ with
          | none => simp [h] at hr
          | some q =>
            have he0 := den_up X f c ⟨tm, m⟩ K K' hK q h
            dsimp only at he0
            rw [he0]; rw [h] at hr; exact hr
        · cases hr
theorem body_ct {Kn : Nat → Kont} {K : Kont} (hc : Chain Kn) (hK : ∀ f args cells r, K f args cells = some r → ∃ n, Kn n f args cells = some r) (X : Ctx) (f : Nat) (args : List V) (cells : List Cell) : Ct Kn K fun K => body X K f args cells := by
  intro r hr
  simp only [body] at hr ⊢
  cases hg : X.P.funcs[f]? with
  | none => simp [hg] at hr
  | some g =>
    simp only [hg] at hr ⊢
    cases hcd : g.body with
    | none => simp [hcd] at hr
    | some c =>
      simp only [hcd] at hr ⊢
      revert hr
      generalize (!(Nat.ble cells.length impBase && Nat.ble args.length g.ntmps)) = q
      cases q with
      | true => exact fun h => ⟨0, h⟩
      | false =>
        simp only [cond_false]
        intro hr
        split at hr
        · rename_i tm m l he
          cases h : den X K f c ⟨tm, m⟩ with
          | none => simp [h] at hr
          | some q =>
            obtain ⟨n, hn⟩ := den_ct hc hK X f c ⟨tm, m⟩ q h
            dsimp only at hn
            exact ⟨n, by rw [hn]; rw [h] at hr; exact hr⟩
        · cases hr

theorem callN_chain (X : Ctx) : Chain (callN X)
  | 0 => fun f args cells r h => by simp [callN] at h
  | n + 1 => fun f args cells r h => by
    simp only [callN] at h ⊢
    cases hp : X.prim f with
    | some p => simpa [hp] using h
    | none =>
      simp only [hp] at h ⊢
      exact body_up X f args cells _ _ (callN_chain X n) r h
theorem call_of_n {X : Ctx} {n : Nat} {f : Nat} {args : List V} {cells : List Cell} {r : List Row × List Cell} (h : callN X n f args cells = some r) : call X f args cells = some r := by
  refine lim_of h fun m y hy => ?_
  have h1 := (callN_chain X).le (Nat.le_max_left n m) f args cells r h
  rw [(callN_chain X).le (Nat.le_max_right n m) f args cells y hy] at h1
  exact Option.some.inj h1
theorem call_of {X : Ctx} {K : Kont} (hK : KLe K (call X)) {f : Nat} {args : List V} {cells : List Cell} {r : List Row × List Cell} (hp : X.prim f = none) (h : body X K f args cells = some r) : call X f args cells = some r := by
  have h1 := body_up X f args cells K (call X) hK r h
  obtain ⟨n, hn⟩ := body_ct (callN_chain X) (fun f a c r hr => lim_some hr) X f args cells r h1
  dsimp only at hn
  refine call_of_n (n := n + 1) ?_
  simp only [callN, hp]
  exact hn
theorem call_of_prim {X : Ctx} {f : Nat} {p : List V → List Cell → Option (List Row × List Cell)} {args : List V} {cells : List Cell} {r : List Row × List Cell} (hp : X.prim f = some p) (h : p args cells = some r) : call X f args cells = some r :=
  call_of_n (n := 1) (by simp only [callN, hp]; exact h)
end Go.Vm
