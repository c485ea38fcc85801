/-
  The machine's operations are Go's: numbers, strings, truth values, conversions.
-/
import Derived.Test.YtfbemlhfieemhaaVmOps10
import Derived.Laws.Strings
namespace Go.Vm
open Go

section
variable {base : Nat} {U : Nat → Prop} {M0 : List Nat} {w0 w w' : World} {m m' : Mem} {G G' : GS} {P : Program}

/-- a plain cell's value -/
def gvD : D → Value
  | .int k n => .int k n
  | .bool b => .bool b
  | .str s => .string ⟨⟨s⟩⟩
  | _ => .nilFunc
theorem ro_gv {h : View} {x : D} (hf : x.flat = true) : ro h x (gvD x) := by
  cases x with
  | sl _ _ _ => simp [D.flat] at hf
  | _ => simp [gvD, ro]

theorem binI_ok {op : BinOp} {k : IntKind} {a b : Int} {v : V} {t : TypeId} (ho : shiftOp op = false) (h : binI op k a b = some v) : ∃ x, v = .d x ∧ x.flat = true ∧ (binOp op t (.int k a) (.int k b)).run P w = .ok (gvD x) w := by
  cases op
  case add => cases h; exact ⟨_, rfl, rfl, by simp [binOp, Op.intArith, gvD]⟩
  case sub => cases h; exact ⟨_, rfl, rfl, by simp [binOp, Op.intArith, gvD]⟩
  case mul => cases h; exact ⟨_, rfl, rfl, by simp [binOp, Op.intArith, gvD]⟩
  case and => cases h; exact ⟨_, rfl, rfl, by simp [binOp, Op.intBits, gvD]⟩
  case or => cases h; exact ⟨_, rfl, rfl, by simp [binOp, Op.intBits, gvD]⟩
  case xor => cases h; exact ⟨_, rfl, rfl, by simp [binOp, Op.intBits, gvD]⟩
  case eql => cases h; exact ⟨_, rfl, rfl, by simp [binOp, Op.intCmp, gvD]⟩
  case neq => cases h; exact ⟨_, rfl, rfl, by simp [binOp, Op.intCmp, gvD]⟩
  case lss => cases h; exact ⟨_, rfl, rfl, by simp [binOp, Op.intCmp, gvD]⟩
  case leq => cases h; exact ⟨_, rfl, rfl, by simp [binOp, Op.intCmp, gvD]⟩
  case gtr => cases h; exact ⟨_, rfl, rfl, by simp [binOp, Op.intCmp, gvD]⟩
  case geq => cases h; exact ⟨_, rfl, rfl, by simp [binOp, Op.intCmp, gvD]⟩
  case quo =>
    simp only [binI] at h
    by_cases hb : b = 0
    · simp [hb] at h
    · simp only [hb, decide_false, cond_false, Option.some.injEq] at h
      subst h
      exact ⟨_, rfl, rfl, by simp [binOp, Op.intDiv, hb, gvD]⟩
  case rem =>
    simp only [binI] at h
    by_cases hb : b = 0
    · simp [hb] at h
    · simp only [hb, decide_false, cond_false, Option.some.injEq] at h
      subst h
      exact ⟨_, rfl, rfl, by simp [binOp, Op.intDiv, hb, gvD]⟩
  all_goals first | (cases ho; done) | (cases h; done)
theorem binShift_ok {op : BinOp} {k k' : IntKind} {a b : Int} {v : V} {t : TypeId} (h : binShift op k a b = some v) : ∃ x, v = .d x ∧ x.flat = true ∧ (binOp op t (.int k a) (.int k' b)).run P w = .ok (gvD x) w := by
  unfold binShift at h
  by_cases hb : b < 0
  · simp [hb] at h
  · simp only [hb, decide_false, cond_false] at h
    cases op <;> simp only at h <;> first | (cases h; done) | skip
    all_goals
      cases h
      exact ⟨_, rfl, rfl, by simp [binOp, Op.shift, hb, gvD]⟩
theorem toList_mk (s : List UInt8) : (ByteArray.mk ⟨s⟩).toList = s := by
  rw [ByteArray.toList_eq]
theorem append_mk (a b : List UInt8) : ByteArray.mk ⟨a⟩ ++ ByteArray.mk ⟨b⟩ = ⟨⟨a ++ b⟩⟩ := by
  have : (ByteArray.mk ⟨a⟩ ++ ByteArray.mk ⟨b⟩).data = ⟨a ++ b⟩ := by
    rw [ByteArray.data_append]
    simp
  exact congrArg ByteArray.mk this
theorem binS_ok {op : BinOp} {a b : List UInt8} {v : V} {t : TypeId} {l l' : Log} (h : (binS op a b).run m l = some (v, m', l')) :
    m' = m ∧ ∃ x, v = .d x ∧ x.flat = true ∧ (binOp op t (.string ⟨⟨a⟩⟩) (.string ⟨⟨b⟩⟩)).run P w = .ok (gvD x) w := by
  cases op <;> simp only [binS] at h <;> try exact (run_fail h).elim
  case add =>
    cases hc : Nat.ble (a.length + b.length) strMax with
    | false => rw [hc] at h; simp [Acc.run] at h
    | true =>
      rw [hc] at h
      change some (_, _, _) = _ at h
      simp only [Option.some.injEq, Prod.mk.injEq] at h
      obtain ⟨rfl, rfl, _⟩ := h
      have hc := Nat.le_of_ble_eq_true hc
      have hm : IntKind.i64.max = (strMax : Int) := by decide
      have hn : ¬ ((((ByteArray.mk ⟨a⟩).size + (ByteArray.mk ⟨b⟩).size : Nat) : Int) > IntKind.i64.max) := by
        rw [hm]
        have h1 : (ByteArray.mk ⟨a⟩).size = a.length := rfl
        have h2 : (ByteArray.mk ⟨b⟩).size = b.length := rfl
        rw [h1, h2]
        omega
      refine ⟨rfl, _, rfl, rfl, ?_⟩
      simp only [binOp, Op.stringOp, if_neg hn, Sem.run_pure, append_mk, gvD]
  all_goals
    change some (_, _, _) = _ at h
    simp only [Option.some.injEq, Prod.mk.injEq] at h
    obtain ⟨rfl, rfl, _⟩ := h
    refine ⟨rfl, _, rfl, rfl, ?_⟩
    simp [binOp, Op.stringOp, toList_mk, gvD]
theorem boolT_some {t : TypeId} (h : boolT P t = true) : P.underlying t = some .bool := by
  unfold boolT at h
  cases hd : P.underlying t with
  | none => simp [hd] at h
  | some d => rw [hd] at h; cases d <;> simp at h; rfl

theorem run_eqGuard {op : BinOp} {t : TypeId} {ox oy : Operand} {a b : Value} (h : ∀ c, a ≠ .agg c) (hn : a ≠ .nilIface) : (eqGuard op t ox oy a b).run P w = .ok () w := by
  unfold eqGuard
  cases op <;> simp
  all_goals cases a <;> first | exact absurd rfl (h _) | exact absurd rfl hn | simp

theorem run_equalBool {t : TypeId} (h : P.underlying t = some .bool) (a b : Bool) : (Op.equalIn Op.maxDepth t (.bool a) (.bool b)).run P w = .ok (a == b) w := by
  have : ∀ d, (Op.equalIn (d + 1) t (.bool a) (.bool b)).run P w = .ok (a == b) w := by
    intro d
    simp [Op.equalIn, run_underlying h]
  exact this 9999
theorem bin_ok (hA : At base U M0 w0 w m G) {op : BinOp} {t : TypeId} {ox oy : Operand} {x y : V} {gx gy : Value} (hx : simV G.μ m (Gh U w G) x gx) (hy : simV G.μ m (Gh U w G) y gy) {v : V} {l l' : Log} (h : (bin (boolT P t) op x y).run m l = some (v, m', l')) :
    OpR base U M0 w0 w m G P (do eqGuard op t ox oy gx gy; binOp op t gx gy) v m' := by
  have close : ∀ {x : D}, (∀ c, gx ≠ .agg c) → gx ≠ .nilIface → x.flat = true → (binOp op t gx gy).run P w = .ok (gvD x) w → OpR base U M0 w0 w m G P (do eqGuard op t ox oy gx gy; binOp op t gx gy) (.d x) m := by
    intro x h1 h2 hq hr
    refine OpR.same hA (g := gvD x) ?_ (by simp only [simV]; exact ro_gv hq)
    simp only [Sem.run_bind, run_eqGuard h1 h2, Result.andThen_ok, hr]
  unfold bin at h
  split at h
  · simp only [simV, ro] at hx hy
    subst hx hy
    split at h
    · rename_i ho
      cases hb : binShift op _ _ _ with
      | none => rw [hb] at h; simp [Acc.run] at h
      | some r =>
        rw [hb] at h
        change some (_, _, _) = _ at h
        simp only [Option.some.injEq, Prod.mk.injEq] at h
        obtain ⟨rfl, rfl, _⟩ := h
        obtain ⟨x, rfl, hq, hr⟩ := binShift_ok (P := P) (w := w) (t := t) hb
        exact close (by simp) (by simp) hq hr
    · rename_i ho
      split at h
      · rename_i hk
        have hk := of_decide_eq_true hk
        subst hk
        cases hb : binI op _ _ _ with
        | none => rw [hb] at h; simp [Acc.run] at h
        | some r =>
          rw [hb] at h
          change some (_, _, _) = _ at h
          simp only [Option.some.injEq, Prod.mk.injEq] at h
          obtain ⟨rfl, rfl, _⟩ := h
          obtain ⟨x, rfl, hq, hr⟩ := binI_ok (P := P) (w := w) (t := t) ho hb
          exact close (by simp) (by simp) hq hr
      · exact (run_fail h).elim
  · simp only [simV, ro] at hx hy
    subst hx hy
    obtain ⟨rfl, x, rfl, hq, hr⟩ := binS_ok (P := P) (w := w) (t := t) h
    exact close (by simp) (by simp) hq hr
  · simp only [simV, ro] at hx hy
    subst hx hy
    split at h
    · rename_i hbt
      have hbt := boolT_some hbt
      cases op <;> simp only [binB] at h <;> try (simp [Acc.run] at h; done)
      all_goals
        change some (_, _, _) = _ at h
        simp only [Option.some.injEq, Prod.mk.injEq] at h
        obtain ⟨rfl, rfl, _⟩ := h
        refine close (by simp) (by simp) rfl ?_
        simp only [binOp, Op.equal, Sem.run_bind, run_equalBool hbt, Result.andThen_ok, Sem.run_pure, gvD]
    · exact (run_fail h).elim
  · exact (run_fail h).elim

theorem un_ok (hA : At base U M0 w0 w m G) {op : UnOp} {x : V} {gx : Value} (hx : simV G.μ m (Gh U w G) x gx) {v : V} {l l' : Log} (h : (un op x).run m l = some (v, m', l')) :
    OpR base U M0 w0 w m G P (Op.unary op gx) v m' := by
  unfold un at h
  split at h
  · change some (_, _, _) = _ at h
    simp only [Option.some.injEq, Prod.mk.injEq] at h
    obtain ⟨rfl, rfl, _⟩ := h
    simp only [simV, ro] at hx
    subst hx
    refine OpR.same hA (g := .int _ _) (by simp only [Op.unary, Op.intArith, Sem.run_pure]; rfl) (by simp [simV, ro])
  · change some (_, _, _) = _ at h
    simp only [Option.some.injEq, Prod.mk.injEq] at h
    obtain ⟨rfl, rfl, _⟩ := h
    simp only [simV, ro] at hx
    subst hx
    refine OpR.same hA (g := .bool _) (by simp only [Op.unary, Sem.run_pure]; rfl) (by simp [simV, ro])
  · exact (run_fail h).elim

theorem pickV_ok (hA : At base U M0 w0 w m G) {c x y : V} {gc gx gy : Value} (hc : simV G.μ m (Gh U w G) c gc) (hx : simV G.μ m (Gh U w G) x gx) (hy : simV G.μ m (Gh U w G) y gy) {v : V} {l l' : Log} (h : (pickV c x y).run m l = some (v, m', l')) :
    OpR base U M0 w0 w m G P (do pure (if ← Go.asBool gc then gx else gy)) v m' := by
  unfold pickV at h
  split at h
  · rename_i c
    simp only [simV, ro] at hc
    subst hc
    split at h
    · rename_i a b
      change some (_, _, _) = _ at h
      simp only [Option.some.injEq, Prod.mk.injEq] at h
      obtain ⟨rfl, rfl, _⟩ := h
      simp only [simV, ro] at hx hy
      subst hx hy
      refine OpR.same hA (g := .bool (bif c then a else b)) ?_ (by simp [simV, ro])
      cases c <;> simp [Go.asBool]
    · split at h
      · change some (_, _, _) = _ at h
        simp only [Option.some.injEq, Prod.mk.injEq] at h
        obtain ⟨rfl, rfl, _⟩ := h
        exact OpR.same hA (g := gx) (by simp [Go.asBool]) hx
      · change some (_, _, _) = _ at h
        simp only [Option.some.injEq, Prod.mk.injEq] at h
        obtain ⟨rfl, rfl, _⟩ := h
        exact OpR.same hA (g := gy) (by simp [Go.asBool]) hy
  · exact (run_fail h).elim
end
end Go.Vm
