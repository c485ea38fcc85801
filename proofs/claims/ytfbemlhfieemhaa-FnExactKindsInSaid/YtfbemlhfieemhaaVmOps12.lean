/-
  The machine's operations are Go's: conversions, components, functions as values, greatest and least.
-/
import Derived.Test.YtfbemlhfieemhaaVmOps11
import Derived.Laws.BytesString
namespace Go.Vm
open Go

section
variable {base : Nat} {U : Nat → Prop} {M0 : List Nat} {w0 w w' : World} {m m' : Mem} {G G' : GS} {P : Program}

theorem bytes_cells {h : View} : ∀ {rows : List Row} {cs : List Value} {bs : List UInt8}, bytesOf rows = some bs → seenRows h 1 rows cs → cs.length = rows.length →
    ∃ ns : List Int, cs = ns.map (Value.int .u8) ∧ bs = ns.map (fun n => UInt8.ofNat n.toNat)
  | [], cs, bs, hb, _, hl => by
    simp only [bytesOf, Option.some.injEq] at hb
    subst hb
    have : cs = [] := List.length_eq_zero_iff.1 hl
    subst this
    exact ⟨[], rfl, rfl⟩
  | r :: rs, cs, bs, hb, hs, hl => by
    simp only [bytesOf] at hb
    cases ha : asByte r with
    | none => simp [ha] at hb
    | some b =>
      cases hb2 : bytesOf rs with
      | none => simp [ha, hb2] at hb
      | some bs2 =>
        simp only [ha, hb2, Option.some.injEq] at hb
        subst hb
        simp only [seenRows] at hs
        obtain ⟨_, h1, h2⟩ := hs
        cases cs with
        | nil => simp at hl
        | cons c cs =>
          obtain ⟨ns, e1, e2⟩ := bytes_cells hb2 (by simpa using h2) (by simpa using hl)
          unfold asByte at ha
          split at ha
          · rename_i n _
            simp only [Option.some.injEq] at ha
            subst ha
            simp only [seenRow] at h1
            obtain ⟨v, cs', e, hv, _⟩ := h1
            simp only [ro] at hv
            simp only [List.cons.injEq] at e
            obtain ⟨rfl, rfl⟩ := e
            exact ⟨n :: ns, by rw [hv, List.map_cons, e1], by rw [List.map_cons, e2]⟩
          · cases ha
theorem foldl_push : ∀ (ns : List Int) (acc : List UInt8), ns.foldl (fun r n => r.push (UInt8.ofNat n.toNat)) (ByteArray.mk ⟨acc⟩) = ⟨⟨acc ++ ns.map (fun n => UInt8.ofNat n.toNat)⟩⟩
  | [], acc => by simp
  | n :: ns, acc => by
    rw [List.foldl_cons]
    have : (ByteArray.mk ⟨acc⟩).push (UInt8.ofNat n.toNat) = ⟨⟨acc ++ [UInt8.ofNat n.toNat]⟩⟩ := by
      simp [ByteArray.push]
    rw [this, foldl_push ns]
    simp

theorem convertV_ok (hA : At base U M0 w0 w m G) {src dst : TypeId} {x : V} {gx : Value} (hx : simV G.μ m (Gh U w G) x gx) {v : V} {l l' : Log} (h : (convertV P src dst x).run m l = some (v, m', l')) :
    OpR base U M0 w0 w m G P (convert src dst gx) v m' := by
  unfold convertV at h
  split at h
  next hs hd =>
    split at h
    · change some (_, _, _) = _ at h
      simp only [Option.some.injEq, Prod.mk.injEq] at h
      obtain ⟨rfl, rfl, _⟩ := h
      simp only [simV, ro] at hx
      subst hx
      refine OpR.same hA (g := .int _ _) ?_ (by simp only [simV, ro]; rfl)
      simp [convert, run_underlying hs, run_underlying hd, Conv.intToInt]
    · exact (run_fail h).elim
  next hs hd =>
    split at h
    · change some (_, _, _) = _ at h
      simp only [Option.some.injEq, Prod.mk.injEq] at h
      obtain ⟨rfl, rfl, _⟩ := h
      have hx0 := hx
      simp only [simV, ro] at hx
      subst hx
      refine OpR.same hA (g := .string _) ?_ hx0
      simp [convert, run_underlying hs, run_underlying hd]
    · exact (run_fail h).elim
  next e hs hd =>
    replace h := run_bind_some h; obtain ⟨_, m1, l1, h1, h⟩ := h
    obtain ⟨he, rfl, rfl⟩ := run_ck' h1
    have he : P.underlying e = some (.int .u8) := by
      cases hu : P.underlying e with
      | none => simp [hu] at he
      | some d => rw [hu] at he; cases d <;> first | (simp at he; done) | skip
                  rename_i k; cases k <;> first | rfl | (simp at he; done)
    replace h := run_bind_some h; obtain ⟨⟨s, rows⟩, m1, l1, h1, h⟩ := h
    obtain ⟨rfl, hq⟩ := seen_ok hA.ok hx hA.out h1
    simp only at h
    replace h := run_bind_some h; obtain ⟨_, m2, l2, h2, h⟩ := h
    obtain ⟨hs1, rfl, rfl⟩ := run_ck h2
    have hs1 := Nat.eq_of_beq_eq_true hs1
    subst hs1
    replace h := run_bind_some h; obtain ⟨bs, m2, l2, h2, h⟩ := h
    obtain ⟨hb, rfl, rfl⟩ := run_op' h2
    simp only [run_pure, Option.some.injEq, Prod.mk.injEq] at h
    obtain ⟨rfl, rfl, _⟩ := h
    simp only [ro] at hq
    obtain ⟨a, cap, rfl, hcap, hne⟩ := hq
    refine OpR.same hA (g := .string ⟨⟨bs⟩⟩) ?_ (by simp only [simV, ro])
    rw [run_convert_bytes_string w src dst e a rows.length cap hs he hd]
    by_cases hr : rows = []
    · subst hr
      simp only [bytesOf, Option.some.injEq] at hb
      subst hb
      cases a with
      | none => simp [Conv.bytesToString]; rfl
      | some a =>
        have hl := run_loadCells_list (P := P) w a [] (by simp)
        have := run_bytesToString (P := P) w a 0 cap [] (by simpa using hl)
        exact this
    · obtain ⟨b, o, rfl, hrr⟩ := hne hr
      obtain ⟨cs, hl, hc, hss⟩ := roRows_cells rows o hrr
      rw [Nat.mul_one] at hl
      obtain ⟨ns, rfl, rfl⟩ := bytes_cells hb hss hl
      have hlc := run_loadCells_list (P := P) w ⟨b, o, none⟩ (ns.map (Value.int .u8)) (fun j v hj => by
        rw [add_at]
        exact hc j v hj)
      rw [hl] at hlc
      rw [run_bytesToString w _ rows.length cap ns hlc]
      have := foldl_push ns []
      rw [List.nil_append] at this
      rw [← this]
      rfl
  next => exact (run_fail h).elim

theorem simVs_at {μ : Nat → Value} {h : View} {vs : List V} {a : Array Value} {i : Nat} {v : V} (q : simVs μ m h vs a.toList) (hi : vs[i]? = some v) : ∃ x, a[i]? = some x ∧ simV μ m h v x := by
  obtain ⟨x, h1, h2⟩ := simVs_get q hi
  exact ⟨x, by simpa using h1, h2⟩
end
end Go.Vm
