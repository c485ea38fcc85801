/-
  Library functions that the machine takes as primitives: strings.Contains at one byte, strings.Split, strings.TrimRight at ASCII bytes.
-/
import Derived.Test.YtodbelembghegaaDoorVm4
import Derived.Test.YtodbelembghegaaDoorShelf
import Derived.Test.YtodbelembghegaaDoorProg
namespace Go.Proofs.YtodbelembghegaaDoor
set_option linter.unusedVariables false
set_option linter.unusedSimpArgs false
open Go Go.Vm

def splitS (s sep : List UInt8) : List (List UInt8) := (Lib.splitB ⟨⟨sep⟩⟩ 0 (Lib.countB ⟨⟨s⟩⟩ ⟨⟨sep⟩⟩) ⟨⟨s⟩⟩).map (·.data.toList)
def M.strings_Contains (s t : List UInt8) : Option Bool := match t with
  | [c] => some (decide (0 ≤ Lib.indexByte s c))
  | _ => none
def M.strings_Split (s t : List UInt8) : Option (List Row) := bif Nat.blt s.length 4294967281 && Nat.ble 1 t.length then some (encS (splitS s t)) else none
def Prim.strings_Contains (a : List V) (c : List Cell) : Option (List Row × List Cell) := match a, c with
  | [.d (.str s), .d (.str t)], [] => (M.strings_Contains s t).map fun r => ([[.bool r]], [])
  | _, _ => none
def Prim.strings_Split (a : List V) (c : List Cell) : Option (List Row × List Cell) := match a, c with
  | [.d (.str s), .d (.str t)], [] => (M.strings_Split s t).map fun r => ([[.sl true 1 r]], [])
  | _, _ => none
theorem containsPrim_ok {X : Ctx} (hP : X.P = Tryd.prog) (hm : ∀ i, i < 2 → modeOf X.adv 104 i = 0) (fn : Func) (args : List V) (cells : List Cell) (rows : List Row) (outs : List Cell) (hf : X.P.funcs[104]? = some fn) (h : Prim.strings_Contains args cells = some (rows, outs))
    (base : Nat) (U : Nat → Prop) (w : World) (gargs gcells : List Value) (N1 N2 : List Nat) (hG : Given X base U w 104 args cells gargs gcells N1 N2) :
    Calls X.P 104 gargs.toArray w fun e w' => ∃ gs M1 M2, e = .returned (retV gs) ∧ Did X.P U w w' (N1 ++ N2) fn.resultTypes.toList cells outs gcells rows gs M1 M2 := by
  unfold Prim.strings_Contains at h
  split at h
  · rename_i s t
    unfold M.strings_Contains at h
    split at h
    · rename_i c
      cases h
      obtain ⟨rfl, rfl, rfl, hs⟩ := given_ro hG hm
      rw [simVs_strs hs]
      rw [hP] at hf ⊢
      have hfn : fn.resultTypes.toList = [4] := by
        rw [Tryd.func104] at hf
        cases hf
        rfl
      refine (Tryd.strings_Contains_one ⟨⟨s⟩⟩ c w).mono ?_
      rintro e w' ⟨rfl, rfl⟩
      rw [hfn]
      exact ⟨[_], [], [], rfl, did_scalar (by kernel_rfl) (fun _ _ => ⟨rfl, rfl⟩) (Keep.refl _ _)⟩
    · cases h
  · cases h
theorem splitPrim_ok {X : Ctx} (hP : X.P = Tryd.prog) (hm : ∀ i, i < 2 → modeOf X.adv 22 i = 0) (hI : X.gint 0 = true) (fn : Func) (args : List V) (cells : List Cell) (rows : List Row) (outs : List Cell) (hf : X.P.funcs[22]? = some fn) (h : Prim.strings_Split args cells = some (rows, outs))
    (base : Nat) (U : Nat → Prop) (w : World) (gargs gcells : List Value) (N1 N2 : List Nat) (hG : Given X base U w 22 args cells gargs gcells N1 N2) :
    Calls X.P 22 gargs.toArray w fun e w' => ∃ gs M1 M2, e = .returned (retV gs) ∧ Did X.P U w w' (N1 ++ N2) fn.resultTypes.toList cells outs gcells rows gs M1 M2 := by
  unfold Prim.strings_Split at h
  split at h
  · rename_i s t
    unfold M.strings_Split at h
    cases hc : (Nat.blt s.length 4294967281 && Nat.ble 1 t.length) with
    | false => rw [hc] at h; cases h
    | true =>
      rw [hc] at h
      cases h
      rw [Bool.and_eq_true] at hc
      obtain ⟨rfl, rfl, rfl, hs⟩ := given_ro hG hm
      rw [simVs_strs hs]
      obtain ⟨m, hmx⟩ := hG.gl.int 0 hI
      have hmx := (view_some hmx).2.2
      have hU := hG.up
      rw [hP] at hf ⊢
      have hfn : fn.resultTypes.toList = [31] := by
        rw [Tryd.func22] at hf
        cases hf
        rfl
      have h1 : 1 ≤ t.length := Nat.le_of_ble_eq_true hc.2
      have h2 : s.length < 4294967281 := by
        have := hc.1
        rw [Nat.blt_eq] at this
        exact this
      have hlen := Lib.splitB_all ⟨⟨t⟩⟩ h1 0 _ ⟨⟨s⟩⟩ rfl
      have e1 : (splitS s t).length = Lib.countB ⟨⟨s⟩⟩ ⟨⟨t⟩⟩ + 1 := by rw [splitS, List.length_map, hlen]
      have e2 : (Lib.splitB ⟨⟨t⟩⟩ 0 (Lib.countB ⟨⟨s⟩⟩ ⟨⟨t⟩⟩) ⟨⟨s⟩⟩).map Value.string = (splitS s t).map fun x => Value.string ⟨⟨x⟩⟩ := by
        rw [splitS, List.map_map]
        rfl
      refine (Tryd.strings_Split ⟨⟨s⟩⟩ ⟨⟨t⟩⟩ m w h2 hmx h1).mono ?_
      rintro e w' ⟨rfl, rfl⟩
      rw [hfn, ← e1, e2]
      exact ⟨[_], [], [_], rfl, did_strs (by intro e; rw [e] at e1; simp at e1) (by kernel_rfl) hU⟩
  · cases h
def M.strings_TrimRight (s t : List UInt8) : Option (List UInt8) := bif Nat.ble s.length 9223372036854775807 && (Nat.blt t.length 4294967281 && t.all fun b => Nat.blt b.toNat 128) then some (Lib.trimRightS s t) else none
def Prim.strings_TrimRight (a : List V) (c : List Cell) : Option (List Row × List Cell) := match a, c with
  | [.d (.str s), .d (.str t)], [] => (M.strings_TrimRight s t).map fun r => ([[.str r]], [])
  | _, _ => none
theorem trimPrim_ok {X : Ctx} (hP : X.P = Tryd.prog) (hm : ∀ i, i < 2 → modeOf X.adv 15 i = 0) (fn : Func) (args : List V) (cells : List Cell) (rows : List Row) (outs : List Cell) (hf : X.P.funcs[15]? = some fn) (h : Prim.strings_TrimRight args cells = some (rows, outs))
    (base : Nat) (U : Nat → Prop) (w : World) (gargs gcells : List Value) (N1 N2 : List Nat) (hG : Given X base U w 15 args cells gargs gcells N1 N2) :
    Calls X.P 15 gargs.toArray w fun e w' => ∃ gs M1 M2, e = .returned (retV gs) ∧ Did X.P U w w' (N1 ++ N2) fn.resultTypes.toList cells outs gcells rows gs M1 M2 := by
  unfold Prim.strings_TrimRight at h
  split at h
  · rename_i s t
    unfold M.strings_TrimRight at h
    cases hc : (Nat.ble s.length 9223372036854775807 && (Nat.blt t.length 4294967281 && t.all fun b => Nat.blt b.toNat 128)) with
    | false => rw [hc] at h; cases h
    | true =>
      rw [hc] at h
      cases h
      simp only [Bool.and_eq_true] at hc
      obtain ⟨h1, h2, h3⟩ := hc
      obtain ⟨rfl, rfl, rfl, hs⟩ := given_ro hG hm
      rw [simVs_strs hs]
      rw [hP] at hf ⊢
      have hfn : fn.resultTypes.toList = [9] := by
        rw [Tryd.func15] at hf
        cases hf
        rfl
      have h2' : t.length < 4294967281 := by
        rw [Nat.blt_eq] at h2
        exact h2
      refine (Go.Proofs.Any.strings_TrimRight_laid Tryd.lays162 (by kernel_rfl) ⟨⟨s⟩⟩ ⟨⟨t⟩⟩ w (Nat.le_of_ble_eq_true h1) h2' (fun j b hb => by
        have := List.all_eq_true.1 h3 b (List.mem_of_getElem? hb)
        rw [Nat.blt_eq] at this
        exact this)).mono ?_
      rintro e w' ⟨rfl, bel⟩
      rw [hfn]
      exact ⟨[_], [], [], rfl, did_scalar (by kernel_rfl) (fun _ _ => ⟨rfl, rfl⟩) ⟨bel.os, bel.tape, bel.output, bel.size, fun b hb _ => bel.block b hb⟩⟩
  · cases h
end Go.Proofs.YtodbelembghegaaDoor
