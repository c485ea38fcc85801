/-
  Library functions that the machine takes as primitives: strings.Contains at one byte, strings.Split.
-/
import Derived.Test.YtfbemlhfieemhabDoorVm4
import Derived.Test.YtfbemlhfieemhabDoorShelf
import Derived.Test.YtfbemlhfieemhabDoorProg
namespace Go.Proofs.YtfbemlhfieemhabDoor
set_option linter.unusedVariables false
set_option linter.unusedSimpArgs false
open Go Go.Vm

def splitS (s sep : List UInt8) : List (List UInt8) := (Lib.splitB ⟨⟨sep⟩⟩ 0 (Lib.countB ⟨⟨s⟩⟩ ⟨⟨sep⟩⟩) ⟨⟨s⟩⟩).map (·.data.toList)
def M.strings_Contains (s t : List UInt8) : Option Bool := match t with
  | [c] => some (decide (0 ≤ Lib.indexByte s c))
  | _ => none
def M.strings_Split (s t : List UInt8) : Option (List Row) := bif Nat.blt s.length 4294967281 && Nat.ble 1 t.length then some (encS (splitS s t)) else none
def Prim.strings_Contains (a : List V) (c : List Cell) : Option (List Row × List Cell) := match a, c with
  | [.d (.str s), .d (.str t)], [] => (M.strings_Contains s t).map fun r => ([[.bool r]], [])
  | _, _ => none
def Prim.strings_Split (a : List V) (c : List Cell) : Option (List Row × List Cell) := match a, c with
  | [.d (.str s), .d (.str t)], [] => (M.strings_Split s t).map fun r => ([[.sl true 1 r]], [])
  | _, _ => none
theorem containsPrim_ok {X : Ctx} (hP : X.P = Tryd.prog) (hm : ∀ i, i < 2 → modeOf X.adv 15 i = 0) (fn : Func) (args : List V) (cells : List Cell) (rows : List Row) (outs : List Cell) (hf : X.P.funcs[15]? = some fn) (h : Prim.strings_Contains args cells = some (rows, outs))
    (base : Nat) (U : Nat → Prop) (w : World) (gargs gcells : List Value) (N1 N2 : List Nat) (hG : Given X base U w 15 args cells gargs gcells N1 N2) :
    Calls X.P 15 gargs.toArray w fun e w' => ∃ gs M1 M2, e = .returned (retV gs) ∧ Did X.P U w w' (N1 ++ N2) fn.resultTypes.toList cells outs gcells rows gs M1 M2 := by
  unfold Prim.strings_Contains at h
  split at h
  · rename_i s t
    unfold M.strings_Contains at h
    split at h
    · rename_i c
      cases h
      obtain ⟨rfl, rfl, rfl, hs⟩ := given_ro hG hm
      rw [simVs_strs hs]
      rw [hP] at hf ⊢
      have hfn : fn.resultTypes.toList = [4] := by
        rw [Tryd.func15] at hf
        cases hf
        rfl
      refine (Tryd.strings_Contains_one ⟨⟨s⟩⟩ c w).mono ?_
      rintro e w' ⟨rfl, rfl⟩
      rw [hfn]
      exact ⟨[_], [], [], rfl, did_scalar (by kernel_rfl) (fun _ _ => ⟨rfl, rfl⟩) (Keep.refl _ _)⟩
    · cases h
  · cases h
theorem splitPrim_ok {X : Ctx} (hP : X.P = Tryd.prog) (hm : ∀ i, i < 2 → modeOf X.adv 20 i = 0) (hI : X.gint 0 = true) (fn : Func) (args : List V) (cells : List Cell) (rows : List Row) (outs : List Cell) (hf : X.P.funcs[20]? = some fn) (h : Prim.strings_Split args cells = some (rows, outs))
    (base : Nat) (U : Nat → Prop) (w : World) (gargs gcells : List Value) (N1 N2 : List Nat) (hG : Given X base U w 20 args cells gargs gcells N1 N2) :
    Calls X.P 20 gargs.toArray w fun e w' => ∃ gs M1 M2, e = .returned (retV gs) ∧ Did X.P U w w' (N1 ++ N2) fn.resultTypes.toList cells outs gcells rows gs M1 M2 := by
  unfold Prim.strings_Split at h
  split at h
  · rename_i s t
    unfold M.strings_Split at h
    cases hc : (Nat.blt s.length 4294967281 && Nat.ble 1 t.length) with
    | false => rw [hc] at h; cases h
    | true =>
      rw [hc] at h
      cases h
      rw [Bool.and_eq_true] at hc
      obtain ⟨rfl, rfl, rfl, hs⟩ := given_ro hG hm
      rw [simVs_strs hs]
      obtain ⟨m, hmx⟩ := hG.gl.int 0 hI
      have hmx := (view_some hmx).2.2
      have hU := hG.up
      rw [hP] at hf ⊢
      have hfn : fn.resultTypes.toList = [27] := by
        rw [Tryd.func20] at hf
        cases hf
        rfl
      have h1 : 1 ≤ t.length := Nat.le_of_ble_eq_true hc.2
      have h2 : s.length < 4294967281 := by
        have := hc.1
        rw [Nat.blt_eq] at this
        exact this
      have hlen := Lib.splitB_all ⟨⟨t⟩⟩ h1 0 _ ⟨⟨s⟩⟩ rfl
      have e1 : (splitS s t).length = Lib.countB ⟨⟨s⟩⟩ ⟨⟨t⟩⟩ + 1 := by rw [splitS, List.length_map, hlen]
      have e2 : (Lib.splitB ⟨⟨t⟩⟩ 0 (Lib.countB ⟨⟨s⟩⟩ ⟨⟨t⟩⟩) ⟨⟨s⟩⟩).map Value.string = (splitS s t).map fun x => Value.string ⟨⟨x⟩⟩ := by
        rw [splitS, List.map_map]
        rfl
      refine (Tryd.strings_Split ⟨⟨s⟩⟩ ⟨⟨t⟩⟩ m w h2 hmx h1).mono ?_
      rintro e w' ⟨rfl, rfl⟩
      rw [hfn, ← e1, e2]
      exact ⟨[_], [], [_], rfl, did_strs (by intro e; rw [e] at e1; simp at e1) (by kernel_rfl) hU⟩
  · cases h
end Go.Proofs.YtfbemlhfieemhabDoor
