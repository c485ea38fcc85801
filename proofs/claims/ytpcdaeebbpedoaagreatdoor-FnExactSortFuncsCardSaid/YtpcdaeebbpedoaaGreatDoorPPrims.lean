import Derived.Test.YtpcdaeebbpedoaaGreatDoorPPrim
import Derived.Test.YtpcdaeebbpedoaaGreatDoorShelf
import Derived.Test.YtpcdaeebbpedoaaGreatDoorVm4
namespace Go.Proofs.YtpcdaeebbpedoaaGreatDoor
set_option linter.unusedVariables false
set_option linter.unusedSimpArgs false
open Go Go.Vm
theorem containsPrim_ok {X : Ctx} (hP : X.P = Tryz.prog) (hm : ∀ i, i < 2 → modeOf X.adv 92 i = 0) (fn : Func) (args : List V) (cells : List Cell) (rows : List Row) (outs : List Cell) (hf : X.P.funcs[92]? = some fn) (h : Prim.strings_Contains args cells = some (rows, outs))
    (base : Nat) (U : Nat → Prop) (w : World) (gargs gcells : List Value) (N1 N2 : List Nat) (hG : Given X base U w 92 args cells gargs gcells N1 N2) :
    Calls X.P 92 gargs.toArray w fun e w' => ∃ gs M1 M2, e = .returned (retV gs) ∧ Did X.P U w w' (N1 ++ N2) fn.resultTypes.toList cells outs gcells rows gs M1 M2 := by
  unfold Prim.strings_Contains at h
  split at h
  · rename_i s t
    unfold M.strings_Contains at h
    split at h
    · rename_i c
      cases h
      obtain ⟨rfl, rfl, rfl, hs⟩ := given_ro hG hm
      rw [simVs_strs hs]
      rw [hP] at hf ⊢
      have hfn : fn.resultTypes.toList = [4] := by
        rw [Tryz.func92] at hf
        cases hf
        rfl
      refine (Tryz.strings_Contains_one ⟨⟨s⟩⟩ c w).mono ?_
      rintro e w' ⟨rfl, rfl⟩
      rw [hfn]
      exact ⟨[_], [], [], rfl, did_scalar (by kernel_rfl) (fun _ _ => ⟨rfl, rfl⟩) (Keep.refl _ _)⟩
    · cases h
  · cases h
end Go.Proofs.YtpcdaeebbpedoaaGreatDoor
