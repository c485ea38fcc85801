import Derived.Test.YtodbelembghegaaGreatDoorZForms
import Derived.Test.YtodbelembghegaaGreatDoorShelf
import Derived.Test.YtodbelembghegaaGreatDoorZGrow
namespace Go.Proofs.YtodbelembghegaaGreatDoor
set_option linter.unusedVariables false
set_option linter.unusedSimpArgs false
open Go Go.Vm
theorem containsPrim_ok {X : Ctx} (hP : X.P = Tryz.prog) (hm : ∀ i, i < 2 → modeOf X.adv 168 i = 0) (fn : Func) (args : List V) (cells : List Cell) (rows : List Row) (outs : List Cell) (hf : X.P.funcs[168]? = some fn) (h : Prim.strings_Contains args cells = some (rows, outs))
    (base : Nat) (U : Nat → Prop) (w : World) (gargs gcells : List Value) (N1 N2 : List Nat) (hG : Given X base U w 168 args cells gargs gcells N1 N2) :
    Calls X.P 168 gargs.toArray w fun e w' => ∃ gs M1 M2, e = .returned (retV gs) ∧ Did X.P U w w' (N1 ++ N2) fn.resultTypes.toList cells outs gcells rows gs M1 M2 := by
  unfold Prim.strings_Contains at h
  split at h
  · rename_i s t
    unfold M.strings_Contains at h
    split at h
    · rename_i c
      cases h
      obtain ⟨rfl, rfl, rfl, hs⟩ := given_ro hG hm
      rw [simVs_strs hs]
      rw [hP] at hf ⊢
      have hfn : fn.resultTypes.toList = [4] := by
        rw [Tryz.func168] at hf
        cases hf
        rfl
      refine (Tryz.strings_Contains_one ⟨⟨s⟩⟩ c w).mono ?_
      rintro e w' ⟨rfl, rfl⟩
      rw [hfn]
      exact ⟨[_], [], [], rfl, did_scalar (by kernel_rfl) (fun _ _ => ⟨rfl, rfl⟩) (Keep.refl _ _)⟩
    · cases h
  · cases h
theorem decI_some : ∀ {rows : List Row} {k : List Int}, decI rows = some k → rows = Go.Vm.encI k
  | [], k, h => by cases h; rfl
  | r :: rs, k, h => by
    rw [decI.eq_def] at h
    simp only at h
    split at h
    · cases hd : decI rs with
      | none => rw [hd] at h; cases h
      | some q =>
        rw [hd] at h
        cases h
        rw [decI_some hd]
        rfl
    · cases h
theorem clonesPrim_ok {X : Ctx} (hP : X.P = Tryz.prog) (hm : modeOf X.adv 94 0 = 0) (fn : Func) (args : List V) (cells : List Cell) (rows : List Row) (outs : List Cell) (hf : X.P.funcs[94]? = some fn) (h : Prim.slices_Clone args cells = some (rows, outs))
    (base : Nat) (U : Nat → Prop) (w : World) (gargs gcells : List Value) (N1 N2 : List Nat) (hG : Given X base U w 94 args cells gargs gcells N1 N2) :
    Calls X.P 94 gargs.toArray w fun e w' => ∃ gs M1 M2, e = .returned (retV gs) ∧ Did X.P U w w' (N1 ++ N2) fn.resultTypes.toList cells outs gcells rows gs M1 M2 := by
  unfold Prim.slices_Clone at h
  split at h
  · rename_i rows0
    unfold M.slices_Clone at h
    split at h
    · rename_i k hk
      obtain rfl := decI_some hk
      cases hc : Nat.ble (k.length * 8) 140737488355328 with
      | false => rw [hc] at h; cases h
      | true =>
        rw [hc] at h
        cases h
        have hfn : fn.resultTypes.toList = [44] := by
          rw [hP, Tryz.func94] at hf
          cases hf
          rfl
        refine clonePrim_ok (t := 44) hm hfn (by rw [hP]; kernel_rfl) (Nat.le_of_ble_eq_true hc) ?_ ?_ ?_ base U w gargs gcells N1 N2 hG
        · intro b off c zs w hb hz
          rw [hP]
          refine (Tryz.slices_Clone_int b off zs.length c zs w (Nat.le_refl _) hb hz).mono ?_
          rintro e w' ⟨v', rfl, h1, _, h2⟩
          exact ⟨v', rfl, by rwa [List.take_length] at h1, h2⟩
        · intro c w
          rw [hP]
          exact Tryz.slices_Clone_int_nil 0 c w
        · intro a c w
          rw [hP]
          refine (Tryz.slices_Clone_int_zero a c w).mono ?_
          rintro e w' ⟨v', rfl, h1, _, h2⟩
          exact ⟨v', rfl, h1, h2⟩
    · cases h
  · cases h
theorem growPrim_ok {X : Ctx} (hP : X.P = Tryz.prog) (hm : modeOf X.adv 82 0 = 3) (hm1 : modeOf X.adv 82 1 = 0) (fn : Func) (args : List V) (cells : List Cell) (rows : List Row) (outs : List Cell) (hf : X.P.funcs[82]? = some fn) (h : Prim.slices_Grow args cells = some (rows, outs))
    (base : Nat) (U : Nat → Prop) (w : World) (gargs gcells : List Value) (N1 N2 : List Nat) (hG : Given X base U w 82 args cells gargs gcells N1 N2) :
    Calls X.P 82 gargs.toArray w fun e w' => ∃ gs M1 M2, e = .returned (retV gs) ∧ Did X.P U w w' (N1 ++ N2) fn.resultTypes.toList cells outs gcells rows gs M1 M2 := by
  unfold Prim.slices_Grow at h
  split at h
  · rename_i n
    unfold M.slices_Grow at h
    cases hc : (decide (0 ≤ n) && decide (n ≤ 1000000)) with
    | false => rw [hc] at h; cases h
    | true =>
      rw [hc] at h
      cases h
      simp only [Bool.and_eq_true, decide_eq_true_eq] at hc
      have hfn : fn.resultTypes.toList = [53] := by
        rw [hP, Tryz.func82] at hf
        cases hf
        rfl
      have hU := hG.up
      obtain ⟨rfl, rfl⟩ := hG.cells
      have ha := hG.args
      simp only [mixS, hm, hm1] at ha
      obtain ⟨g, gs', M1, M2, rfl, rfl, ⟨rfl, hg⟩, g2, gs2, M3, M4, rfl, rfl, ⟨rfl, hg2⟩, rfl, rfl⟩ := ha
      simp only [simV, ro] at hg hg2
      subst hg hg2
      obtain ⟨m, rfl⟩ : ∃ m : Nat, n = m := ⟨n.toNat, by omega⟩
      rw [hP, hfn]
      refine (slices_Grow_nil m (by omega) w).mono ?_
      rintro e w' ⟨v', rfl, h1, h2⟩
      exact did_own (by kernel_rfl) (by omega) rfl hU h1 h2 (fun _ _ _ _ => rfl)
  · cases h
end Go.Proofs.YtodbelembghegaaGreatDoor
