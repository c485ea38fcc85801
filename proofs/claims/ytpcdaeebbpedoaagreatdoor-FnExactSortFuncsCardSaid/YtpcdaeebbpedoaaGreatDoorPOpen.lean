import Derived.Test.YtpcdaeebbpedoaaGreatDoorPPrims
import Derived.Test.YtpcdaeebbpedoaaGreatDoorPForms2
import Derived.Test.YtpcdaeebbpedoaaGreatDoorZNames
import Derived.Test.YtpcdaeebbpedoaaGreatDoorRows
import Derived.Test.YtpcdaeebbpedoaaGreatDoorVm4
namespace Go.Proofs.YtpcdaeebbpedoaaGreatDoor
set_option linter.unusedVariables false
set_option linter.unusedSimpArgs false
open Go Go.Vm Go.RowKit
theorem wf_I64 {x : Int} (h : (Lit.int .i64 x).wf = true) : I64 x := bounds_i64 h
set_option maxRecDepth 100000 in
theorem open_ints' {n : Nat} {row : Row} (h : tyD Tryz.prog (n + 2) 31 row) : ∃ k : List Int, row = [.sl false 1 (Go.Vm.encI k)] ∧ k.length ≤ maxLen ∧ ∀ x, x ∈ k → I64 x := by
  obtain ⟨rows, rfl, hl, hr⟩ := tyD_sl Tryz.underlying31 h
  obtain ⟨k, rfl, hk⟩ := list_enc (f := fun x : Int => [D.int .i64 x]) (p := I64) (fun r hr' => by
    obtain ⟨x, rfl, hx⟩ := tyD_int Tryz.underlying3 (hr r hr')
    exact ⟨x, rfl, wf_I64 hx⟩)
  exact ⟨k, rfl, by simpa using hl, hk⟩
set_option maxRecDepth 100000 in
theorem open_node' {n : Nat} {row : Row} (h : tyD Tryz.prog (n + 3) 33 row) : ∃ x : Nd, row = encN false x ∧ Fit x := by
  have h := tyD_struct Tryz.underlying33 h
  obtain ⟨_, _, rfl, h1, h⟩ := tyFs_cons h
  obtain ⟨_, _, rfl, h2, h⟩ := tyFs_cons h
  obtain ⟨_, _, rfl, h3, h⟩ := tyFs_cons h
  obtain ⟨_, _, rfl, h4, h⟩ := tyFs_cons h
  obtain ⟨_, _, rfl, h5, h⟩ := tyFs_cons h
  obtain rfl := tyFs_nil h
  obtain ⟨a, rfl, wa⟩ := tyD_int Tryz.underlying3 h1
  obtain ⟨b, rfl, wb⟩ := tyD_int Tryz.underlying3 h2
  obtain ⟨c, rfl, wc⟩ := tyD_str Tryz.underlying9 h3
  obtain ⟨d, rfl, wd⟩ := tyD_str Tryz.underlying9 h4
  obtain ⟨k, rfl, wk, wk2⟩ := open_ints' h5
  exact ⟨⟨a, b, c, d, k⟩, rfl, ⟨wf_I64 wa, wf_I64 wb, wc, wd, wk, wk2⟩⟩
set_option maxRecDepth 100000 in
theorem open_nodes' {n : Nat} {row : Row} (h : tyD Tryz.prog (n + 4) 22 row) : ∃ l : List Nd, row = [.sl false 5 (encNs false l)] ∧ l.length ≤ maxLen ∧ ∀ x, x ∈ l → Fit x := by
  obtain ⟨rows, rfl, hl, hr⟩ := tyD_sl Tryz.underlying22 h
  obtain ⟨l, rfl, hk⟩ := list_enc (f := encN false) (p := Fit) (fun r hr' => open_node' (hr r hr'))
  exact ⟨l, rfl, by simpa using hl, hk⟩
theorem primOk : PrimOk X0 := by
  intro f p fn args cells rows outs hx hf hb h base U w gargs gcells N1 N2 hG
  have hx' : (bif Nat.beq f 56 then some Prim.impl_startsOf else bif Nat.beq f 92 then some Prim.strings_Contains else none) = some p := hx
  cases hq : Nat.beq f 56 with
  | true =>
    rw [hq] at hx'
    cases hx'
    have e := Nat.eq_of_beq_eq_true hq
    subst e
    exact startsPrim_ok rfl (by decide) fn args cells rows outs hf h base U w gargs gcells N1 N2 hG
  | false =>
  rw [hq, cond_false] at hx'
  cases hq : Nat.beq f 92 with
  | true =>
    rw [hq] at hx'
    cases hx'
    have e := Nat.eq_of_beq_eq_true hq
    subst e
    exact containsPrim_ok rfl (by decide) fn args cells rows outs hf h base U w gargs gcells N1 N2 hG
  | false => rw [hq] at hx'; cases hx'
theorem own : ownKnob Tryz.prog.godebug = none := by kernel_rfl
theorem laidOut : laidOutB Tryz.prog = true := by kernel_rfl
theorem gK : Tryz.prog.globalNamed "loop.example/g01543/impl.keywords" = some 1 := by kernel_rfl
theorem gS : Tryz.prog.globalNamed "loop.example/g01543/impl.signs" = some 2 := by kernel_rfl
theorem gB : Tryz.prog.globalNamed "loop.example/g01543/impl.builtins" = some 0 := by kernel_rfl
theorem tK : (Tryz.prog.globals[1]?).map (·.type) = some 93 := by kernel_rfl
theorem tS : (Tryz.prog.globals[2]?).map (·.type) = some 94 := by kernel_rfl
theorem tB : (Tryz.prog.globals[0]?).map (·.type) = some 91 := by kernel_rfl
theorem c9 : Tryz.prog.cellsOf 9 = 1 := by kernel_rfl
theorem dK : (Rows.laid_loop_example_g01543_impl_keywords : DataW Unit) = .agg (kwds.map fun s => .lit (.string s)) := by kernel_rfl
theorem dS : (Rows.laid_loop_example_g01543_impl_signs : DataW Unit) = .agg (sgns.map fun s => .lit (.string s)) := by kernel_rfl
theorem dB : (Rows.laid_loop_example_g01543_impl_builtins : DataW Unit) = .agg (blts.map fun s => .lit (.string s)) := by kernel_rfl
theorem rK : keywordsRow = kwds.map D.str := by kernel_rfl
theorem rS : signsRow = sgns.map D.str := by kernel_rfl
theorem rB : builtinsRow = blts.map D.str := by kernel_rfl
theorem globs_ok {W : World} (hL : laidMetH Tryz.prog Rows.fnExactSortFuncsRow.laid W) (hS : W.ShapedOpen Tryz.prog) : globS X0 (full W) := by
  rw [MakeChecks.laidMetH_plain _ _ _ (by kernel_rfl)] at hL
  obtain ⟨ps, ⟨g0, t0, cs0, f0, p0, q0, hg0, ht0, hv0, hd0, ⟨g1, t1, cs1, f1, p1, q1, hg1, ht1, hv1, hd1, ⟨g2, t2, cs2, f2, p2, q2, hg2, ht2, hv2, hd2, _, _⟩, _⟩, _⟩, _, _⟩ := hL
  obtain rfl := Option.some.inj (gK.symm.trans hg0)
  obtain rfl := Option.some.inj (gS.symm.trans hg1)
  obtain rfl := Option.some.inj (gB.symm.trans hg2)
  obtain rfl := Option.some.inj (tK.symm.trans ht0)
  obtain rfl := Option.some.inj (tS.symm.trans ht1)
  obtain rfl := Option.some.inj (tB.symm.trans ht2)
  rw [dK] at hd0
  rw [dS] at hd1
  rw [dB] at hd2
  refine ⟨fun g row h => ?_, fun g h => ?_⟩
  · have h' : (bif Nat.beq g 2 then some signsRow else bif Nat.beq g 1 then some keywordsRow else bif Nat.beq g 0 then some builtinsRow else none) = some row := h
    cases hq : Nat.beq g 2 with
    | true =>
      rw [hq] at h'
      cases h'
      have e := Nat.eq_of_beq_eq_true hq
      subst e
      rw [rS]
      exact strRow_of Tryz.underlying94 Tryz.underlying9 c9 hg1 hv1 hd1
    | false =>
    rw [hq, cond_false] at h'
    cases hq : Nat.beq g 1 with
    | true =>
      rw [hq] at h'
      cases h'
      have e := Nat.eq_of_beq_eq_true hq
      subst e
      rw [rK]
      exact strRow_of Tryz.underlying93 Tryz.underlying9 c9 hg0 hv0 hd0
    | false =>
    rw [hq, cond_false] at h'
    cases hq : Nat.beq g 0 with
    | true =>
      rw [hq] at h'
      cases h'
      have e := Nat.eq_of_beq_eq_true hq
      subst e
      rw [rB]
      exact strRow_of Tryz.underlying91 Tryz.underlying9 c9 hg2 hv2 hd2
    | false => rw [hq] at h'; cases h'
  · have h' : (bif Nat.beq g 3 then true else false) = true := h
    cases hq : Nat.beq g 3 with
    | false => rw [hq] at h'; cases h'
    | true =>
      have e := Nat.eq_of_beq_eq_true hq
      subst e
      exact Go.Proofs.cell_of_shapedOpen_int (zero := #[.int .i64 0]) hS (of_decide_eq_true (by kernel_rfl)) (by kernel_rfl) rfl (by kernel_rfl) (by kernel_rfl) Tryz.underlying3
end Go.Proofs.YtpcdaeebbpedoaaGreatDoor
