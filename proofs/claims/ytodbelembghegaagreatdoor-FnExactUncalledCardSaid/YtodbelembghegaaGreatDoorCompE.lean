import Derived.Test.YtodbelembghegaaGreatDoorVm4
import Derived.Test.YtodbelembghegaaGreatDoorVm3
import Derived.Test.YtodbelembghegaaGreatDoorProg
import Derived.Shelf.GgSortFunc.RowK
import Derived.Shelf.SlSortFuncK.RowK2
import Derived.Shelf.SlicesQ.Load
import Derived.Lib.SlicesCompact
import Derived.WalkKit
import Derived.Deep.LoopGhost
import Derived.Deep.Draws
import Derived.Lib.Walk
import Derived.Sort.WalkB12
import Derived.Lib.SliceRun
namespace Go.Proofs.YtodbelembghegaaGreatDoor
set_option linter.unusedVariables false
set_option linter.unusedSimpArgs false
open Go Go.Proofs Go.Vm Go.RowKit Go.Shelf Go.Lib Go.Sort
def cE (e : Ed) : List Value := [.string ⟨⟨e.1⟩⟩, .string ⟨⟨e.2⟩⟩]
set_option maxRecDepth 100000 in
theorem equalEd (a b c d : List UInt8) (w : World) : (Op.equalIn 10000 73 (.agg #[.string ⟨⟨a⟩⟩, .string ⟨⟨b⟩⟩]) (.agg #[.string ⟨⟨c⟩⟩, .string ⟨⟨d⟩⟩])).run Tryz.prog w = .ok (decide ((a, b) = (c, d))) w := by
  have hu : Tryz.prog.underlying 73 = some (.struct (Tryz.prog.fieldsOf 73)) := by kernel_rfl
  have hp : Tryz.prog.stoodInHeld 73 = false := by kernel_rfl
  have hr : eqCells Tryz.prog (Tryz.prog.fieldsOf 73).toList [.d (.str a), .d (.str b)] [.d (.str c), .d (.str d)] = some (bif a == c then (bif b == d then true else false) else false) := by kernel_rfl
  have hx : ∀ x y : List UInt8, simVs (fun _ => Value.nilFunc) [] (fun _ _ => none) [.d (.str x), .d (.str y)] (#[.string ⟨⟨x⟩⟩, .string ⟨⟨y⟩⟩] : Array Value).toList := fun x y => by simp [simVs, simV, ro]
  have key : ∀ n, (Op.equalIn (n + 1 + 1) 73 (.agg #[.string ⟨⟨a⟩⟩, .string ⟨⟨b⟩⟩]) (.agg #[.string ⟨⟨c⟩⟩, .string ⟨⟨d⟩⟩])).run Tryz.prog w = .ok (bif a == c then (bif b == d then true else false) else false) w := fun n => (run_equalIn_agg w (n + 1) 73 _ _ hu hp).trans (eqCells_ok (hx a b) (hx c d) n hr)
  obtain ⟨n, hn⟩ : ∃ n, 10000 = n + 1 + 1 := ⟨9998, by omega⟩
  rw [hn, key n]
  congr 1
  by_cases h1 : a = c
  · by_cases h2 : b = d
    · simp [h1, h2]
    · simp [h1, h2]
  · simp [h1]
section
variable {α : Type} [Inhabited α] (enc : α → List Value) (k : Nat) (hk : ∀ x, (enc x).length = k)
include hk
theorem lay_setMany (d : Array α) {i : Nat} (hi : i < d.size) (x : α) : setMany (flatK enc k d) (i * k) (enc x) = flatK enc k (d.setIfInBounds i x) := by
  refine ext_get! (by simp) fun t ht => ?_
  have ht' : t < d.size * k := by simpa using ht
  have k0 : 0 < k := by
    rcases Nat.eq_zero_or_pos k with h | h
    · subst h; simp at ht'
    · exact h
  rw [get_setMany _ _ _ t (by simpa using ht'), get_flatK _ _ _ t ht', get_flatK _ _ _ t (by simpa using ht'), hk]
  by_cases a : t / k = i
  · rw [if_pos ((blk_iff k i t k0).2 a)]
    subst a
    rw [getElem!_set_same d _ _ hi, Nat.mod_eq_sub_div_mul]
  · rw [if_neg (fun h => a ((blk_iff k i t k0).1 h)), getElem!_set_other d i _ _ a]
theorem putRowK_set (w : World) (blk off : Nat) (d : Array α) {i : Nat} (hi : i < d.size) (x : α) : (putRowK enc k w blk off d).setCells blk (off + i * k) (enc x) = putRowK enc k w blk off (d.setIfInBounds i x) := by
  unfold putRowK
  have hb : i * k + k ≤ d.size * k := by
    have := Nat.mul_le_mul_right k (show i + 1 ≤ d.size from hi); rwa [Nat.add_mul, Nat.one_mul] at this
  rw [setCells_putRow _ _ _ _ _ _ (by rw [hk, size_flatK]; exact hb), lay_setMany enc k hk d hi]
theorem store_worldK {w wr : World} {n blk off : Nat} {dk : Array α} {i : Nat} (hi : i < dk.size) (hwr : wr = putRowK enc k (Sort.ahead w n) blk off dk) (x : α) (m : Nat) : (wr.setCells blk (off + i * k) (enc x)).drewN m = putRowK enc k (Sort.ahead w (n + m)) blk off (dk.setIfInBounds i x) := by
  subst hwr
  rw [putRowK_set enc k hk _ _ _ _ hi, putRowK_drewN]
omit hk in
theorem setCells_append (b : Nat) : ∀ (xs ys : List Value) (o : Nat) (w : World), w.setCells b o (xs ++ ys) = (w.setCells b o xs).setCells b (o + xs.length) ys
  | [], _, _, _ => rfl
  | x :: xs, ys, o, w => by
    rw [List.cons_append, World.setCells, World.setCells, setCells_append b xs ys (o + 1), List.length_cons, show o + 1 + xs.length = o + (xs.length + 1) by omega]
theorem putRowK_lay (w : World) (blk off : Nat) : ∀ (xs : List α) (d : Array α) (j : Nat), j + xs.length ≤ d.size → (putRowK enc k w blk off d).setCells blk (off + j * k) (xs.flatMap enc) = putRowK enc k w blk off (lay d j xs)
  | [], _, _, _ => rfl
  | x :: r, d, j, h => by
    have hl : j + (r.length + 1) ≤ d.size := by simpa using h
    rw [List.flatMap_cons, setCells_append, putRowK_set enc k hk _ _ _ _ (by omega), hk, lay, show off + j * k + k = off + (j + 1) * k by rw [Nat.add_mul, Nat.one_mul]; omega]
    exact putRowK_lay w blk off r _ (j + 1) (by simp; omega)
end
theorem zeroCells_two (a b : Value) : ∀ n, (Builtin.zeroCells #[a, b] n).toList = (List.replicate n [a, b]).flatten
  | 0 => by simp [Builtin.zeroCells]
  | n + 1 => by
    have ih := zeroCells_two a b n
    simp only [Builtin.zeroCells, Array.toList_map, Array.toList_range] at ih ⊢
    rw [show (#[a, b] : Array Value).size = 2 from rfl] at ih ⊢
    rw [List.replicate_succ', List.flatten_append, ← ih, show (n + 1) * 2 = n * 2 + 1 + 1 by omega, List.range_succ, List.range_succ, List.map_append, List.map_append]
    have h1 : n * 2 % 2 = 0 := by omega
    have h2 : (n * 2 + 1) % 2 = 1 := by omega
    simp [h1, h2]
theorem run_clear_ed (w : World) (ty : TypeId) (b o n c : Nat) (hn : 0 < n)
    (hc : ∀ j, j < n * 2 → (w.cell? ⟨b, o + j, none⟩).isSome = true) (hf : ∀ j, j < n * 2 → w.frozen? ⟨b, o + j, none⟩ = false) :
    (Builtin.clear_ #[35] ty #[.slice (some ⟨b, o, none⟩) n c]).run Tryz.prog w = .ok (.tuple #[]) (w.setCells b o ((List.replicate n (([], []) : Ed)).flatMap cE)) := by
  have ht : Tryz.prog.underlying 35 = some (.slice 73) := Tryz.underlying35
  have hv : ∀ w, (zeroValue 73).run Tryz.prog w = .ok (.agg #[.string ⟨#[]⟩, .string ⟨#[]⟩]) w := Tryz.zeroValue73
  have hzc : (Builtin.zeroCells (Value.agg #[.string ⟨#[]⟩, .string ⟨#[]⟩]).cells n).toList = (List.replicate n (([], []) : Ed)).flatMap cE := by
    rw [show (Value.agg #[.string ⟨#[]⟩, .string ⟨#[]⟩]).cells = #[.string ⟨#[]⟩, .string ⟨#[]⟩] from rfl, zeroCells_two]
    rw [List.flatMap, List.map_replicate]
    rfl
  have hl : ((List.replicate n (([], []) : Ed)).flatMap cE).length = n * 2 := by
    rw [← hzc, Array.length_toList]
    simp [Builtin.zeroCells, Value.cells]
  have hst := run_storeCells_cells (P := Tryz.prog) b o ((List.replicate n (([], []) : Ed)).flatMap cE) 0 w (by rw [hl]; simpa using hc) (by rw [hl]; simpa using hf) (by
    intro v hv'
    obtain ⟨x, _, hx⟩ := List.mem_flatMap.1 hv'
    simp only [cE, List.mem_cons, List.not_mem_nil, or_false] at hx
    rcases hx with rfl | rfl <;> rfl)
  simp only [Nat.add_zero] at hst
  obtain ⟨m, rfl⟩ : ∃ m, n = m + 1 := ⟨n - 1, by omega⟩
  simp [Builtin.clear_, run_underlying ht, hv, hzc, hst]
end Go.Proofs.YtodbelembghegaaGreatDoor
