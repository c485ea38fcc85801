import Derived.Test.YtghbceiigeialaaStarts
import Derived.Test.YtghbceiigeialaaVm4
namespace Go.Proofs.Ytghbceiigeialaa
set_option linter.unusedVariables false
set_option linter.unusedSimpArgs false
open Go.Vm (walkKids startsL startsOk)
open Go Go.Proofs Go.RowKit Go.Shelf
attribute [local go_sem] Oper.semAt_some
theorem walk_snoc (st : List Int) (pre : List Int) (a r k : Int) (h : walkKids st pre a = some r) : walkKids st (pre ++ [k]) a = if r < 0 ∨ k ≠ r then none else some ((st[k.toNat]?.getD 0) - 1) := by
  rw [walk_append, h]
  rfl
theorem Marks.fail {w : World} {len : Nat} {st : List Int} {ms : List Nat} {A : World} (hB : Boxes w len st A) (h : Marks w.heap.size ms A) : Marks w.heap.size ms ((A.setCell ⟨w.heap.size, 0, none⟩ (.slice none 0 0)).setCell ⟨w.heap.size + 1, 0, none⟩ (.bool false)) :=
  (h.set ⟨w.heap.size, 0, none⟩ _ hB.b0).set ⟨w.heap.size + 1, 0, none⟩ _ (hB.b1.other (by omega) _)
theorem bk_snd (zs : List Int) : (bk zs zs.length).map (fun x : Int × Int => x.2) = zs.reverse := by
  apply List.ext_getElem
  · simp [bk]
  · intro i h1 h2
    have hi : i < zs.length := by simpa [bk] using h1
    simp [bk, bkAt]
    rw [List.getElem?_eq_getElem (by omega)]
    rfl
theorem bk_prefix (zs : List Int) {k : Nat} (hk : k ≤ zs.length) : ∃ r, bk zs zs.length = bk zs k ++ r := by
  refine ⟨(bk zs zs.length).drop k, ?_⟩
  have h : bk zs k = (bk zs zs.length).take k := by
    unfold bk
    rw [← List.map_take, List.take_range, Nat.min_eq_left hk]
  rw [h, List.take_append_drop]
theorem walk_none {st zs : List Int} {k : Nat} {a : Int} (hk : k ≤ zs.length) (h : walkKids st ((bk zs k).map (fun x : Int × Int => x.2)) a = none) : walkKids st zs.reverse a = none := by
  obtain ⟨r, hr⟩ := bk_prefix zs hk
  rw [← bk_snd, hr, List.map_append, walk_append, h]
  rfl
theorem starts_none {l : List Nk} {i : Nat} {nd : Nk} {st : List Int} (hnd : l[i]? = some nd) (hs : startsL [] ((l.take i).map (·.kids)) = some st) (h : walkKids st nd.kids.reverse ((st.length : Int) - 1) = none) : startsL [] (l.map (·.kids)) = none := by
  have hd : l.drop i = nd :: l.drop (i + 1) := by
    obtain ⟨h1, h2⟩ := List.getElem?_eq_some_iff.1 hnd
    rw [List.drop_eq_getElem_cons h1, h2]
  have e : l.map (·.kids) = (l.take i).map (·.kids) ++ (nd.kids :: (l.drop (i + 1)).map (·.kids)) := by
    rw [← List.map_cons, ← hd, ← List.map_append, List.take_append_drop]
  rw [e, starts_append, hs]
  show startsL st (nd.kids :: _) = none
  rw [startsL, h]
def StartsPost (w : World) (l : List Nk) (e : Ending) (w' : World) : Prop :=
  Below w.heap.size w w' ∧ ∃ g bb, e = .returned (.tuple #[g, .bool bb]) ∧
    ((startsOk (l.map (·.kids)) = none ∧ g = .slice none 0 0 ∧ bb = false) ∨
     ∃ st, startsOk (l.map (·.kids)) = some st ∧ g = .slice (some ⟨w.heap.size + 2, 0, none⟩) l.length l.length ∧ w'.heap[w.heap.size + 2]? = some (.cells (arrOf l.length st) 3 (0, 0)) ∧ bb = (st[l.length - 1]?.getD 0 == 0))
theorem res54 {tmps : Array Value} {w W : World} {g : Value} {bb : Bool} (h2 : tmps.getD 2 undef = .pointer (some ⟨w.heap.size, 0, none⟩)) (h3 : tmps.getD 3 undef = .pointer (some ⟨w.heap.size + 1, 0, none⟩))
    (b0 : Boxed W w.heap.size 27 g) (b1 : Boxed W (w.heap.size + 1) 4 (.bool bb)) (hg : ∃ a n c, g = .slice a n c) : (results Try.f35 tmps).run Try.prog W = .ok (.tuple #[g, .bool bb]) W := by
  obtain ⟨a, n, c, rfl⟩ := hg
  have c0 := b0.cell
  have c1 := b1.cell
  refine Vm.results_run (P := Try.prog) (w := W) (fn := Try.f35) (tmps := tmps) (gs := [.slice a n c, .bool bb]) ?_ rfl
  intro i x hx
  have hr : Try.f35.results.toList = [.cell 2 27, .cell 3 4] := rfl
  rw [hr] at hx
  match i, hx with
  | 0, hx =>
    cases hx
    refine ⟨_, rfl, ?_⟩
    simp only [Vm.resM, h2]
    simp [go_sem, c0]
  | 1, hx =>
    cases hx
    refine ⟨_, rfl, ?_⟩
    simp only [Vm.resM, h3]
    simp [go_sem, c1]
  | i + 2, hx => simp at hx
set_option maxRecDepth 100000 in
set_option maxHeartbeats 4000000 in
theorem starts_in (w : World) (a : Option Addr) (cap : Nat) (l : List Nk) (hl : l.length ≤ 140737488351232) (hkl : ∀ n, n ∈ l → n.kids.length * 8 ≤ 140737488351232) (hN : NodesAt w.heap.size w (.slice a l.length cap) l) :
    CallsIn Fence.wide 9 Try.prog 35 #[.slice a l.length cap] w fun e w' => StartsPost w l e w' := by
  refine callsIn_of_wp_marks Try.func35 rfl trivial ?_ rfl
  simp only [Try.ntmps35, List.size_toArray, List.length_cons, List.length_nil, Nat.reduceAdd, Nat.reduceSub, Array.replicate_succ, Array.replicate_zero, List.push_toArray, List.append_toArray, List.nil_append, List.cons_append]
  by_cases hb : (decide (1 ≤ (l.length : Int)) && decide ((l.length : Int) ≤ 400)) = true
  · have hmk := fun W => mk_ints l.length (by simp at hb; omega) W
    gi_wp2_with (refine ⟨trivial, ?_⟩; gi_at_call 22; refine (within_in Fence.wide _ trivial rfl _ _ _ _).mono ?_; rintro e w' ⟨rfl, rfl⟩; rw [hb])
    refine wpIn_loop (fun a' W => ∃ (U : Nat → Value) (i : Nat) (st : List Int) (ms : List Nat), i ≤ l.length ∧ startsL [] ((l.take i).map (·.kids)) = some st ∧ st.length = i ∧ Boxes w l.length st W ∧ Marks w.heap.size ms W ∧
      a' = { tmps := #[.slice a l.length cap, undef, .pointer (some ⟨w.heap.size, 0, none⟩), .pointer (some ⟨w.heap.size + 1, 0, none⟩), .pointer (some ⟨w.heap.size + 3, 0, none⟩), U 5, U 6, U 7, undef, U 9, .slice a l.length cap, .int .i64 (l.length : Int), .bool true, .bool false, .slice a l.length cap, .int .i64 (l.length : Int), .slice (some ⟨w.heap.size + 2, 0, none⟩) l.length l.length, .slice a l.length cap, .int .i64 (l.length : Int), .int .i64 (i : Int), U 20, U 21, U 22, U 23, U 24, U 25, U 26, U 27, U 28, U 29, U 30, U 31, U 32, U 33, U 34, U 35, U 36, U 37, U 38, U 39, U 40, U 41, U 42, U 43, U 44, U 45, U 46, U 47, U 48, U 49, U 50, U 51, U 52, U 53, U 54, U 55, U 56], defers := ms.map markOf }) (fun a' _ => ((l.length : Int) - intOf (a'.tmps.getD 19 undef)).toNat) ?start ?round
    case start =>
      refine ⟨fun _ => undef, 0, [], [], Nat.zero_le _, by simp [startsL], rfl, ?_, ⟨List.nodup_nil, fun D h => by cases h⟩, ?_⟩
      · have g0 := Boxed.new w 27 (.slice none 0 0)
        have g1 := Boxed.new (w.alloc (.cells #[.slice none 0 0] 27)) 4 (.bool false)
        have g2 := World.alloc_heap_new ((w.alloc (.cells #[.slice none 0 0] 27)).alloc (.cells #[.bool false] 4)) (.cells (arrOf l.length []) 3)
        have g3 := Boxed.new (((w.alloc (.cells #[.slice none 0 0] 27)).alloc (.cells #[.bool false] 4)).alloc (.cells (arrOf l.length []) 3)) 27 (.slice (some ⟨w.heap.size + 2, 0, none⟩) l.length l.length)
        simp only [World.size_alloc] at g1 g2 g3
        refine ⟨((g0.alloc _).alloc _).alloc _, (g1.alloc _).alloc _, ?_, g3, ?_⟩
        · rw [Below.heap_alloc _ _ _ (by simp)]
          exact g2
        · exact ((((Below.refl _ w).alloc (Nat.le_refl _) _).alloc (by simp) _).alloc (by simp; omega) _).alloc (by simp; omega) _
      · rfl
    case round =>
      rintro a' W ⟨U, i, st, ms, hi, hs, hsl, hB, hM, rfl⟩
      have hst := starts_ok _ _ _ okSt_nil hs
      by_cases hlt : i < l.length
      · obtain ⟨a0, cap0, ea, hN'⟩ := hN
        have hne : l ≠ [] := by intro e; subst e; simp at hlt
        obtain ⟨b, off, e1, hbn, hnodes⟩ := hN' hne
        cases ea
        subst e1
        clear hN'
        obtain ⟨nd, hnd⟩ : ∃ nd, l[i]? = some nd := ⟨l[i], by simp [hlt]⟩
        have hkn := hkl nd (List.mem_of_getElem? hnd)
        obtain ⟨sv, h0, h1, h2, h3, h4, hk⟩ := hnodes i nd hnd
        have hkW := hk.below hB.bel
        have c0 : W.cell? ⟨b, off + i * 5, none⟩ = some (.int .i64 nd.kind) := (hB.bel.cell (p := ⟨b, off + i * 5, none⟩) hbn).trans h0
        have c1 : W.cell? ⟨b, off + i * 5 + 1, none⟩ = some (.int .i64 nd.op) := (hB.bel.cell (p := ⟨b, off + i * 5 + 1, none⟩) hbn).trans h1
        have c2 : W.cell? ⟨b, off + i * 5 + 2, none⟩ = some (.string nd.text) := (hB.bel.cell (p := ⟨b, off + i * 5 + 2, none⟩) hbn).trans h2
        have c3 : W.cell? ⟨b, off + i * 5 + 3, none⟩ = some (.string nd.other) := (hB.bel.cell (p := ⟨b, off + i * 5 + 3, none⟩) hbn).trans h3
        have c4 : W.cell? ⟨b, off + i * 5 + 4, none⟩ = some sv := (hB.bel.cell (p := ⟨b, off + i * 5 + 4, none⟩) hbn).trans h4
        obtain ⟨ka, kc, esv, hkc⟩ := hk
        subst esv
        clear hnodes h0 h1 h2 h3 h4 hkc
        gi_wp2_with (refine ⟨trivial, ?_⟩; gi_at_call 42; refine (back_in Fence.wide _ trivial rfl _ _ _ _).mono ?_; rintro e w' ⟨rfl, rfl⟩)
        clear c0 c1 c2 c3 c4
        obtain ⟨o1, ho1⟩ : ∃ o, o = Obj.cells #[Value.int .i64 nd.kind, .int .i64 nd.op, .string nd.text, .string nd.other, .slice ka nd.kids.length kc] 49 := ⟨_, rfl⟩
        rw [← ho1]
        have hsz := hB.size
        have bA := (Boxed.new (W.alloc o1) 3 (.int .i64 ((i : Int) - 1))).alloc (.cells #[.slice ka nd.kids.length kc] 27)
        have bS := Boxed.new ((W.alloc o1).alloc (.cells #[.int .i64 ((i : Int) - 1)] 3)) 27 (.slice ka nd.kids.length kc)
        have hB1 := ((hB.alloc o1).alloc (.cells #[.int .i64 ((i : Int) - 1)] 3)).alloc (.cells #[.slice ka nd.kids.length kc] 27)
        have hM1 := ((hM.alloc o1).alloc (.cells #[.int .i64 ((i : Int) - 1)] 3)).alloc (.cells #[.slice ka nd.kids.length kc] 27)
        obtain ⟨WL, hWL⟩ : ∃ WL, WL = ((W.alloc o1).alloc (.cells #[.int .i64 ((i : Int) - 1)] 3)).alloc (.cells #[.slice ka nd.kids.length kc] 27) := ⟨_, rfl⟩
        rw [← hWL] at bA bS hB1 hM1 ⊢
        simp only [World.size_alloc] at bA bS
        have hWs : WL.heap.size = W.heap.size + 3 := by rw [hWL]; simp
        have hkWL : IntsAt w.heap.size WL (.slice ka nd.kids.length kc) nd.kids := hkW.below (by
          rw [hWL]
          exact (((Below.refl _ W).alloc (by omega) _).alloc (by simp; omega) _).alloc (by simp; omega) _)
        clear hWL ho1 hkW
        have hmsl := hM.lt
        refine wpIn_rangeFunc_ownG rfl (by decide) (gf := 50) (lb := #[.pointer (some ⟨W.heap.size + 1 + 1, 0, none⟩)]) rfl trivial (enters_of Try.func50 (by kernel_rfl) rfl)
          (back_stops Fence.wide 8 trivial rfl (by decide) (W.heap.size + 1 + 1) w.heap.size _ nd.kids hkn WL (by omega) (by omega) bS.cell hkWL)
          (fun h k => h.trans k) (fun W' k o o' hk h h1 h2 => KpB.keeps W' k o o' (by omega) h h1 h2) (Below.refl _ _) (fun _ => rfl)
          (fun pre WX => Boxes w l.length st WX ∧ Marks w.heap.size ms WX ∧ ∃ at_, walkKids st (pre.map (·.2)) ((i : Int) - 1) = some at_ ∧ Boxed WX (W.heap.size + 1) 3 (.int .i64 at_))
          (fun c pre WX => c = .ret ∧ Boxes w l.length st WX ∧ Marks w.heap.size ms WX ∧ walkKids st (pre.map (·.2)) ((i : Int) - 1) = none)
          (by
            rintro s A B row ⟨q1, q2, at_, q3, q4⟩ hg hr
            refine ⟨q1.grown hg (fun r e => by have := (hr r e).1; omega), q2.grown hg (fun r e hm => by have := (hr r e).1; have := hmsl r hm; omega), at_, q3, q4.kept hg (fun e => by have := (hr _ e.symm).1; omega)⟩)
          (by
            rintro c s A B row ⟨q0, q1, q2, q3⟩ hg hr
            exact ⟨q0, q1.grown hg (fun r e => by have := (hr r e).1; omega), q2.grown hg (fun r e hm => by have := (hr r e).1; have := hmsl r hm; omega), q3⟩)
          ⟨hB1, hM1, _, rfl, bA⟩
          (fun x => { tmps := #[.slice (some ⟨b, off, none⟩) l.length cap, undef, .pointer (some ⟨w.heap.size, 0, none⟩), .pointer (some ⟨w.heap.size + 1, 0, none⟩), .pointer (some ⟨w.heap.size + 3, 0, none⟩), .int .i64 (i : Int), .pointer (some ⟨W.heap.size, 0, none⟩), .pointer (some ⟨W.heap.size + 1, 0, none⟩), undef, .int .i64 x.2, .slice (some ⟨b, off, none⟩) l.length cap, .int .i64 (l.length : Int), .bool true, .bool false, .slice (some ⟨b, off, none⟩) l.length cap, .int .i64 (l.length : Int), .slice (some ⟨w.heap.size + 2, 0, none⟩) l.length l.length, .slice (some ⟨b, off, none⟩) l.length cap, .int .i64 (l.length : Int), .int .i64 (i : Int), .bool true, .int .i64 (i : Int), .pointer (some ⟨b, off + i * 5, none⟩), .agg #[.int .i64 nd.kind, .int .i64 nd.op, .string nd.text, .string nd.other, .slice ka nd.kids.length kc], .int .i64 (i : Int), .int .i64 ((i : Int) - 1), .pointer (some ⟨W.heap.size, 4, none⟩), .slice ka nd.kids.length kc, .func (.func 50) #[] #[.pointer (some ⟨W.heap.size + 1 + 1, 0, none⟩)], .int .i64 x.1, .int .i64 x.2, U 31, U 32, U 33, U 34, U 35, U 36, U 37, U 38, U 39, U 40, U 41, U 42, U 43, U 44, U 45, U 46, U 47, U 48, U 49, U 50, U 51, U 52, U 53, U 54, U 55, U 56], defers := [] }) ?assign ?body ?done ?stop
        case assign =>
          intro l' x WX K hK
          gi_wp2
          exact hK
        case body =>
          rintro l' pre x WX ⟨q1, q2, at_, q3, q4⟩ _
          have hr := walk_range hst _ _ _ (by omega) (by omega) q3
          have d4 := q4.cell
          have d4f := q4.frozen
          have d3 := q1.b3.cell
          have d0 := q1.b0.cell
          have d0f := q1.b0.frozen
          have d1 := q1.b1.cell
          have d1f := q1.b1.frozen
          by_cases hneg : at_ < 0
          · gi_wp2
            exact ⟨((KeepsOthers.setCell _ _ _).trans (KeepsOthers.setCell _ _ _)).from _, rfl, q1.fail, Marks.fail q1 q2, by
              simp only [List.map_append, List.map_cons, List.map_nil]
              rw [walk_snoc st _ _ _ x.2 q3, if_pos (.inl hneg)]⟩
          · obtain ⟨j, rfl⟩ : ∃ j : Nat, at_ = (j : Int) := ⟨at_.toNat, by omega⟩
            by_cases hke : x.2 = (j : Int)
            · have hz := okSt_get hst j
              have de := q1.elem (j := j) (by omega)
              have def_ := q1.elemF j
              have hsn := walk_snoc st (pre.map (·.2)) _ _ x.2 q3
              rw [hke] at hsn
              simp only [Int.toNat_natCast] at hsn
              generalize st[j]?.getD 0 = z at hz de hsn
              gi_wp2
              refine ⟨(KeepsOthers.setCell _ _ _).from _, ⟨(Below.refl _ _).setCell (p := ⟨W.heap.size + 1, 0, none⟩) (by show w.heap.size ≤ W.heap.size + 1; omega) _, fun v hv => ?_⟩, q1.set (by omega) _, q2.set _ _ q4, z - 1, ?_, q4.set _⟩
              · rw [← hv]
                exact World.cell?_of_block (Below.heap_setCell _ _ _ _ (by show W.heap.size + 1 + 1 ≠ W.heap.size + 1; omega))
              · simp only [List.map_append, List.map_cons, List.map_nil]
                rw [hke, hsn, if_neg (by omega)]
            · gi_wp2
              exact ⟨((KeepsOthers.setCell _ _ _).trans (KeepsOthers.setCell _ _ _)).from _, rfl, q1.fail, Marks.fail q1 q2, by
                simp only [List.map_append, List.map_cons, List.map_nil]
                rw [walk_snoc st _ _ _ x.2 q3, if_pos (.inr hke)]⟩
        case done =>
          rintro D xs WX hD rfl ⟨q1, q2, at_, q3, q4⟩ hK
          have hr := walk_range hst _ _ _ (by omega) (by omega) q3
          have d3 := q1.b3.cell
          have d4 := q4.cell
          have de := q1.elem (j := i) (by omega)
          have def_ := q1.elemF i
          generalize st[i]?.getD 0 = z at de
          gi_wp2
          have ei : ((i : Int) + 1) = ((i + 1 : Nat) : Int) := by omega
          rw [ei]
          have hx : (List.map (fun x : Int × Int => x.2) (bk nd.kids nd.kids.length)) = nd.kids.reverse := bk_snd _
          rw [hx] at q3
          have hcells := q1.b2
          refine ⟨⟨fun k => #[Value.slice (some ⟨b, off, none⟩) l.length cap, undef, Value.pointer (some ⟨w.heap.size, 0, none⟩), Value.pointer (some ⟨w.heap.size + 1, 0, none⟩), Value.pointer (some ⟨w.heap.size + 3, 0, none⟩), Value.int .i64 (i : Int), Value.pointer (some ⟨W.heap.size, 0, none⟩), Value.pointer (some ⟨W.heap.size + 1, 0, none⟩), undef, U 9, Value.slice (some ⟨b, off, none⟩) l.length cap, Value.int .i64 (l.length : Int), Value.bool true, Value.bool false, Value.slice (some ⟨b, off, none⟩) l.length cap, Value.int .i64 (l.length : Int), Value.slice (some ⟨w.heap.size + 2, 0, none⟩) l.length l.length, Value.slice (some ⟨b, off, none⟩) l.length cap, Value.int .i64 (l.length : Int), Value.int .i64 ((i + 1 : Nat) : Int), Value.bool true, Value.int .i64 (i : Int), Value.pointer (some ⟨b, off + i * 5, none⟩), Value.agg #[.int .i64 nd.kind, .int .i64 nd.op, .string nd.text, .string nd.other, .slice ka nd.kids.length kc], Value.int .i64 (i : Int), Value.int .i64 ((i : Int) - 1), Value.pointer (some ⟨W.heap.size, 4, none⟩), Value.slice ka nd.kids.length kc, Value.func (.func 50) #[] #[.pointer (some ⟨W.heap.size + 1 + 1, 0, none⟩)], U 29, U 30, U 31, U 32, U 33, U 34, U 35, U 36, U 37, U 38, U 39, U 40, U 41, U 42, Value.slice (some ⟨w.heap.size + 2, 0, none⟩) l.length l.length, Value.int .i64 (i : Int), Value.int .i64 at_, Value.int .i64 (at_ + 1), Value.pointer (some ⟨w.heap.size + 2, i, none⟩), Value.int .i64 ((i + 1 : Nat) : Int), U 49, U 50, U 51, U 52, U 53, U 54, U 55, U 56].getD k undef, i + 1, st ++ [at_ + 1], D :: ms, hlt, ?_, by simp [hsl], ?_, ?_, rfl⟩, ?_⟩
          · rw [List.take_add_one, hnd, Option.toList_some, List.map_append, starts_append, hs]
            show startsL st [nd.kids] = _
            rw [startsL, hsl, q3]
            rfl
          · rw [← hsl]
            exact q1.push (by omega) _
          · refine ⟨List.nodup_cons.2 ⟨fun hm => by have := hmsl D hm; omega, q2.nd⟩, fun d hd => ?_⟩
            have hset := q2.set ⟨w.heap.size + 2, i, none⟩ (.int .i64 (at_ + 1)) q1.b2
            rcases List.mem_cons.1 hd with rfl | hd
            · refine ⟨by omega, ?_⟩
              rw [Below.heap_setCell _ _ _ _ (by show d ≠ w.heap.size + 2; omega)]
              exact hK
            · exact hset.at_ d hd
          · simp [intOf]
            omega
        case stop =>
          rintro D c pre WX hD ⟨k, hkz, rfl⟩ ⟨rfl, q1, q2, q3⟩ hK
          gi_wp2
          have hM2 : Marks w.heap.size (D :: ms) WX := ⟨List.nodup_cons.2 ⟨fun hm => by have := hmsl D hm; omega, q2.nd⟩, fun d hd => by
            rcases List.mem_cons.1 hd with rfl | hd
            · exact ⟨by omega, hK⟩
            · exact q2.at_ d hd⟩
          refine leaves_marks (b := w.heap.size) (fun W' => Boxes w l.length st W') (fun W' d h hd => h.grown (grownBy_putObj' W' d _) (fun r e => by cases e; exact hd)) ?_ (D :: ms) WX q1 hM2
          intro W' q
          refine ⟨_, res54 (w := w) rfl rfl q.b0 q.b1 ⟨none, 0, 0, rfl⟩, q.bel, _, _, rfl, .inl ⟨?_, rfl, rfl⟩⟩
          simp at hb
          rw [startsOk, if_pos (by simp; omega)]
          exact starts_none hnd hs (by rw [hsl]; exact walk_none hkz q3)
      · obtain rfl : i = l.length := by omega
        simp at hb
        have d3 := hB.b3.cell
        have d0 := hB.b0.cell
        have d0f := hB.b0.frozen
        have d1 := hB.b1.cell
        have d1f := hB.b1.frozen
        have de := hB.elem (j := l.length - 1) (by omega)
        have def_ := hB.elemF (l.length - 1)
        generalize hz : st[l.length - 1]?.getD 0 = z at de
        gi_wp2
        gi_region
        all_goals gi_wp2
        have k0 : Boxed ((W.setCell ⟨w.heap.size, 0, none⟩ (.slice (some ⟨w.heap.size + 2, 0, none⟩) l.length l.length)).setCell ⟨w.heap.size + 1, 0, none⟩ (.bool (z == 0))).drew w.heap.size 27 (.slice (some ⟨w.heap.size + 2, 0, none⟩) l.length l.length) := (hB.b0.set _).other (by omega) _
        have k1 : Boxed ((W.setCell ⟨w.heap.size, 0, none⟩ (.slice (some ⟨w.heap.size + 2, 0, none⟩) l.length l.length)).setCell ⟨w.heap.size + 1, 0, none⟩ (.bool (z == 0))).drew (w.heap.size + 1) 4 (.bool (z == 0)) := (hB.b1.other (by omega) _).set _
        have k2 : ((W.setCell ⟨w.heap.size, 0, none⟩ (.slice (some ⟨w.heap.size + 2, 0, none⟩) l.length l.length)).setCell ⟨w.heap.size + 1, 0, none⟩ (.bool (z == 0))).drew.heap[w.heap.size + 2]? = some (.cells (arrOf l.length st) 3 (0, 0)) := by
          show ((W.setCell _ _).setCell _ _).heap[w.heap.size + 2]? = _
          rw [Below.heap_setCell _ _ _ _ (by simp), Below.heap_setCell _ _ _ _ (by simp)]
          exact hB.b2
        have k3 : Below w.heap.size w ((W.setCell ⟨w.heap.size, 0, none⟩ (.slice (some ⟨w.heap.size + 2, 0, none⟩) l.length l.length)).setCell ⟨w.heap.size + 1, 0, none⟩ (.bool (z == 0))).drew :=
          ((hB.bel.setCell (p := ⟨w.heap.size, 0, none⟩) (Nat.le_refl _) _).setCell (p := ⟨w.heap.size + 1, 0, none⟩) (Nat.le_succ _) _).drew
        have hM2 : Marks w.heap.size ms ((W.setCell ⟨w.heap.size, 0, none⟩ (.slice (some ⟨w.heap.size + 2, 0, none⟩) l.length l.length)).setCell ⟨w.heap.size + 1, 0, none⟩ (.bool (z == 0))).drew :=
          have h := (hM.set ⟨w.heap.size, 0, none⟩ (.slice (some ⟨w.heap.size + 2, 0, none⟩) l.length l.length) hB.b0).set ⟨w.heap.size + 1, 0, none⟩ (.bool (z == 0)) (hB.b1.other (by omega) _)
          ⟨h.nd, h.at_⟩
        refine leaves_marks (b := w.heap.size) (fun W' => Boxed W' w.heap.size 27 (.slice (some ⟨w.heap.size + 2, 0, none⟩) l.length l.length) ∧ Boxed W' (w.heap.size + 1) 4 (.bool (z == 0)) ∧ W'.heap[w.heap.size + 2]? = some (.cells (arrOf l.length st) 3 (0, 0)) ∧ Below w.heap.size w W')
          (fun W' d h hd => ?_) ?_ ms _ ⟨k0, k1, k2, k3⟩ hM2
        · obtain ⟨h0, h1, h2, h3⟩ := h
          have hg := grownBy_putObj' W' d (.deferred none)
          refine ⟨h0.kept hg (fun e => by cases e; omega), h1.kept hg (fun e => by cases e; omega), ?_, h3.grown hg h3.size (fun k e => by cases e; omega)⟩
          rw [hg.block _ (Array.getElem?_eq_some_iff.1 h2).1 (fun e => by cases e; omega)]
          exact h2
        · rintro W' ⟨h0, h1, h2, h3⟩
          refine ⟨_, res54 (w := w) rfl rfl h0 h1 ⟨_, _, _, rfl⟩, h3, _, _, rfl, .inr ⟨st, ?_, rfl, h2, by rw [hz]⟩⟩
          rw [startsOk, if_pos (by simp; omega)]
          rw [List.take_length] at hs
          exact hs
  · have hb' : (decide (1 ≤ (l.length : Int)) && decide ((l.length : Int) ≤ 400)) = false := by simpa using hb
    gi_wp2_with (refine ⟨trivial, ?_⟩; gi_at_call 22; refine (within_in Fence.wide _ trivial rfl _ _ _ _).mono ?_; rintro e w' ⟨rfl, rfl⟩; rw [hb'])
    have g0 := (Boxed.new w 27 (.slice none 0 0)).alloc (.cells #[.bool false] 4)
    have g1 := Boxed.new (w.alloc (.cells #[.slice none 0 0] 27)) 4 (.bool false)
    simp only [World.size_alloc] at g1
    refine ⟨_, res54 (w := w) rfl rfl g0 g1 ⟨none, 0, 0, rfl⟩, ((Below.refl _ w).alloc (Nat.le_refl _) _).alloc (by simp) _, _, _, rfl, .inl ⟨?_, rfl, rfl⟩⟩
    rw [startsOk, if_neg]
    intro h
    simp at hb h
    omega
end Go.Proofs.Ytghbceiigeialaa
