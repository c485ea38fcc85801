/-
  What the machine's steps on its cells mean, Go's memory standing still.
-/
import Derived.Test.YtfbemlhfieemhaaVmSim
namespace Go.Vm
open Go

def upF (F : Nat → List Nat) (r : Nat) (N : List Nat) : Nat → List Nat := fun k => if k = r then N else F k
def upM (μ : Nat → Value) (r : Nat) (g : Value) : Nat → Value := fun k => if k = r then g else μ k
@[simp] theorem upF_same (F : Nat → List Nat) (r : Nat) (N : List Nat) : upF F r N r = N := by simp [upF]
theorem upF_other {F : Nat → List Nat} {r k : Nat} (N : List Nat) (h : k ≠ r) : upF F r N k = F k := by simp [upF, h]
@[simp] theorem upM_same (μ : Nat → Value) (r : Nat) (g : Value) : upM μ r g r = g := by simp [upM]
theorem upM_other {μ : Nat → Value} {r k : Nat} (g : Value) (h : k ≠ r) : upM μ r g k = μ k := by simp [upM, h]

/-- the full view -/
def full (w : World) : View := fun b o => w.cell? ⟨b, o, none⟩
theorem view_le_full (w : World) (U X : Nat → Prop) : (view w U X).le (full w) := by
  intro b o v h
  unfold view at h
  split at h
  · exact h
  · cases h
theorem view_le {w : World} {U U' X X' : Nat → Prop} (hU : ∀ b, U b → U' b) (h : ∀ b, X' b → X b) : (view w U X).le (view w U' X') := by
  intro b o v hv
  unfold view at hv ⊢
  split at hv
  · rename_i hc
    rw [if_pos ⟨hU b hc.1, fun hx => hc.2 (h b hx)⟩]
    exact hv
  · cases hv

/-- what stands about the frame at a moment -/
structure GS where
  μ : Nat → Value
  F : Nat → List Nat
  E : List Nat
  out : List Nat
section
variable (base : Nat) (U : Nat → Prop) (w : World)
def Gok (m : Mem) (G : GS) : Prop := MInv base U m w G.μ G.F G.E G.out
noncomputable def Gh (G : GS) : View := view w U (excl G.F G.E)
end
/-- from one moment to the next: what was known of values stays known -/
structure GLe (m : Mem) (G : GS) (m' : Mem) (G' : GS) : Prop where
  mem : memLe G.μ m G'.μ m'
  ex : ∀ b, excl G'.F G'.E b → excl G.F G.E b
theorem GLe.refl (m : Mem) (G : GS) : GLe m G m G := ⟨memLe_refl _ _, fun _ h => h⟩
theorem GLe.trans {m1 m2 m3 : Mem} {G1 G2 G3 : GS} (h : GLe m1 G1 m2 G2) (k : GLe m2 G2 m3 G3) : GLe m1 G1 m3 G3 :=
  ⟨memLe_trans h.mem k.mem, fun b hb => h.ex b (k.ex b hb)⟩
theorem GLe.view {U : Nat → Prop} {w : World} {m m' : Mem} {G G' : GS} (h : GLe m G m' G') : (Gh U w G).le (Gh U w G') := view_le (fun _ x => x) h.ex
theorem GLe.simV {U : Nat → Prop} {w : World} {m m' : Mem} {G G' : GS} (h : GLe m G m' G') {v : V} {g : Value} (q : simV G.μ m (Gh U w G) v g) : simV G'.μ m' (Gh U w G') v g :=
  simV_mono h.mem h.view v g q
theorem GLe.simVs {U : Nat → Prop} {w : World} {m m' : Mem} {G G' : GS} (h : GLe m G m' G') {v : List V} {g : List Value} (q : simVs G.μ m (Gh U w G) v g) : simVs G'.μ m' (Gh U w G') v g :=
  simVs_mono h.mem h.view v g q

section
variable {base : Nat} {U : Nat → Prop} {w : World} {m : Mem} {G : GS}

/-- one cell is turned -/
theorem Gok.set (hg : Gok base U w m G) (r : Nat) (c' : Cell) (μ' : Nat → Value) (N E' out' : List Nat)
    (hs : (N ++ E').Nodup) (hsub : ∀ b, b ∈ N ++ E' → b ∈ G.F r ∨ b ∈ G.E) (hle : memLe G.μ m μ' (put r c' m)) (hμ : ∀ k, k ≠ r → μ' k = G.μ k)
    (ho : ∀ k, k ≠ r → (k ∈ out' ↔ k ∈ G.out)) (hr : r ∈ out' → N = [])
    (hc : (view w U (excl G.F G.E)).le (view w U (excl (upF G.F r N) E')) → r ∉ out' → simCell μ' (put r c' m) (heapOf w) (view w U (excl (upF G.F r N) E')) r c' N) :
    Gok base U w (put r c' m) ⟨μ', upF G.F r N, E', out'⟩ ∧ GLe m G (put r c' m) ⟨μ', upF G.F r N, E', out'⟩ := by
  have hex : ∀ b, excl (upF G.F r N) E' b → excl G.F G.E b := by
    rintro b (hb | ⟨k, hb⟩)
    · rcases hsub b (by simp [hb]) with h | h
      · exact .inr ⟨r, h⟩
      · exact .inl h
    · by_cases hk : k = r
      · subst hk
        rw [upF_same] at hb
        rcases hsub b (by simp [hb]) with h | h
        · exact .inr ⟨_, h⟩
        · exact .inl h
      · rw [upF_other N hk] at hb
        exact .inr ⟨k, hb⟩
  have hv : (view w U (excl G.F G.E)).le (view w U (excl (upF G.F r N) E')) := view_le (fun _ x => x) hex
  have hN := List.nodup_append.1 hs
  refine ⟨show MInv base U (put r c' m) w μ' (upF G.F r N) E' out' from ?_, ⟨hle, hex⟩⟩
  refine ⟨?_, ?_, ?_, ?_, hN.2.1, fun b hb => hg.lt b (hex b hb), hg.up, hg.bs, ?_, ?_⟩
  · intro k c hk hko
    rw [get_put] at hk
    by_cases e : k = r
    · subst e
      rw [if_pos rfl] at hk
      cases hk
      rw [upF_same]
      exact hc hv hko
    · rw [if_neg e] at hk
      rw [upF_other N e]
      exact simCell_mono hle hv (hμ k e) (fun b _ => rfl) (hg.cell k c hk (fun h => hko ((ho k e).2 h)))
  · intro k k' hne b hb hb'
    by_cases e : k = r
    · subst e
      rw [upF_same] at hb
      rw [upF_other N (Ne.symm hne)] at hb'
      rcases hsub b (by simp [hb]) with h | h
      · exact hg.dj _ _ hne b h hb'
      · exact hg.djE _ b hb' h
    · rw [upF_other N e] at hb
      by_cases e' : k' = r
      · subst e'
        rw [upF_same] at hb'
        rcases hsub b (by simp [hb']) with h | h
        · exact hg.dj _ _ hne b hb h
        · exact hg.djE _ b hb h
      · rw [upF_other N e'] at hb'
        exact hg.dj _ _ hne b hb hb'
  · intro k b hb hE
    by_cases e : k = r
    · subst e
      rw [upF_same] at hb
      exact hN.2.2 b hb b hE rfl
    · rw [upF_other N e] at hb
      rcases hsub b (by simp [hE]) with h | h
      · exact hg.dj _ _ e b hb h
      · exact hg.djE _ b hb h
  · intro k
    by_cases e : k = r
    · subst e
      rw [upF_same]
      exact hN.1
    · rw [upF_other N e]
      exact hg.nd k
  · intro k hk
    rw [get_put] at hk
    by_cases e : k = r
    · rw [if_pos e] at hk; cases hk
    · rw [if_neg e] at hk
      rw [upF_other N e]
      exact hg.none_ k hk
  · intro k hk
    by_cases e : k = r
    · subst e
      rw [upF_same]
      exact hr hk
    · rw [upF_other N e]
      exact hg.out_ k ((ho k e).1 hk)
/-- what was in hand is let go, or in another order -/
theorem Gok.less (hg : Gok base U w m G) (E' : List Nat) (hn : E'.Nodup) (hs : ∀ b, b ∈ E' → b ∈ G.E) :
    Gok base U w m { G with E := E' } ∧ GLe m G m { G with E := E' } := by
  have hex : ∀ b, excl G.F E' b → excl G.F G.E b := by
    rintro b (hb | hb)
    · exact .inl (hs b hb)
    · exact .inr hb
  have hv : (view w U (excl G.F G.E)).le (view w U (excl G.F E')) := view_le (fun _ x => x) hex
  refine ⟨⟨?_, hg.dj, fun r b hb hE => hg.djE r b hb (hs b hE), hg.nd, hn, fun b hb => hg.lt b (hex b hb), hg.up, hg.bs, hg.none_, hg.out_⟩, ⟨memLe_refl _ _, hex⟩⟩
  intro r c hc ho
  exact simCell_mono (memLe_refl _ _) hv rfl (fun _ _ => rfl) (hg.cell r c hc ho)

theorem memLe_put {μ μ' : Nat → Value} {r : Nat} {c' : Cell} (hμ : ∀ k, k ≠ r → μ' k = μ k) (h : ∀ c, get r m = some c → cellLe μ μ' r c c') : memLe μ m μ' (put r c' m) := by
  intro k c hk
  by_cases e : k = r
  · subst e
    exact ⟨c', get_put_same _ _ _, h c hk⟩
  · refine ⟨c, by rw [get_put_other e]; exact hk, ?_⟩
    cases c <;> simp [cellLe, hμ k e]

/-! ### reading what is one's own -/
theorem full_cell {b : Nat} {cs : Array Value} {t : TypeId} {fr : Nat × Nat} (h : heapOf w b = some (.cells cs t fr)) (o : Nat) : full w b o = cs.toList[o]? := by
  simp only [full, World.cell?]
  unfold heapOf at h
  simp [h]
end

theorem seenRow_at {h : View} {b : Nat} : ∀ (r : Row) (o : Nat) (cs : List Value), (∀ j v, cs[j]? = some v → h b (o + j) = some v) → seenRow h r cs → roRow h r b o
  | [], _, _, _, _ => by simp [roRow]
  | x :: r, o, cs, hc, ⟨v, cs', e, h1, h2⟩ => by
    subst e
    simp only [roRow]
    refine ⟨⟨v, hc 0 v rfl, h1⟩, seenRow_at r (o + 1) cs' (fun j u hj => ?_) h2⟩
    have := hc (j + 1) u (by simpa using hj)
    rw [show o + 1 + j = o + (j + 1) from by omega]
    exact this
theorem seenRows_at {h : View} {b s : Nat} : ∀ (rs : List Row) (o : Nat) (cs : List Value), (∀ j v, cs[j]? = some v → h b (o + j) = some v) → seenRows h s rs cs → roRows h s rs b o
  | [], _, _, _, _ => by simp [roRows]
  | r :: rs, o, cs, hc, ⟨h1, h2, h3⟩ => by
    simp only [roRows]
    refine ⟨h1, seenRow_at r o cs hc h2, seenRows_at rs (o + s) (cs.drop s) (fun j u hj => ?_) h3⟩
    rw [List.getElem?_drop] at hj
    rw [show o + s + j = o + (s + j) from by omega]
    exact hc _ _ hj

/-- h sees what H holds at the blocks N -/
def Sees (h : View) (H : Heap) (N : List Nat) : Prop := ∀ b, b ∈ N → ∀ cs t fr, H b = some (.cells cs t fr) → ∀ (o : Nat) v, cs.toList[o]? = some v → h b o = some v
theorem Sees.sub {h : View} {H : Heap} {N N' : List Nat} (q : Sees h H N) (hs : ∀ b, b ∈ N' → b ∈ N) : Sees h H N' := fun b hb => q b (hs b hb)

mutual
theorem ow_ro {H : Heap} {h h' : View} (hl : h.le h') : ∀ (x : D) (v : Value) (N : List Nat), Sees h' H N → ow H h x v N → ro h' x v
  | .int _ _, _, _, _, q => by simp only [ow] at q; simpa [ro] using q.1
  | .bool _, _, _, _, q => by simp only [ow] at q; simpa [ro] using q.1
  | .str _, _, _, _, q => by simp only [ow] at q; simpa [ro] using q.1
  | .nilf, _, _, _, q => by simp only [ow] at q; simpa [ro] using q.1
  | .sl false s rows, v, N, _, q => by
    simp only [ow] at q
    have := ro_mono hl _ _ q.2
    simpa [ro] using this
  | .sl true s rows, v, N, hs, q => by
    simp only [ow] at q
    simp only [ro]
    rcases q with ⟨rfl, rfl, rfl⟩ | ⟨b, cap, cs, t, N', h1, h2, h3, h4, h5, rfl⟩
    · exact ⟨none, 0, by simp, by simp, fun e => absurd rfl e⟩
    · refine ⟨_, cap, h1, h2, fun _ => ⟨b, 0, rfl, ?_⟩⟩
      refine seenRows_at rows 0 cs.toList (fun j v hj => by rw [Nat.zero_add]; exact hs b (by simp) cs t _ h3 j v hj) ?_
      exact owRows_seen hl s rows cs.toList N' (hs.sub (by simp; exact fun _ hb => .inr hb)) h5
theorem owRows_seen {H : Heap} {h h' : View} (hl : h.le h') (s : Nat) : ∀ (rows : List Row) (cs : List Value) (N : List Nat), Sees h' H N → owRows H h s rows cs N → seenRows h' s rows cs
  | [], _, _, _, _ => by simp [seenRows]
  | r :: rs, cs, N, hs, q => by
    simp only [owRows] at q
    obtain ⟨h1, N1, N2, rfl, h2, h3⟩ := q
    simp only [seenRows]
    exact ⟨h1, owRow_seen hl r cs N1 (hs.sub (by simp; exact fun _ hb => .inl hb)) h2, owRows_seen hl s rs _ N2 (hs.sub (by simp; exact fun _ hb => .inr hb)) h3⟩
theorem owRow_seen {H : Heap} {h h' : View} (hl : h.le h') : ∀ (r : Row) (cs : List Value) (N : List Nat), Sees h' H N → owRow H h r cs N → seenRow h' r cs
  | [], _, _, _, _ => by simp [seenRow]
  | x :: r, cs, N, hs, q => by
    simp only [owRow] at q
    obtain ⟨v, cs', N1, N2, rfl, rfl, h1, h2⟩ := q
    simp only [seenRow]
    exact ⟨v, cs', rfl, ow_ro hl x v N1 (hs.sub (by simp; exact fun _ hb => .inl hb)) h1, owRow_seen hl r cs' N2 (hs.sub (by simp; exact fun _ hb => .inr hb)) h2⟩
end
theorem arrS_ro {H : Heap} {h h' : View} (hl : h.le h') {fl : Bool} {s : Nat} {rows : List Row} {v : Value} {N : List Nat} (hs : Sees h' H N) (q : arrS H h fl s rows v N) (o : Bool) : ro h' (.sl o s rows) v := by
  simp only [ro]
  rcases q with ⟨rfl, rfl, rfl⟩ | ⟨b, cap, cs, t, N', h1, h2, h3, h4, h5, rfl⟩
  · exact ⟨none, 0, by simp, by simp, fun e => absurd rfl e⟩
  · refine ⟨_, cap, h1, h2, fun _ => ⟨b, 0, rfl, ?_⟩⟩
    refine seenRows_at rows 0 cs.toList (fun j v hj => by rw [Nat.zero_add]; exact hs b (by simp) cs t _ h3 j v hj) ?_
    cases fl with
    | true => exact seenRows_mono hl s rows _ h5.1
    | false => exact owRows_seen hl s rows cs.toList N' (hs.sub (by simp; exact fun _ hb => .inr hb)) h5
theorem ro_own {h : View} {o o' : Bool} {s : Nat} {rows : List Row} {v : Value} (q : ro h (.sl o s rows) v) : ro h (.sl o' s rows) v := by simpa [ro] using q
theorem sees_full {w : World} {N : List Nat} : Sees (full w) (heapOf w) N := by
  intro b _ cs t fr hb o v hv
  rw [full_cell hb, hv]
theorem sees_view {w : World} {U X : Nat → Prop} {N : List Nat} (hU : ∀ b, b ∈ N → U b ∧ ¬ X b) : Sees (view w U X) (heapOf w) N := by
  intro b hm cs t fr hb o v hv
  unfold view
  rw [if_pos (hU b hm)]
  have := full_cell hb o
  rw [hv] at this
  exact this

/-! ### flags that nobody looks at -/
mutual
theorem ro_fz {h : View} : ∀ (x : D) (v : Value), ro h x v → ro h x.fz v
  | .int _ _, _, q => by simpa [D.fz] using q
  | .bool _, _, q => by simpa [D.fz] using q
  | .str _, _, q => by simpa [D.fz] using q
  | .nilf, _, q => by simpa [D.fz] using q
  | .sl own s rows, v, q => by
    simp only [D.fz, ro] at q ⊢
    obtain ⟨a, cap, h1, h2, h3⟩ := q
    have hlen : (fzRows rows).length = rows.length := fzRows_length rows
    refine ⟨a, cap, by rw [hlen]; exact h1, by rw [hlen]; exact h2, fun hn => ?_⟩
    have hn' : rows ≠ [] := by intro e; subst e; exact hn rfl
    obtain ⟨b, o, h4, h5⟩ := h3 hn'
    exact ⟨b, o, h4, roRows_fz s rows b o h5⟩
theorem fzRows_length : ∀ rows : List Row, (fzRows rows).length = rows.length
  | [] => rfl
  | r :: rs => by simp [fzRows, fzRows_length rs]
theorem fzRow_length : ∀ r : Row, (fzRow r).length = r.length
  | [] => rfl
  | x :: r => by simp [fzRow, fzRow_length r]
theorem roRows_fz {h : View} (s : Nat) : ∀ (rows : List Row) (b o : Nat), roRows h s rows b o → roRows h s (fzRows rows) b o
  | [], _, _, _ => by simp [fzRows, roRows]
  | r :: rs, b, o, q => by
    simp only [fzRows, roRows] at q ⊢
    exact ⟨by rw [fzRow_length]; exact q.1, roRow_fz r b o q.2.1, roRows_fz s rs b (o + s) q.2.2⟩
theorem roRow_fz {h : View} : ∀ (r : Row) (b o : Nat), roRow h r b o → roRow h (fzRow r) b o
  | [], _, _, _ => by simp [fzRow, roRow]
  | x :: r, b, o, q => by
    simp only [fzRow, roRow] at q ⊢
    obtain ⟨⟨v, h1, h2⟩, h3⟩ := q
    exact ⟨⟨v, h1, ro_fz x v h2⟩, roRow_fz r b (o + 1) h3⟩
end
theorem ro_vw {h : View} {fl : Bool} {o : Bool} {s : Nat} {rows : List Row} {v : Value} (q : ro h (.sl o s rows) v) : ro h (.sl false s (vw fl rows)) v := by
  unfold vw
  cases fl with
  | true => exact ro_own q
  | false => simpa [D.fz] using ro_fz _ _ q
theorem ro_roD {h : View} {x : D} {v : Value} (q : ro h x v) : ro h (roD x) v := by
  cases x <;> simpa [roD, ro] using q
theorem ow_roD {H : Heap} {h : View} {x : D} {v : Value} (q : ro h x v) : ow H h (roD x) v [] := by
  cases x <;> simp [roD, ow, ro] at q ⊢ <;> exact q

theorem ow_flat {H : Heap} {h : View} {x : D} {v : Value} (hf : x.flat = true) (q : ro h x v) : ow H h x v [] := by
  cases x <;> simp [D.flat, ow, ro] at hf q ⊢ <;> exact q
theorem owRow_flat {H : Heap} {h : View} : ∀ (r : Row) (cs : List Value), (r.all D.flat) = true → seenRow h r cs → owRow H h r cs []
  | [], _, _, _ => by simp [owRow]
  | x :: r, cs, hf, ⟨v, cs', e, h1, h2⟩ => by
    simp only [List.all_cons, Bool.and_eq_true] at hf
    simp only [owRow]
    exact ⟨v, cs', [], [], e, rfl, ow_flat hf.1 h1, owRow_flat r cs' hf.2 h2⟩
theorem owRows_flat {H : Heap} {h : View} (s : Nat) : ∀ (rs : List Row) (cs : List Value), flatRows rs = true → seenRows h s rs cs → owRows H h s rs cs []
  | [], _, _, _ => by simp [owRows]
  | r :: rs, cs, hf, ⟨h1, h2, h3⟩ => by
    simp only [flatRows, List.all_cons, Bool.and_eq_true] at hf
    simp only [owRows]
    exact ⟨h1, [], [], rfl, owRow_flat r cs hf.1 h2, owRows_flat s rs _ hf.2 h3⟩
theorem arrS_ow {H : Heap} {h : View} {fl : Bool} {s : Nat} {rows : List Row} {v : Value} {N : List Nat} (ho : outOk fl rows = true) (q : arrS H h fl s rows v N) : ow H h (.sl true s rows) v N := by
  simp only [ow]
  rcases q with q | ⟨b, cap, cs, t, N', h1, h2, h3, h4, h5, rfl⟩
  · exact .inl q
  · refine .inr ⟨b, cap, cs, t, N', h1, h2, h3, h4, ?_, rfl⟩
    cases fl with
    | true =>
      obtain ⟨h5, rfl⟩ := h5
      exact owRows_flat s rows _ (by simpa [outOk] using ho) h5
    | false => exact h5
/-- an owned slice becomes an array; what it has inside is only read where fl says so -/
theorem ow_arrS {H : Heap} {h : View} {s : Nat} {rows : List Row} {v : Value} {N : List Nat} (q : ow H h (.sl true s rows) v N) : arrS H h false s rows v N := by
  simpa [ow, arrS] using q
theorem ow_arrS_fl {H : Heap} {h : View} {s : Nat} {rows : List Row} {v : Value} {N : List Nat} (q : ow H h (.sl true s rows) v N) :
    ∃ N1 N2, N = N1 ++ N2 ∧ ∀ h', h.le h' → Sees h' H N2 → arrS H h' true s rows v N1 := by
  simp only [ow] at q
  rcases q with ⟨rfl, rfl, rfl⟩ | ⟨b, cap, cs, t, N', h1, h2, h3, h4, h5, rfl⟩
  · exact ⟨[], [], rfl, fun _ _ _ => .inl ⟨rfl, rfl, rfl⟩⟩
  · exact ⟨[b], N', rfl, fun h' hl hs => .inr ⟨b, cap, cs, t, [], h1, h2, h3, h4, ⟨owRows_seen hl s rows _ N' hs h5, rfl⟩, rfl⟩⟩
end Go.Vm
