import Derived.Test.YtghbceiigeialaaVm4
import Derived.ChangeShapes
import Derived.ChangeOld
import Derived.Carry
import Derived.WideShapes
import Derived.ProofKit
set_option linter.unusedVariables false
set_option linter.unusedSimpArgs false

namespace Go.Vm
open Go
def it {α : Type} (f : α → α) : Nat → α → α
  | 0, x => x
  | n + 1, x => it f n (f x)
theorem it_nil {α : Type} (f : α → α) (x : α) : it f 0 x = x := rfl
theorem it_next {α : Type} (f : α → α) (n : Nat) (x : α) : it f (n + 1) x = it f n (f x) := rfl
theorem it_add {α : Type} (f : α → α) : ∀ (m n : Nat) (x : α), it f (m + n) x = it f n (it f m x)
  | 0, n, x => by rw [Nat.zero_add]; rfl
  | m + 1, n, x => by rw [Nat.add_right_comm]; exact it_add f m n (f x)
theorem it_succ {α : Type} (f : α → α) (n : Nat) (x : α) : it f (n + 1) x = f (it f n x) := it_add f n 1 x
def lcgM : Nat := 18446744073709551616
def lcgT (x : Nat) : Nat := (6364136223846793005 * x + 1442695040888963407) % lcgM
def pwT : List (Nat × Nat) := [(6364136223846793005, 1442695040888963407), (7520897724310334953, 1876011003808476466), (18108194425815612945, 7401132627792533940), (13086856194709077281, 6566661184467396264), (10186629832379121217, 3646985772805368400), (10828933358287359105, 982119659650238624), (4910590176156014849, 10607473198416945472), (9908147928152388097, 6914523672464851584), (146241703003251713, 4689171378020353280), (7321387688379467777, 8103286608563669504), (12255457568021647361, 7710372194127975424), (9867978473775767553, 16043993925053589504), (5088048636545613825, 1993901509916512256), (2150478223927705601, 13175896319671181312), (9196835419631190017, 1993366741509554176), (5957860013156466689, 7241871532530761728), (10389140232424652801, 9829074100562493440), (13023643825678581761, 7211655632440131584), (288945459443007489, 14014807304630960128), (13413133364217511937, 15586959662575517696), (8991946233350193153, 5614651135149211648), (1986842707489718273, 10449321915693662208), (13772462672974970881, 17778722412968280064), (11399802156803424257, 4631015078550831104), (13559343778149433345, 14683519683525607424), (8604389488178757633, 14159509325327892480), (16938562998715285505, 4382386631181598720), (14349518013152100353, 5251965553014210560), (5928836310318972929, 14899444342342025216), (13010594125244792833, 10487453482519363584), (12186130195207421953, 17516142451218186240), (5925516316705292289, 2750482773444657152), (11851032633410584577, 5500965546889314304), (5255321193111617537, 11001931093778628608), (10510642386223235073, 3557118113847705600), (2574540698736918529, 7114236227695411200), (5149081397473837057, 14228472455390822400), (10298162794947674113, 10010200837072093184), (2149581516185796609, 1573657600434634752), (4299163032371593217, 3147315200869269504), (8598326064743186433, 6294630401738539008), (17196652129486372865, 12589260803477078016), (15946560185263194113, 6731777533244604416), (13446376296816836609, 13463555066489208832), (8446008519924121601, 8480366059268866048), (16892017039848243201, 16960732118537732096), (15337290005986934785, 15474720163365912576), (12227835938264317953, 12502696253022273536), (6008927802819084289, 6558648432334995456), (12017855605638168577, 13117296864669990912), (5588967137566785537, 7787849655630430208), (11177934275133571073, 15575699311260860416), (3909124476557590529, 12704654548812169216), (7818248953115181057, 6962565023914786816), (15636497906230362113, 13925130047829573632), (12826251738751172609, 9403516021949595648), (7205759403792793601, 360287970189639680), (14411518807585587201, 720575940379279360), (10376293541461622785, 1441151880758558720), (2305843009213693953, 2882303761517117440), (4611686018427387905, 5764607523034234880), (9223372036854775809, 11529215046068469760), (1, 4611686018427387904), (1, 9223372036854775808)]
def pwSteps : List (Nat × Nat) → Bool
  | a :: l => (match l with
    | b :: _ => Nat.beq b.1 (a.1 * a.1 % lcgM) && Nat.beq b.2 ((a.1 * a.2 + a.2) % lcgM)
    | [] => true) && pwSteps l
  | [] => true
def pwLow : Nat → List (Nat × Nat) → Bool
  | p, a :: l => Nat.beq (a.1 % (2 * p)) 1 && (Nat.beq (a.2 % (2 * p)) p && pwLow (2 * p) l)
  | _, [] => true
theorem pw_steps : pwSteps pwT = true := by kernel_rfl
theorem pw_low : pwLow 1 pwT = true := by kernel_rfl
theorem pw_len : pwT.length = 64 := by kernel_rfl
theorem aff (M a c x : Nat) : (a * ((a * x + c) % M) + c) % M = (a * a % M * x + (a * c + c) % M) % M := by
  have h1 : (a * ((a * x + c) % M) + c) % M = (a * (a * x + c) + c) % M := by
    rw [Nat.add_mod, Nat.mul_mod, Nat.mod_mod, ← Nat.mul_mod, ← Nat.add_mod]
  have h2 : (a * a % M * x + (a * c + c) % M) % M = (a * a * x + (a * c + c)) % M := by
    rw [Nat.add_mod, Nat.mod_mod, Nat.mul_mod, Nat.mod_mod, ← Nat.mul_mod, ← Nat.add_mod]
  rw [h1, h2, Nat.mul_add, Nat.mul_assoc, Nat.add_assoc]
theorem it_list : ∀ (l : List (Nat × Nat)) (k : Nat) (a : Nat × Nat), pwSteps (a :: l) = true → (∀ x, it lcgT (2 ^ k) x = (a.1 * x + a.2) % lcgM) → ∀ (j : Nat) q, (a :: l)[j]? = some q → ∀ x, it lcgT (2 ^ (k + j)) x = (q.1 * x + q.2) % lcgM
  | l, k, a, _, h, 0, q, hq => by
    cases hq
    exact h
  | [], k, a, _, h, j + 1, q, hq => by simp at hq
  | b :: l, k, a, hs, h, j + 1, q, hq => by
    rw [pwSteps] at hs
    simp only [Bool.and_eq_true] at hs
    have h1 := Nat.eq_of_beq_eq_true hs.1.1
    have h2 := Nat.eq_of_beq_eq_true hs.1.2
    have hb : ∀ x, it lcgT (2 ^ (k + 1)) x = (b.1 * x + b.2) % lcgM := by
      intro x
      rw [Nat.pow_succ, Nat.mul_two, it_add, h x, h, h1, h2, aff]
    rw [← Nat.add_assoc, Nat.add_right_comm]
    exact it_list l (k + 1) b hs.2 hb j q (by simpa using hq)
theorem low_list : ∀ (l : List (Nat × Nat)) (k : Nat), pwLow (2 ^ k) l = true → ∀ (j : Nat) q, l[j]? = some q → q.1 % 2 ^ (k + j + 1) = 1 ∧ q.2 % 2 ^ (k + j + 1) = 2 ^ (k + j)
  | [], k, _, j, q, hq => by simp at hq
  | a :: l, k, h, 0, q, hq => by
    cases hq
    rw [pwLow] at h
    simp only [Bool.and_eq_true] at h
    rw [Nat.add_zero, Nat.pow_succ, Nat.mul_comm]
    exact ⟨Nat.eq_of_beq_eq_true h.1, Nat.eq_of_beq_eq_true h.2.1⟩
  | a :: l, k, h, j + 1, q, hq => by
    rw [pwLow] at h
    simp only [Bool.and_eq_true] at h
    have := low_list l (k + 1) (by rw [Nat.pow_succ, Nat.mul_comm]; exact h.2.2) j q (by simpa using hq)
    rwa [show k + 1 + j = k + (j + 1) by omega] at this
theorem lcg_base (a : Nat × Nat) (h : a = (6364136223846793005, 1442695040888963407)) (x : Nat) : it lcgT (2 ^ 0) x = (a.1 * x + a.2) % lcgM := by
  rw [h, Nat.pow_zero, it, it, lcgT]
theorem pw_head : pwT.head? = some (6364136223846793005, 1442695040888963407) := by kernel_rfl
theorem pw_at (k : Nat) (hk : k < 64) : ∃ q : Nat × Nat, q.1 % 2 ^ (k + 1) = 1 ∧ q.2 % 2 ^ (k + 1) = 2 ^ k ∧ ∀ x, it lcgT (2 ^ k) x = (q.1 * x + q.2) % lcgM := by
  have h1 := pw_steps
  have h2 := pw_low
  have h3 := pw_len
  have h4 := pw_head
  generalize pwT = l at h1 h2 h3 h4
  cases hq : l[k]? with
  | none => rw [List.getElem?_eq_none_iff] at hq; omega
  | some q =>
    obtain ⟨ha, hc⟩ := low_list l 0 h2 k q hq
    rw [Nat.zero_add] at ha hc
    cases l with
    | nil => simp at h4
    | cons a l =>
      simp only [List.head?_cons, Option.some.injEq] at h4
      have hs := it_list l 0 a h1 (lcg_base a h4) k q hq
      rw [Nat.zero_add] at hs
      exact ⟨q, ha, hc, hs⟩
theorem lcg_zero : ∀ (k : Nat), k ≤ 64 → ∀ x, ∃ t, it lcgT t x % 2 ^ k = 0
  | 0, _, x => ⟨0, Nat.mod_one _⟩
  | k + 1, hk, x => by
    obtain ⟨t, ht⟩ := lcg_zero k (by omega) x
    have hm : it lcgT t x % 2 ^ (k + 1) = 2 ^ k * (it lcgT t x / 2 ^ k % 2) := by rw [Nat.pow_succ, Nat.mod_mul, ht, Nat.zero_add]
    have h2 : it lcgT t x / 2 ^ k % 2 = 0 ∨ it lcgT t x / 2 ^ k % 2 = 1 := by omega
    rcases h2 with h2 | h2
    · exact ⟨t, by rw [hm, h2, Nat.mul_zero]⟩
    · rw [h2, Nat.mul_one] at hm
      refine ⟨t + 2 ^ k, ?_⟩
      obtain ⟨q, ha, hc, hs⟩ := pw_at k (by omega)
      have hd : 2 ^ (k + 1) ∣ lcgM := by
        have : lcgM = 2 ^ 64 := by decide
        rw [this]
        exact Nat.pow_dvd_pow 2 hk
      rw [it_add, hs, Nat.mod_mod_of_dvd _ hd, Nat.add_mod, Nat.mul_mod, ha, hm, hc, Nat.one_mul]
      have hlt : 2 ^ k < 2 ^ (k + 1) := by rw [Nat.pow_succ]; have := Nat.two_pow_pos k; omega
      rw [Nat.mod_eq_of_lt hlt, Nat.pow_succ, Nat.mul_two, Nat.mod_self]
def nxH (h : Int) : Int := IntKind.i64.wrap (IntKind.i64.wrap (h * 6364136223846793005) + 1442695040888963407)
def resH (h : Int) : Nat := (h % 18446744073709551616).toNat
theorem nxH_in (h : Int) : -9223372036854775808 ≤ nxH h ∧ nxH h ≤ 9223372036854775807 := by
  unfold nxH; rw [IntKind.wrap_i64, IntKind.wrap_i64]; omega
theorem wrap_mod (z : Int) : IntKind.i64.wrap z % 18446744073709551616 = z % 18446744073709551616 := by rw [IntKind.wrap_i64]; omega
theorem lcg_int (a c m h : Int) (hm : 0 < m) : (a * ((h % m).toNat : Int) + c) % m = (h * a + c) % m := by
  rw [Int.toNat_of_nonneg (Int.emod_nonneg h (by omega)), Int.add_emod, Int.mul_emod, Int.emod_emod_of_dvd h (Int.dvd_refl m), ← Int.mul_emod, ← Int.add_emod, Int.mul_comm]
theorem res_nx (h : Int) : resH (nxH h) = lcgT (resH h) := by
  have h1 : nxH h % 18446744073709551616 = (h * 6364136223846793005 + 1442695040888963407) % 18446744073709551616 := by
    unfold nxH
    rw [wrap_mod, Int.add_emod, wrap_mod, ← Int.add_emod]
  have h2 := lcg_int 6364136223846793005 1442695040888963407 18446744073709551616 h (by decide)
  unfold resH lcgT lcgM
  rw [h1, ← h2]
  generalize (h % 18446744073709551616).toNat = x
  have h3 : ((6364136223846793005 * (x : Int) + 1442695040888963407) % 18446744073709551616) = (((6364136223846793005 * x + 1442695040888963407) % 18446744073709551616 : Nat) : Int) := by
    rw [Int.natCast_emod, Int.natCast_add, Int.natCast_mul]
    rfl
  rw [h3, Int.toNat_natCast]
theorem res_it : ∀ (n : Nat) (h : Int), resH (it nxH n h) = it lcgT n (resH h)
  | 0, _ => by rw [it_nil, it_nil]
  | n + 1, h => by rw [it_next, it_next, res_it n, res_nx]
theorem it_zero (h : Int) : ∃ t, it nxH t h = 0 := by
  obtain ⟨t, ht⟩ := lcg_zero 64 (Nat.le_refl _) (resH (nxH h))
  refine ⟨t + 1, ?_⟩
  rw [it_next]
  rw [← res_it t] at ht
  have hr : -9223372036854775808 ≤ it nxH t (nxH h) ∧ it nxH t (nxH h) ≤ 9223372036854775807 := by
    cases t with
    | zero => exact nxH_in h
    | succ t => rw [it_succ]; exact nxH_in _
  have e : (2 : Nat) ^ 64 = 18446744073709551616 := by decide
  rw [e] at ht
  unfold resH at ht
  omega
def low8 (x : Int) : Nat := (BitVec.ofInt 64 x &&& BitVec.ofInt 64 255).toNat
def mixH (h : Int) : Int := IntKind.i64.wrap (↑(BitVec.ofInt 64 (h.fdiv 8589934592) ^^^ BitVec.ofInt 64 (h.fdiv 35184372088832)).toNat : Int)
theorem low8_lt (x : Int) : low8 x < 256 := by
  unfold low8
  rw [BitVec.toNat_and]
  have := @Nat.and_le_right (BitVec.ofInt 64 x).toNat (BitVec.ofInt 64 255).toNat
  have e : (BitVec.ofInt 64 255).toNat = 255 := by decide
  omega
structure Cu where
  code : List UInt8
  i : Nat
  h : Int
def Cu.nx (s : Cu) : Cu := ⟨s.code, if s.i < s.code.length then s.i + 1 else s.i, nxH s.h⟩
def Cu.byte (s : Cu) : Nat := match s.code[s.i]? with
  | some b => low8 (IntKind.i64.wrap ((low8 (mixH (nxH s.h)) : Int) + b.toNat))
  | none => low8 (mixH (nxH s.h))
theorem Cu.byte_lt (s : Cu) : s.byte < 256 := by unfold Cu.byte; split <;> exact low8_lt _
def Cu.st (s : Cu) (p : Nat) : Cu := it Cu.nx p s
def Cu.g (s : Cu) (p : Nat) : Nat := (s.st p).byte
theorem Cu.st_succ (s : Cu) (p : Nat) : s.st (p + 1) = (s.st p).nx := it_succ _ _ _
theorem Cu.st_st (s : Cu) (p q : Nat) : (s.st p).st q = s.st (p + q) := (it_add _ _ _ _).symm
theorem Cu.st_code (s : Cu) : ∀ p, (s.st p).code = s.code
  | 0 => rfl
  | p + 1 => by rw [Cu.st_succ]; exact Cu.st_code s p
theorem Cu.st_i (s : Cu) (h : s.i ≤ s.code.length) : ∀ p, (s.st p).i = min (s.i + p) s.code.length
  | 0 => by show s.i = _; omega
  | p + 1 => by
    rw [Cu.st_succ]
    show (if (s.st p).i < (s.st p).code.length then (s.st p).i + 1 else (s.st p).i) = _
    rw [Cu.st_code, Cu.st_i s h p]
    split <;> omega
theorem Cu.st_h (s : Cu) : ∀ p, (s.st p).h = it nxH p s.h
  | 0 => rfl
  | p + 1 => by rw [Cu.st_succ, it_succ, ← Cu.st_h s p]; rfl
def Cu.zero (c : List UInt8) : Cu := ⟨c, c.length, 0⟩
theorem Cu.to_zero (s : Cu) (h : s.i ≤ s.code.length) : ∃ t, s.st t = Cu.zero s.code := by
  obtain ⟨t, ht⟩ := it_zero (s.st (s.code.length - s.i)).h
  refine ⟨s.code.length - s.i + t, ?_⟩
  rw [← Cu.st_st]
  have h1 : ((s.st (s.code.length - s.i)).st t).h = 0 := by rw [Cu.st_h]; exact ht
  have h2 : ((s.st (s.code.length - s.i)).st t).i = s.code.length := by rw [Cu.st_st, Cu.st_i s h]; omega
  have h3 : ((s.st (s.code.length - s.i)).st t).code = s.code := by rw [Cu.st_code, Cu.st_code]
  cases hs : (s.st (s.code.length - s.i)).st t with
  | mk c i h =>
    rw [hs] at h1 h2 h3
    simp only at h1 h2 h3
    subst h1 h2 h3
    rfl
def pureB (p : Nat) : Nat := low8 (mixH (nxH (it nxH p 0)))
theorem Cu.g_zero (c : List UInt8) (p : Nat) : (Cu.zero c).g p = pureB p := by
  unfold Cu.g Cu.byte pureB
  have h1 : ((Cu.zero c).st p).i = c.length := by rw [Cu.st_i _ (Nat.le_refl _)]; show min (c.length + p) c.length = _; omega
  have h2 : ((Cu.zero c).st p).code = c := Cu.st_code _ _
  have h3 : ((Cu.zero c).st p).h = it nxH p 0 := Cu.st_h _ _
  rw [h1, h2, h3, List.getElem?_eq_none (Nat.le_refl _)]
theorem draws_end (f : (Nat → Nat) → Nat → Nat × Nat) (lim L : Nat) (P : Cu → Prop)
    (hstep : ∀ (s : Cu) (p : Nat), s.i ≤ s.code.length → p < (f s.g p).2 ∧ (f s.g p).2 ≤ p + L ∧ ((f s.g p).1 ≤ lim → P (s.st p)) ∧ (P (s.st (f s.g p).2) → P (s.st p)))
    (hsmall : ∀ j, j ≤ L → (f pureB j).1 ≤ lim) : ∀ s : Cu, s.i ≤ s.code.length → P s := by
  have key : ∀ (n t : Nat) (s : Cu), t < n → s.i ≤ s.code.length → s.st t = Cu.zero s.code → P s := by
    intro n
    induction n with
    | zero => intro t s h; omega
    | succ n ih =>
      intro t s ht hi hz
      obtain ⟨h1, h2, _, h4⟩ := hstep s 0 hi
      refine h4 ?_
      have hi' : (s.st (f s.g 0).2).i ≤ (s.st (f s.g 0).2).code.length := by rw [Cu.st_code, Cu.st_i s hi]; omega
      by_cases hle : (f s.g 0).2 ≤ t
      · refine ih (t - (f s.g 0).2) _ (by omega) hi' ?_
        rw [Cu.st_st, Cu.st_code, show (f s.g 0).2 + (t - (f s.g 0).2) = t by omega]
        exact hz
      · have e : s.st (f s.g 0).2 = (Cu.zero s.code).st ((f s.g 0).2 - t) := by
          rw [← hz, Cu.st_st]
          congr 1
          omega
        rw [e]
        refine (hstep (Cu.zero s.code) _ (Nat.le_refl _)).2.2.1 ?_
        have hg : (Cu.zero s.code).g = pureB := funext (Cu.g_zero _)
        rw [hg]
        exact hsmall _ (by omega)
  intro s hi
  obtain ⟨t, ht⟩ := s.to_zero hi
  exact key (t + 1) t s (by omega) hi ht
end Go.Vm

namespace Go.Vm
open Go
mutual
def tyD (P : Program) : Nat → TypeId → Row → Prop
  | 0, _, _ => False
  | n + 1, t, row => match P.underlying t with
    | some .bool => ∃ b, row = [.bool b]
    | some (.int k) => ∃ x, row = [.int k x] ∧ (Lit.int k x).wf = true
    | some .string => ∃ s, row = [.str s] ∧ s.length ≤ maxLen
    | some (.slice e) => ∃ rows, row = [.sl false (szT P e) rows] ∧ rows.length ≤ maxLen ∧ ∀ r, r ∈ rows → tyD P n e r
    | some (.struct fs) => tyFs P n fs.toList row
    | _ => False
def tyFs (P : Program) : Nat → List Field → Row → Prop
  | _, [], row => row = []
  | n, f :: fs, row => ∃ r1 r2, row = r1 ++ r2 ∧ tyD P n f.type r1 ∧ tyFs P n fs r2
end
def contig (P : Program) : Nat → List Field → Option Nat
  | o, [] => some o
  | o, f :: fs => bif Nat.beq f.offset o then contig P (o + P.cellsOf f.type) fs else none
def goodT (P : Program) : Nat → TypeId → Bool
  | 0, _ => false
  | n + 1, t => match P.underlying t with
    | some .bool | some (.int _) | some .string => true
    | some (.slice e) => goodT P n e && Nat.ble 1 (szT P e)
    | some (.struct fs) => (match contig P 0 fs.toList with | some o => Nat.beq o (P.cellsOf t) | none => false) && fs.toList.all fun f => goodT P n f.type
    | _ => false
theorem szT_cells (P : Program) (t : TypeId) : szT P t = P.cellsOf t := by
  unfold szT Program.cellsOf
  cases P.info? t <;> rfl
theorem mapM_get {α β : Type} {f : α → Option β} : ∀ {l : List α} {r : List β}, l.mapM f = some r → r.length = l.length ∧ ∀ (i : Nat) x, l[i]? = some x → ∃ y, f x = some y ∧ r[i]? = some y
  | [], r, h => by
    simp at h
    subst h
    exact ⟨rfl, fun i x h => by simp at h⟩
  | a :: l, r, h => by
    rw [List.mapM_cons] at h
    simp only [Option.bind_eq_bind, Option.bind_eq_some_iff, Option.pure_def, Option.some.injEq] at h
    obtain ⟨y, h1, r', h2, rfl⟩ := h
    obtain ⟨h3, h4⟩ := mapM_get h2
    refine ⟨by simp [h3], fun i x hx => ?_⟩
    cases i with
    | zero =>
      simp only [List.getElem?_cons_zero, Option.some.injEq] at hx
      subst hx
      exact ⟨y, h1, rfl⟩
    | succ i => simpa using h4 i x (by simpa using hx)
theorem list_of {α : Type} {p : Nat → α → Prop} : ∀ (n k : Nat), (∀ i, i < n → ∃ x, p (k + i) x) → ∃ l : List α, l.length = n ∧ ∀ (i : Nat) x, l[i]? = some x → p (k + i) x
  | 0, _, _ => ⟨[], rfl, fun i x h => by simp at h⟩
  | n + 1, k, h => by
    obtain ⟨x, hx⟩ := h 0 (by omega)
    obtain ⟨l, h1, h2⟩ := list_of n (k + 1) (fun i hi => by
      have := h (i + 1) (by omega)
      rwa [show k + (i + 1) = k + 1 + i by omega] at this)
    refine ⟨x :: l, by simp [h1], fun i y hy => ?_⟩
    cases i with
    | zero =>
      simp only [List.getElem?_cons_zero, Option.some.injEq] at hy
      subst hy
      exact hx
    | succ i =>
      have := h2 i y (by simpa using hy)
      rwa [show k + 1 + i = k + (i + 1) by omega] at this
theorem roRow_of {h : View} : ∀ (r : Row) (b o : Nat) (cs : List Value), (∀ (j : Nat) v, cs[j]? = some v → h b (o + j) = some v) → seenRow h r cs → roRow h r b o
  | [], _, _, _, _, _ => trivial
  | x :: r, b, o, cs, hc, ⟨v, cs', e, h1, h2⟩ => by
    subst e
    exact ⟨⟨v, by simpa using hc 0 v rfl, h1⟩, roRow_of r b (o + 1) cs' (fun j u hj => by
      have := hc (j + 1) u (by simpa using hj)
      rwa [show o + (j + 1) = o + 1 + j by omega] at this) h2⟩
theorem roRows_of {h : View} {s b : Nat} : ∀ (rs : List Row) (o : Nat), (∀ (i : Nat) r, rs[i]? = some r → r.length = s ∧ roRow h r b (o + i * s)) → roRows h s rs b o
  | [], _, _ => trivial
  | r :: rs, o, hr => by
    obtain ⟨h1, h2⟩ := hr 0 r rfl
    refine ⟨h1, by simpa using h2, roRows_of rs (o + s) fun i q hq => ?_⟩
    obtain ⟨h3, h4⟩ := hr (i + 1) q (by simpa using hq)
    refine ⟨h3, ?_⟩
    rwa [show o + (i + 1) * s = o + s + i * s by rw [Nat.succ_mul]; omega] at h4
theorem seenRow_app {h : View} : ∀ {r1 r2 : Row} {c1 c2 : List Value}, seenRow h r1 c1 → r1.length = c1.length → seenRow h r2 c2 → seenRow h (r1 ++ r2) (c1 ++ c2)
  | [], r2, c1, c2, _, hl, h2 => by
    have : c1 = [] := List.length_eq_zero_iff.1 hl.symm
    subst this
    exact h2
  | x :: r1, r2, _, c2, ⟨v, cs', e, h1, h3⟩, hl, h2 => by
    subst e
    exact ⟨v, cs' ++ c2, rfl, h1, seenRow_app h3 (by simpa using hl) h2⟩
theorem cells?_get {w : World} {base : Nat} {a : Addr} {n : Nat} {cs : List Value} (h : w.cells? base a n = some cs) : cs.length = n ∧ ∀ j, j < n → ∃ v, w.cell? (a.add j) = some v ∧ cs[j]? = some v := by
  unfold World.cells? at h
  split at h
  · obtain ⟨h1, h2⟩ := mapM_get h
    rw [List.length_range] at h1
    refine ⟨h1, fun j hj => ?_⟩
    exact h2 j j (by simp [hj])
  · cases h
section
variable {H : Type} {enc : TypeId × Value → H} {P : Program} {w : World} {base : Nat} {spare : Nat → Bool} {held : Bool}
theorem fields_ro {n : Nat} (ih : ∀ (t : TypeId) (cs : List Value) (d : DataW H) (ps : List MemPlace), goodT P n t = true → DataW.trod enc P w base spare held n t cs = some (d, ps) → ∃ row : Row, row.length = cs.length ∧ tyD P n t row ∧ seenRow (full w) row cs) :
    ∀ (fs : List Field) (o tot : Nat) (cs : List Value) (xs : List (DataW H × List MemPlace)), contig P o fs = some tot → (fs.all fun f => goodT P n f.type) = true → tot ≤ cs.length →
      fs.mapM (fun f => DataW.trod enc P w base spare held n f.type ((cs.drop f.offset).take (P.cellsOf f.type))) = some xs →
      ∃ row : Row, row.length = tot - o ∧ o ≤ tot ∧ tyFs P n fs row ∧ seenRow (full w) row ((cs.drop o).take (tot - o))
  | [], o, tot, cs, xs, hc, _, _, _ => by
    simp only [contig, Option.some.injEq] at hc
    subst hc
    exact ⟨[], by simp, Nat.le_refl _, by simp [tyFs], trivial⟩
  | f :: fs, o, tot, cs, xs, hc, hg, hle, hm => by
    simp only [contig] at hc
    cases hb : Nat.beq f.offset o with
    | false => simp [hb] at hc
    | true =>
      simp only [hb, cond_true] at hc
      have hbo := Nat.eq_of_beq_eq_true hb
      simp only [List.all_cons, Bool.and_eq_true] at hg
      rw [List.mapM_cons] at hm
      simp only [Option.bind_eq_bind, Option.bind_eq_some_iff, Option.pure_def, Option.some.injEq] at hm
      obtain ⟨y, h1, ys, h2, rfl⟩ := hm
      obtain ⟨row2, l2, le2, t2, s2⟩ := fields_ro ih fs _ tot cs ys hc hg.2 hle h2
      obtain ⟨row1, l1, t1, s1⟩ := ih _ _ y.1 y.2 hg.1 h1
      rw [hbo] at l1 s1
      have hl : ((cs.drop o).take (P.cellsOf f.type)).length = P.cellsOf f.type := by simp; omega
      rw [hl] at l1
      refine ⟨row1 ++ row2, by simp [l1, l2]; omega, by omega, by simp only [tyFs]; exact ⟨row1, row2, rfl, t1, t2⟩, ?_⟩
      have e : (cs.drop o).take (tot - o) = (cs.drop o).take (P.cellsOf f.type) ++ (cs.drop (o + P.cellsOf f.type)).take (tot - (o + P.cellsOf f.type)) := by
        rw [← List.drop_drop, show tot - o = P.cellsOf f.type + (tot - (o + P.cellsOf f.type)) by omega, List.take_add]
      rw [e]
      exact seenRow_app s1 (by rw [l1, hl]) s2
theorem trod_ro : ∀ (n : Nat) (t : TypeId) (cs : List Value) (d : DataW H) (ps : List MemPlace), goodT P n t = true → DataW.trod enc P w base spare held n t cs = some (d, ps) →
    ∃ row : Row, row.length = cs.length ∧ tyD P n t row ∧ seenRow (full w) row cs
  | 0, t, cs, d, ps, hg, _ => by simp [goodT] at hg
  | n + 1, t, cs, d, ps, hg, h => by
    simp only [goodT] at hg
    unfold DataW.trod at h
    cases hu : P.underlying t with
    | none => simp [hu] at hg
    | some D =>
      rw [hu] at hg h
      cases D with
      | bool =>
        split at h <;> simp_all
        rename_i b
        exact ⟨[.bool b], by simp, by simp [tyD, hu], _, _, rfl, rfl, trivial⟩
      | int k =>
        split at h <;> simp_all
        rename_i k' x _
        obtain ⟨⟨rfl, hw⟩, _⟩ := h
        refine ⟨[.int _ x], by simp, ?_, _, _, rfl, rfl, trivial⟩
        simp only [tyD, hu]
        exact ⟨x, rfl, hw⟩
      | string =>
        split at h <;> simp_all
        rename_i s
        refine ⟨[.str s.data.toList], by simp, ?_, _, _, rfl, ?_, trivial⟩
        · simp only [tyD, hu]
          refine ⟨_, rfl, ?_⟩
          simpa using h.1
        · simp [ro]
      | slice e =>
        simp only [Bool.and_eq_true] at hg
        split at h
        all_goals first
          | (rename_i e1; cases e1; done)
          | (cases h; done)
          | (exfalso; rename_i h21 _ _ _ _ _ _ _ _ _ _ _ _ _ _ _ _ _ _ _; exact h21 _ rfl)
          | skip
        case h_7 =>
          rename_i e1
          refine ⟨[.sl false (szT P e) []], rfl, ?_, _, _, rfl, ?_, trivial⟩
          · simp only [tyD, hu]
            exact ⟨[], rfl, by simp, fun r hr => by simp at hr⟩
          · simp only [ro]
            exact ⟨none, 0, rfl, by simp, fun hn => absurd rfl hn⟩
        case h_8 =>
          rename_i _ e' a len cap e1
          cases e1
          split at h
          · rename_i hb
            rw [Option.bind_eq_some_iff] at h
            obtain ⟨elems, hel, _⟩ := h
            obtain ⟨hl, hget⟩ := mapM_get hel
            rw [List.length_range] at hl
            have hs := szT_cells P e
            have hpos : 1 ≤ P.cellsOf e := by rw [← hs]; exact Nat.le_of_ble_eq_true hg.2
            have hrow : ∀ i, i < len → ∃ r : Row, tyD P n e r ∧ r.length = szT P e ∧ a.spot = none ∧ roRow (full w) r a.block (a.off + i * szT P e) := by
              intro i hi
              obtain ⟨y, hy, _⟩ := hget i i (by simp [hi])
              rw [Option.bind_eq_some_iff] at hy
              obtain ⟨cs, hcs, hy⟩ := hy
              obtain ⟨row, l1, t1, s1⟩ := trod_ro n e cs y.1 y.2 hg.1 hy
              obtain ⟨hcl, hcg⟩ := cells?_get hcs
              refine ⟨row, t1, by rw [l1, hcl, hs], ?_, ?_⟩
              · obtain ⟨y0, hy0, _⟩ := hget 0 0 (List.getElem?_range (by omega))
                rw [Option.bind_eq_some_iff] at hy0
                obtain ⟨cs0, hcs0, _⟩ := hy0
                obtain ⟨u, hu1, _⟩ := (cells?_get hcs0).2 0 (by omega)
                simpa [Addr.add] using World.cell?_spot hu1
              · refine roRow_of row a.block _ cs (fun j v hj => ?_) s1
                have hjn : j < P.cellsOf e := by have := (List.getElem?_eq_some_iff.1 hj).1; omega
                obtain ⟨u, hu1, hu2⟩ := hcg j hjn
                rw [hu2] at hj
                cases hj
                have hsp := World.cell?_spot hu1
                have e2 : ((a.add (i * P.cellsOf e)).add j) = ⟨a.block, a.off + i * szT P e + j, none⟩ := by
                  rw [hs]
                  generalize i * P.cellsOf e = q at hsp ⊢
                  obtain ⟨ab, ao, as_⟩ := a
                  rcases Nat.eq_zero_or_pos q with h1 | h1 <;> rcases Nat.eq_zero_or_pos j with h2 | h2
                  · subst h1; subst h2
                    have : as_ = none := hsp
                    subst this
                    rfl
                  · subst h1
                    simp [Addr.add, show j ≠ 0 by omega]
                  · subst h2
                    simp [Addr.add, show q ≠ 0 by omega]
                  · simp [Addr.add, show q ≠ 0 by omega, show j ≠ 0 by omega]
                rw [e2] at hu1
                exact hu1
            obtain ⟨rows, r1, r2⟩ := list_of (p := fun i (r : Row) => tyD P n e r ∧ r.length = szT P e ∧ a.spot = none ∧ roRow (full w) r a.block (a.off + i * szT P e)) len 0 (fun i hi => by rw [Nat.zero_add]; exact hrow i hi)
            refine ⟨[.sl false (szT P e) rows], rfl, ?_, _, _, rfl, ?_, trivial⟩
            · simp only [tyD, hu]
              refine ⟨rows, rfl, by omega, fun r hr => ?_⟩
              obtain ⟨i, hi⟩ := List.getElem?_of_mem hr
              exact (r2 i r hi).1
            · simp only [ro]
              refine ⟨some a, cap, by rw [r1], by omega, fun hn => ?_⟩
              have h0 : ∃ r0, rows[0]? = some r0 := by
                cases rows with
                | nil => exact absurd rfl hn
                | cons r0 _ => exact ⟨r0, rfl⟩
              obtain ⟨r0, h0⟩ := h0
              have hsp := (r2 0 r0 h0).2.2.1
              refine ⟨a.block, a.off, ?_, roRows_of rows a.off fun i r hr => ?_⟩
              · obtain ⟨ab, ao, as_⟩ := a
                simp only at hsp
                subst hsp
                rfl
              · obtain ⟨_, h2, _, h4⟩ := r2 i r hr
                rw [Nat.zero_add] at h4
                exact ⟨h2, h4⟩
          · cases h
      | struct fs =>
        simp only [Bool.and_eq_true] at hg
        split at h
        all_goals first
          | (rename_i e1; cases e1; done)
          | (cases h; done)
          | (exfalso; rename_i h21 _ _ _ _ _ _ _ _ _ _ _ _ _ _ _ _ _ _ _; exact h21 _ rfl)
          | skip
        case h_9 =>
          rename_i _ fs' cs' e1
          cases e1
          split at h
          · rename_i hcl
            rw [Option.map_eq_some_iff] at h
            obtain ⟨xs, hxs, _⟩ := h
            cases hc : contig P 0 fs.toList with
            | none => simp [hc] at hg
            | some tot =>
              simp only [hc] at hg
              have htot := Nat.eq_of_beq_eq_true hg.1
              obtain ⟨row, l1, _, t1, s1⟩ := fields_ro (fun t cs d ps hg h => trod_ro n t cs d ps hg h) fs.toList 0 tot _ xs hc hg.2 (by omega) hxs
              refine ⟨row, by rw [l1]; omega, by simp only [tyD, hu]; exact t1, ?_⟩
              simpa [htot, ← hcl] using s1
          · cases h
      | _ => simp at hg
end
end Go.Vm

namespace Go.Vm
open Go Go.RowKit
theorem simVs_mix {A : Adv} {f : Nat} (hm : A.move f = []) {μ : Nat → Value} {m : Mem} {H : Heap} {h : View} : ∀ {vs : List V} {gs : List Value} (i : Nat), simVs μ m h vs gs → mixS A f μ m H h i vs gs []
  | [], gs, i, q => by simp only [simVs] at q; simp only [mixS]; exact ⟨q, trivial⟩
  | v :: vs, gs, i, q => by
    simp only [simVs] at q
    obtain ⟨g, gs', rfl, h1, h2⟩ := q
    simp only [mixS]
    refine ⟨g, gs', [], [], rfl, rfl, ?_, simVs_mix hm (i + 1) h2⟩
    split
    · rename_i hmo
      simp only [modeOf, hm, mem?, cond_false] at hmo
      cases hr : mem? i (A.ref f) <;> cases hr2 : mem? i (A.raw f) <;> cases hr3 : mem? i (A.look f) <;> simp [hr, hr2, hr3] at hmo
    · exact ⟨rfl, h1⟩
theorem law_calls {X : Ctx} (hp : PrimOk X) {f : Nat} {fn : Func} {t : TypeId} {args : List V} {gargs : List Value} {w : World} (hf : X.P.funcs[f]? = some fn) (hb : fn.body.isSome = true) (hr : fn.resultTypes = #[t]) (ht : aggT X.P t = false) (hpt : ptrT X.P t = none) (hm : X.adv.move f = []) (hgl : globS X (full w)) (htb : tabS X w)
    (hs : simVs (impμ []) [] (full w) args gargs) (h : call X f args [] = some ([[.bool true]], [])) :
    Calls X.P f gargs.toArray w fun e w' => e = .returned (.bool true) ∧ Below w.heap.size w w' := by
  have hG : Given X 0 (fun _ => True) w f args [] gargs [] [] [] := by
    have hv : (full w).le (view w (fun _ => True) (· ∈ ([] : List Nat) ++ [])) := by
      intro b o v h
      exact view_mk trivial (by simp) h
    refine ⟨by simp, by simp, fun _ _ => trivial, Nat.zero_le _, ?_, ⟨rfl, rfl⟩, globS_mono hv hgl, htb⟩
    exact mixS_mono (memLe_refl _ _) hv (fun _ _ => rfl) (simVs_mix (H := heapOf w) hm 0 hs)
  refine (call_ok hp f fn args [] [[.bool true]] [] hf hb h 0 (fun _ => True) w gargs [] [] [] hG).mono ?_
  rintro e w' ⟨gs, M1, M2, rfl, D⟩
  have hres := D.res
  rw [hr] at hres
  simp only [retsS] at hres
  obtain ⟨row, rows', g, gs', N1, N2, e1, e2, _, hv, e3, e4, _⟩ := hres
  rw [retS_val hpt] at hv
  obtain ⟨cs, hv, ho, hl⟩ := hv
  simp only [List.cons.injEq] at e1
  obtain ⟨rfl, rfl⟩ := e1
  subst e4
  subst e2
  simp only [valOf, ht, Bool.false_eq_true, if_false] at hv
  subst hv
  simp only [owRow, ow] at ho
  obtain ⟨v, cs', N1, N2, e5, _, ⟨rfl, _⟩, _⟩ := ho
  simp only [List.cons.injEq] at e5
  obtain ⟨rfl, _⟩ := e5
  refine ⟨rfl, ⟨D.keep.os, D.keep.tape, D.keep.output, D.keep.size, fun k hk => D.keep.block k hk (by simp)⟩⟩
section
variable {H : Type} {enc : TypeId × Value → H} {P : Program} {w : World} {base : Nat} {spare : Nat → Bool} {held : Bool} {t : TypeId} {v : Value} {d : DataW H} {ps : List MemPlace}
theorem arg_one {μ : Nat → Value} {m : Mem} (h : DataW.Trod enc P w base spare held t v d ps) (hg : ∀ n, goodT P (n + 8) t = true) (hv : v.cells.toList = [v]) :
    ∃ n x, tyD P (n + 8) t [x] ∧ simV μ m (full w) (.d x) v := by
  obtain ⟨n, hn⟩ := h
  have hn' : DataW.trod enc P w base spare held (n + 8) t v.cells.toList = some (d, ps) := DataW.trod_le (Nat.le_add_right n 8) hn
  obtain ⟨row, hl, ht, hs⟩ := trod_ro (n + 8) t _ d ps (hg n) hn'
  rw [hv] at hl hs
  cases row with
  | nil => simp at hl
  | cons x r =>
    cases r with
    | cons _ _ => simp at hl
    | nil =>
      obtain ⟨u, cs', e, h1, _⟩ := hs
      simp only [List.cons.injEq] at e
      obtain ⟨rfl, _⟩ := e
      exact ⟨_, x, ht, by simpa [simV] using h1⟩
end
section
variable {P : Program} {n : Nat} {t : TypeId} {row : Row}
theorem tyD_int {k : IntKind} (hu : P.underlying t = some (.int k)) (h : tyD P (n + 1) t row) : ∃ x, row = [.int k x] ∧ (Lit.int k x).wf = true := by simpa [tyD, hu] using h
theorem tyD_sl {e : TypeId} (hu : P.underlying t = some (.slice e)) (h : tyD P (n + 1) t row) : ∃ rows, row = [.sl false (szT P e) rows] ∧ rows.length ≤ maxLen ∧ ∀ r, r ∈ rows → tyD P n e r := by simpa [tyD, hu] using h
theorem list_enc {α : Type} {f : α → Row} {p : α → Prop} : ∀ {rows : List Row}, (∀ r, r ∈ rows → ∃ x, r = f x ∧ p x) → ∃ l : List α, rows = l.map f ∧ ∀ x, x ∈ l → p x
  | [], _ => ⟨[], rfl, fun x h => by simp at h⟩
  | r :: rows, h => by
    obtain ⟨x, hx, hp⟩ := h r (by simp)
    obtain ⟨l, hl, hq⟩ := list_enc (rows := rows) (fun r hr => h r (by simp [hr]))
    refine ⟨x :: l, by simp [hx, hl], fun y hy => ?_⟩
    rcases List.mem_cons.1 hy with rfl | hy
    · exact hp
    · exact hq y hy
end
end Go.Vm
