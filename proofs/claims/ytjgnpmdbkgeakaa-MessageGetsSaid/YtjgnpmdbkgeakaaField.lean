/- What the functions of the fields' laws answer. -/
import Derived.Test.YtjgnpmdbkgeakaaDigit
set_option linter.unusedVariables false
set_option linter.unusedSimpArgs false
set_option maxRecDepth 100000
namespace Go.Proofs.Ytjgnpmdbkgeakaa.G
open Go Go.Proofs.Ytjgnpmdbkgeakaa Th

abbrev Def := Int × Int × Int × Unit
def D : List Def := [(2, 3, 19, ()), (3, 1, 6, ()), (4, 1, 12, ()), (7, 1, 10, ()), (11, 1, 6, ()), (12, 1, 6, ()), (37, 2, 12, ()), (38, 2, 6, ()), (39, 2, 2, ()), (41, 2, 8, ()), (44, 4, 25, ()), (48, 5, 999, ()), (49, 1, 3, ()), (90, 1, 42, ()), (120, 5, 999, ())]
def defOf (n : Int) : Option Def := D.find? fun d => decide (d.1 = n)

theorem G10_2_is (k : Nat) (n a b c : Int) (l : List Def) (hl : l.length ≤ 1000) : ∀ (j i : Nat), i + j = l.length → ∀ m, j < m →
    G10_2 k m (n, l, (l.length : Int), (i : Int), a, b, c, ()) = some (match (l.drop i).find? (fun d => decide (d.1 = n)) with
      | some d => .inr (true, d)
      | none => .inl (a, b, c, ())) := by
  intro j
  induction j with
  | zero =>
    intro i hij m hm
    obtain ⟨m, rfl⟩ : ∃ q, m = q + 1 := ⟨m - 1, by omega⟩
    rw [G10_2_eq, sel_neg (by (try simp only []); omega), List.drop_eq_nil_of_le (by omega)]
    rfl
  | succ j ih =>
    intro i hij m hm
    obtain ⟨m, rfl⟩ : ∃ q, m = q + 1 := ⟨m - 1, by omega⟩
    have hlt : i < l.length := by omega
    rw [G10_2_eq]
    simp only [ofNat_len, Int.toNat_natCast, getD_of hlt]
    rw [sel_pos (by omega), sel_pos (by omega), sel_pos (by omega), sel_pos (by omega), drop_at hlt, List.find?_cons]
    by_cases h : l[i].1 = n
    · rw [sel_pos h]
      simp only [h, decide_true]
      rw [← h]
    · rw [sel_neg h, wrap64 (by omega) (by omega)]
      simp only [h, decide_false]
      exact ih (i + 1) (by omega) m (by omega)

/-- a field's definition, or none -/
def defR (n : Int) : Def × Bool := match defOf n with
  | some d => (d, true)
  | none => ((0, 0, 0, ()), false)

theorem G10_is (k : Nat) (hk : 20 < k) (n : Int) : G10 k (n, ()) = some ((defR n).1, (defR n).2, ()) := by
  rw [G10_eq]
  have := G10_2_is k n 0 0 0 D (by decide) 15 0 (by decide) k (by omega)
  rw [show ((D.length : Nat) : Int) = Int.ofNat 15 from rfl, show (((0 : Nat) : Int)) = 0 from rfl, List.drop_zero, show (D.find? fun d => decide (d.1 = n)) = defOf n from rfl] at this
  show (ocall (G10_2 k k (n, D, Int.ofNat 15, 0, 0, 0, 0, ())) _) = _
  rw [this, ocall_some]
  unfold defR
  cases defOf n <;> rfl

/-! the document's definitions, three by three -/
def flat : List Def → List Int
  | [] => []
  | d :: l => d.1 :: d.2.1 :: d.2.2.1 :: flat l

theorem flat_len : ∀ l : List Def, (flat l).length = 3 * l.length
  | [] => rfl
  | d :: l => by simp only [flat, List.length_cons, flat_len l]; omega

theorem flat_at : ∀ (l : List Def) (i : Nat) (h : i < l.length), (flat l).getD (3 * i) 0 = l[i].1 ∧ (flat l).getD (3 * i + 1) 0 = l[i].2.1 ∧ (flat l).getD (3 * i + 2) 0 = l[i].2.2.1
  | d :: l, 0, _ => ⟨rfl, rfl, rfl⟩
  | d :: l, i + 1, h => by
    have := flat_at l i (by simpa using h)
    rw [show 3 * (i + 1) = 3 * i + 1 + 1 + 1 from by omega]
    simpa [flat] using this

theorem G11_3_is (k : Nat) (n a b c : Int) (l : List Def) (hl : l.length ≤ 1000) : ∀ (j i : Nat), i + j = l.length → ∀ m, j < m →
    G11_3 k m (n, flat l, ((3 * i : Nat) : Int), a, b, c, ()) = some (match (l.drop i).find? (fun d => decide (d.1 = n)) with
      | some d => .inr (true, d)
      | none => .inl (a, b, c, ())) := by
  have hf := flat_len l
  intro j
  induction j with
  | zero =>
    intro i hij m hm
    obtain ⟨m, rfl⟩ : ∃ q, m = q + 1 := ⟨m - 1, by omega⟩
    rw [G11_3_eq, sel_neg (by simp only [hf, Int.ofNat_eq_natCast]; omega), List.drop_eq_nil_of_le (by omega)]
    rfl
  | succ j ih =>
    intro i hij m hm
    obtain ⟨m, rfl⟩ : ∃ q, m = q + 1 := ⟨m - 1, by omega⟩
    have hlt : i < l.length := by omega
    obtain ⟨q1, q2, q3⟩ := flat_at l i hlt
    have q1' : (flat l).getD (3 * i) (OfNat.ofNat 0) = l[i].1 := q1
    have q2' : (flat l).getD (3 * i + 1) (OfNat.ofNat 0) = l[i].2.1 := q2
    have q3' : (flat l).getD (3 * i + 2) (OfNat.ofNat 0) = l[i].2.2.1 := q3
    have w1 : IntKind.i64.wrap (((3 * i : Nat) : Int) + 1) = ((3 * i + 1 : Nat) : Int) := by rw [wrap64 (by omega) (by omega)]; omega
    have w2 : IntKind.i64.wrap (((3 * i : Nat) : Int) + 2) = ((3 * i + 2 : Nat) : Int) := by rw [wrap64 (by omega) (by omega)]; omega
    have w3 : IntKind.i64.wrap (((3 * i : Nat) : Int) + 3) = ((3 * (i + 1) : Nat) : Int) := by rw [wrap64 (by omega) (by omega)]; omega
    rw [G11_3_eq]
    simp only [Int.ofNat_eq_natCast, Int.toNat_natCast, hf, w1, w2, w3, q1', q2', q3']
    rw [sel_pos (by omega), sel_pos (by omega), sel_pos (by omega), sel_pos (by omega), drop_at hlt, List.find?_cons]
    by_cases h : l[i].1 = n
    · rw [sel_pos h, sel_pos (by omega), sel_pos (by omega), sel_pos (by omega), sel_pos (by omega), sel_pos (by omega), sel_pos (by omega), sel_pos (by omega), sel_pos (by omega), sel_pos (by omega)]
      simp only [h, decide_true]
      rw [← h]
    · rw [sel_neg h]
      simp only [h, decide_false]
      exact ih (i + 1) (by omega) m (by omega)

theorem G11_is (k : Nat) (hk : 20 < k) (n : Int) : G11 k (n, ()) = some ((defR n).1, (defR n).2, ()) := by
  rw [G11_eq, G29_eq, ocall_some]
  have := G11_3_is k n 0 0 0 D (by decide) 15 0 (by decide) k (by omega)
  rw [show (((3 * 0 : Nat) : Int)) = 0 from rfl, List.drop_zero, show (D.find? fun d => decide (d.1 = n)) = defOf n from rfl] at this
  show (ocall (G11_3 k k (n, flat D, 0, 0, 0, 0, ())) _) = _
  rw [this, ocall_some]
  unfold defR
  cases defOf n <;> rfl

/-! what is known of a definition -/
theorem defOf_mem {n : Int} {d : Def} (h : defOf n = some d) : d ∈ D ∧ d.1 = n := by
  refine ⟨List.mem_of_find?_eq_some h, ?_⟩
  have := List.find?_some h
  simpa using this

theorem D_all : ∀ d ∈ D, 2 ≤ d.1 ∧ d.1 ≤ 128 ∧ 1 ≤ d.2.1 ∧ d.2.1 ≤ 5 ∧ 1 ≤ d.2.2.1 ∧ d.2.2.1 ≤ 999 ∧ ((d.2.1 = 3 ∨ d.2.1 = 4) → d.2.2.1 ≤ 99) := by
  decide

/-- how many digits a length has -/
def ahead (kind : Int) : Nat := if kind = 3 ∨ kind = 4 then 2 else if kind = 5 then 3 else 0

/-- a value's size may be -/
def sized (d : Def) (n : Nat) : Bool := if ahead d.2.1 = 0 then decide ((n : Int) = d.2.2.1) else decide (1 ≤ n) && decide ((n : Int) ≤ d.2.2.1)

def signs (d : Def) (s : List UInt8) : Bool := Signs.signsOf d.2.1 (isDig s) s

def rightF (n : Int) (s : List UInt8) : Bool := match defOf n with
  | some d => sized d s.length && signs d s
  | none => false

theorem G33_is (k : Nat) (d : Def) (s : List UInt8) (hs : s.length ≤ maxLen) (hk : s.length < k) : G33 k ((d.1, d.2.1, d.2.2.1, ()), s, ()) = some (signs d s, ()) := by
  rw [G33_eq, sel_pos (by rw [maxLen_eq] at hs; (try simp only []); omega), G50_is k s hs hk, ocall_some]
  rfl

theorem G30_is (k : Nat) (d : Def) : G30 k ((d.1, d.2.1, d.2.2.1, ()), ()) = some (if ahead d.2.1 = 0 then .inr ((d.2.2.1, ()), ()) else .inl ((((ahead d.2.1 : Nat) : Int), d.2.2.1, ()), ())) := by
  rw [G30_eq]
  unfold ahead
  simp only [sel_dec]
  by_cases h3 : d.2.1 = 3
  · simp [h3]
  · by_cases h4 : d.2.1 = 4
    · simp [h4]
    · by_cases h5 : d.2.1 = 5
      · simp [h5]
      · simp [h3, h4, h5]

theorem G14_is (k : Nat) (hk : 20 < k) (n : Int) (s : List UInt8) (hs : s.length ≤ maxLen) (hks : s.length < k) : G14 k (n, s, ()) = some (rightF n s, ()) := by
  rw [G14_eq, G10_is k hk, ocall_some]
  unfold rightF defR
  cases defOf n with
  | none => rfl
  | some d =>
    simp only [sel_true, G30_is, ocall_some]
    unfold sized
    by_cases h : ahead d.2.1 = 0
    · rw [if_pos h, esel_inr, G89_eq, ocall_some, if_pos h, G33_is k d s hs hks]
      simp only [sel_dec, ofNat_len, ocall_some]
      by_cases c : (s.length : Int) = d.2.2.1 <;> simp [c]
    · rw [if_neg h, esel_inl, G87_eq, if_neg h, G33_is k d s hs hks]
      simp only [sel_dec, ofNat_len, ocall_some]
      by_cases c : (1 : Int) ≤ s.length
      · have c' : 1 ≤ s.length := by omega
        rw [if_pos c, ocall_some]
        by_cases c2 : (s.length : Int) ≤ d.2.2.1 <;> simp [c', c2]
      · have c' : ¬ 1 ≤ s.length := by omega
        rw [if_neg c, ocall_some]
        simp [c']

theorem G12_none (k : Nat) (hk : 20 < k) (n : Int) (s : List UInt8) (h : defOf n = none) : G12 k (n, s, ()) = some ([], 5, ()) := by
  rw [G12_eq, G10_is k hk, ocall_some]
  unfold defR
  rw [h]; rfl

theorem G16_none (k : Nat) (hk : 20 < k) (n : Int) (l : List Int) (h : defOf n = none) : G16 k (n, l, ()) = some ([], 0, 5, ()) := by
  rw [G16_eq, G10_is k hk, ocall_some]
  unfold defR
  rw [h]; rfl

end Go.Proofs.Ytjgnpmdbkgeakaa.G
