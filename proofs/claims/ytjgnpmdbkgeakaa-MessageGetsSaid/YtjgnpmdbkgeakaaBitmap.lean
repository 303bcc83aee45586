/- What the functions of bitmaps, and those of the document's answer, answer. -/
import Derived.Test.YtjgnpmdbkgeakaaBits
import Derived.Test.YtjgnpmdbkgeakaaEq
set_option linter.unusedVariables false
set_option linter.unusedSimpArgs false
set_option maxRecDepth 100000
namespace Go.Proofs.Ytjgnpmdbkgeakaa.G
open Go Go.Proofs.Ytjgnpmdbkgeakaa Th Bits

abbrev BM := Int × Int × Unit
def goodB (m : BM) : Prop := (0 ≤ m.1 ∧ m.1 < 18446744073709551616) ∧ 0 ≤ m.2.1 ∧ m.2.1 < 18446744073709551616
def bitB (m : BM) (n : Nat) : Bool := if n ≤ 64 then m.1.toNat.testBit (64 - n) else m.2.1.toNat.testBit (128 - n)
def rightB (m : BM) : Bool := !bitB m 65 && (bitB m 1 == !decide (m.2.1 = 0))
def fieldB (n : Int) : Bool := decide (2 ≤ n) && decide (n ≤ 128) && !decide (n = 65)
def hasB (m : BM) (n : Int) : Bool := fieldB n && bitB m n.toNat
def setB (m : BM) (n : Nat) : BM := if n ≤ 64 then (((m.1.toNat ||| 2 ^ (64 - n) : Nat) : Int), m.2.1, ()) else (((m.1.toNat ||| 2 ^ 63 : Nat) : Int), ((m.2.1.toNat ||| 2 ^ (128 - n) : Nat) : Int), ())
def putB (m : BM) (n : Int) : BM × Int := if rightB m = true ∧ fieldB n = true then (setB m n.toNat, 0) else (m, 1)

theorem fieldB_iff {n : Int} : fieldB n = true ↔ 2 ≤ n ∧ n ≤ 128 ∧ n ≠ 65 := by unfold fieldB; simp [and_assoc]

theorem G67_is (k : Nat) (n hi lo : Int) (h1 : 1 ≤ n) (h2 : n ≤ 128) : G67 k (n, hi, lo, ()) =
    if n ≤ 64 then some (.inl (((2 ^ (64 - n.toNat) : Nat) : Int), hi, lo, ())) else some (.inr (((2 ^ (128 - n.toNat) : Nat) : Int), hi, lo, ())) := by
  obtain ⟨m, rfl⟩ : ∃ m : Nat, n = m := ⟨n.toNat, by omega⟩
  rw [G67_eq]
  by_cases c : (m : Int) ≤ 64
  · rw [sel_pos c, if_pos c, wrap64 (by omega) (by omega), sel_pos (by omega), show ((m : Int) - 1).toNat = m - 1 by omega, top_shift (by omega) (by omega), Int.toNat_natCast]
  · rw [sel_neg c, if_neg c, wrap64 (n := (m : Int) - 64) (by omega) (by omega), wrap64 (by omega) (by omega), sel_pos (by omega), show ((m : Int) - 64 - 1).toNat = (m - 64) - 1 by omega, top_shift (by omega) (by omega), Int.toNat_natCast,
      show 64 - (m - 64) = 128 - m by omega]

theorem nat_of {x : Int} (h : 0 ≤ x ∧ x < 18446744073709551616) : ∃ n : Nat, x = n ∧ n < 18446744073709551616 := ⟨x.toNat, by omega, by omega⟩

theorem G68_is (k : Nat) (m : BM) (hg : goodB m) (n : Int) (h1 : 1 ≤ n) (h2 : n ≤ 128) : G68 k (m, n, ()) = some (bitB m n.toNat, ()) := by
  obtain ⟨hi, lo, ⟨⟩⟩ := m
  obtain ⟨hi, rfl, hh⟩ := nat_of hg.1
  obtain ⟨lo, rfl, hl⟩ := nat_of hg.2
  rw [G68_eq, G67_is k n _ _ h1 h2]
  unfold bitB
  have key : ∀ (w e : Nat), w < 18446744073709551616 → e < 64 → (!decide (bits .and .u64 (w : Int) ((2 ^ e : Nat) : Int) = 0)) = w.testBit e := by
    intro w e hw he
    rw [b_and hw (pow_lt he)]
    cases ht : w.testBit e with
    | false => rw [and_pow.2 ht]; rfl
    | true =>
      have : ¬ ((w &&& 2 ^ e : Nat) : Int) = 0 := fun h => by
        have h' : (w &&& 2 ^ e) = 0 := by omega
        rw [and_pow.1 h'] at ht; cases ht
      rw [decide_eq_false this]; rfl
  by_cases c : n ≤ 64
  · rw [if_pos c, if_pos (by omega), ocall_some, esel_inl]
    simp only [Int.toNat_natCast]
    rw [key hi _ hh (by omega)]
  · rw [if_neg c, if_neg (by omega), ocall_some, esel_inr]
    simp only [Int.toNat_natCast]
    rw [key lo _ hl (by omega)]

theorem G55_is (k : Nat) (m : BM) (hg : goodB m) : G55 k (m, ()) = some (rightB m, ()) := by
  have h65 := G68_is k m hg 65 (by omega) (by omega)
  have h1 := G68_is k m hg 1 (by omega) (by omega)
  obtain ⟨hi, lo, ⟨⟩⟩ := m
  rw [G55_eq, h65, ocall_some, h1]
  unfold rightB
  show sel (!bitB (hi, lo, ()) 65) _ _ = _
  cases bitB (hi, lo, ()) 65 <;> rfl

theorem G66_is (k : Nat) (n : Int) : G66 k (n, ()) = some (fieldB n, ()) := by
  rw [G66_eq]
  unfold fieldB
  by_cases c1 : 1 < n
  · rw [sel_pos c1, decide_eq_true (show 2 ≤ n by omega)]
    by_cases c2 : n ≤ 128
    · rw [sel_pos c2, decide_eq_true c2]; rfl
    · rw [sel_neg c2, decide_eq_false c2]; rfl
  · rw [sel_neg c1, decide_eq_false (show ¬ 2 ≤ n by omega)]; rfl

theorem G70_is (k : Nat) (m : BM) (hg : goodB m) (n : Int) : G70 k (m, n, ()) = some (hasB m n, ()) := by
  obtain ⟨hi, lo, ⟨⟩⟩ := m
  rw [G70_eq, G66_is, ocall_some]
  unfold hasB
  cases hf : fieldB n with
  | false => rfl
  | true =>
    have := fieldB_iff.1 hf
    rw [G68_is k _ hg n (by omega) (by omega)]; rfl

theorem setB_good {m : BM} (hg : goodB m) {n : Nat} (h1 : 1 ≤ n) (h2 : n ≤ 128) : goodB (setB m n) := by
  obtain ⟨hi, lo, ⟨⟩⟩ := m
  obtain ⟨hi, rfl, hh⟩ := nat_of hg.1
  obtain ⟨lo, rfl, hl⟩ := nat_of hg.2
  unfold setB
  by_cases c : n ≤ 64
  · rw [if_pos c]
    have := or_lt (k := 64 - n) hh (by omega)
    refine ⟨⟨by (try simp only []); omega, ?_⟩, ⟨by (try simp only []); omega, by (try simp only []); omega⟩⟩
    simp only [Int.toNat_natCast]; omega
  · rw [if_neg c]
    have h3 := or_lt (k := 63) hh (by omega)
    have h4 := or_lt (k := 128 - n) hl (by omega)
    refine ⟨⟨by (try simp only []); omega, ?_⟩, ⟨by (try simp only []); omega, ?_⟩⟩
    · simp only [Int.toNat_natCast]; omega
    · simp only [Int.toNat_natCast]; omega

/-- which bits are set -/
theorem setB_bit {m : BM} {n : Nat} (h1 : 1 ≤ n) (h2 : n ≤ 128) {j : Nat} (j1 : 1 ≤ j) (j2 : j ≤ 128) : bitB (setB m n) j = (bitB m j || decide (j = n) || decide (64 < n ∧ j = 1)) := by
  obtain ⟨hi, lo, ⟨⟩⟩ := m
  unfold setB bitB
  by_cases c : n ≤ 64
  · rw [if_pos c, decide_eq_false (show ¬ (64 < n ∧ j = 1) by omega), Bool.or_false]
    by_cases d : j ≤ 64
    · rw [if_pos d, if_pos d]
      simp only [Int.toNat_natCast]
      rw [or_test, show decide (64 - n = 64 - j) = decide (j = n) from decide_eq_decide.2 (by omega)]
    · rw [if_neg d, if_neg d, decide_eq_false (show ¬ j = n by omega), Bool.or_false]
  · rw [if_neg c]
    by_cases d : j ≤ 64
    · rw [if_pos d, if_pos d]
      simp only [Int.toNat_natCast]
      rw [or_test, decide_eq_false (show ¬ j = n by omega), Bool.or_false, show decide (63 = 64 - j) = decide (64 < n ∧ j = 1) from decide_eq_decide.2 (by omega)]
    · rw [if_neg d, if_neg d, decide_eq_false (show ¬ (64 < n ∧ j = 1) by omega), Bool.or_false]
      simp only [Int.toNat_natCast]
      rw [or_test, show decide (128 - n = 128 - j) = decide (j = n) from decide_eq_decide.2 (by omega)]
theorem or_ne (w k : Nat) : (w ||| 2 ^ k) ≠ 0 := fun h => by
  have := or_test w k k
  rw [h, Nat.zero_testBit, decide_eq_true rfl, Bool.or_true] at this
  cases this
theorem rightB_iff {m : BM} : rightB m = true ↔ bitB m 65 = false ∧ (bitB m 1 = true ↔ m.2.1 ≠ 0) := by
  unfold rightB
  cases bitB m 65 <;> cases bitB m 1 <;> by_cases c : m.2.1 = 0 <;> simp [c]
theorem setB_right {m : BM} (hr : rightB m = true) {n : Nat} (h1 : 2 ≤ n) (h2 : n ≤ 128) (h3 : n ≠ 65) : rightB (setB m n) = true := by
  obtain ⟨r1, r2⟩ := rightB_iff.1 hr
  refine rightB_iff.2 ⟨?_, ?_⟩
  · rw [setB_bit (by omega) h2 (by omega) (by omega), r1, decide_eq_false (fun e => h3 e.symm), decide_eq_false (by omega)]; rfl
  · rw [setB_bit (by omega) h2 (by omega) (by omega)]
    unfold setB
    by_cases c : n ≤ 64
    · rw [if_pos c, decide_eq_false (show ¬ 1 = n by omega), decide_eq_false (by omega), Bool.or_false, Bool.or_false]; exact r2
    · rw [if_neg c, decide_eq_true (show 64 < n ∧ 1 = 1 by omega), Bool.or_true]
      refine ⟨fun _ => ?_, fun _ => rfl⟩
      have := or_ne m.2.1.toNat (128 - n)
      (try simp only []); omega

theorem G54_is (k : Nat) (m : BM) (hg : goodB m) (n : Int) : G54 k (m, n, ()) = some ((putB m n).1, (putB m n).2, ()) := by
  have hR := G55_is k m hg
  obtain ⟨hi, lo, ⟨⟩⟩ := m
  rw [G54_eq, hR, ocall_some]
  unfold putB
  cases hr : rightB (hi, lo, ()) with
  | false => rw [if_neg (by simp)]; rfl
  | true =>
  simp only [Bool.not_true, sel_false]
  rw [G66_is, ocall_some]
  cases hf : fieldB n with
  | false => rw [if_neg (by simp)]; rfl
  | true =>
  rw [if_pos (by simp)]
  simp only [Bool.not_true, sel_false]
  obtain ⟨f1, f2, f3⟩ := fieldB_iff.1 hf
  obtain ⟨n, rfl⟩ : ∃ m : Nat, n = m := ⟨n.toNat, by omega⟩
  obtain ⟨hi, rfl, hh⟩ := nat_of hg.1
  obtain ⟨lo, rfl, hl⟩ := nat_of hg.2
  obtain ⟨r1, r2⟩ := rightB_iff.1 hr
  rw [G67_is k n _ _ (by omega) f2]
  unfold setB
  simp only [Int.toNat_natCast]
  by_cases c : (n : Int) ≤ 64
  · rw [if_pos c, if_pos (by omega), ocall_some, esel_inl]
    (try simp only [])
    rw [b_or hh (pow_lt (by omega))]
    by_cases hz : (lo : Int) = 0
    · rw [sel_not, sel_pos hz]
    · rw [sel_not, sel_neg hz]
      have hb : hi.testBit 63 = true := by have := r2.2 hz; simpa [bitB] using this
      have h2 := or_lt (k := 64 - n) hh (by omega)
      have e63 : (9223372036854775808 : Int) = ((2 ^ 63 : Nat) : Int) := by rfl
      rw [e63, b_or h2 (pow_lt (by omega)), or_self (by rw [or_test, hb]; rfl)]
  · rw [if_neg c, if_neg (by omega), ocall_some, esel_inr]
    (try simp only [])
    rw [b_or hl (pow_lt (by omega))]
    have := or_ne lo (128 - n)
    rw [sel_not, sel_neg (by omega)]
    have e63 : (9223372036854775808 : Int) = ((2 ^ 63 : Nat) : Int) := by rfl
    rw [e63, b_or hh (pow_lt (by omega))]

/-! a bitmap's fields -/
def fieldsFrom (m : BM) : Nat → Nat → List Int
  | _, 0 => []
  | n, j + 1 => (if hasB m n = true then [(n : Int)] else []) ++ fieldsFrom m (n + 1) j
def fieldsB (m : BM) : List Int := fieldsFrom m 2 127
theorem fieldsFrom_len (m : BM) : ∀ (j n : Nat), (fieldsFrom m n j).length ≤ j := by
  intro j
  induction j with
  | zero => intro n; simp [fieldsFrom]
  | succ j ih => intro n; have := ih (n + 1); unfold fieldsFrom; rw [List.length_append]; split <;> simp <;> omega
theorem fieldsFrom_mem (m : BM) : ∀ (j n : Nat) (x : Int), x ∈ fieldsFrom m n j ↔ ((n : Int) ≤ x ∧ x < n + j ∧ hasB m x = true) := by
  intro j
  induction j with
  | zero => intro n x; simp only [fieldsFrom, List.not_mem_nil, false_iff]; omega
  | succ j ih =>
    intro n x
    unfold fieldsFrom
    rw [List.mem_append, ih]
    by_cases c : hasB m n = true
    · rw [if_pos c, List.mem_singleton]
      constructor
      · rintro (rfl | ⟨a, b, d⟩)
        · exact ⟨by omega, by omega, c⟩
        · exact ⟨by omega, by omega, d⟩
      · rintro ⟨a, b, d⟩
        by_cases e : x = n
        · exact .inl e
        · exact .inr ⟨by omega, by omega, d⟩
    · rw [if_neg c]
      constructor
      · rintro (h | ⟨a, b, d⟩)
        · cases h
        · exact ⟨by omega, by omega, d⟩
      · rintro ⟨a, b, d⟩
        refine .inr ⟨?_, by omega, d⟩
        by_cases e : x = n
        · subst e; exact absurd d c
        · omega
theorem fieldsB_mem (m : BM) (x : Int) : x ∈ fieldsB m ↔ hasB m x = true := by
  unfold fieldsB
  rw [fieldsFrom_mem]
  constructor
  · exact fun h => h.2.2
  · intro h
    refine ⟨?_, ?_, h⟩ <;>
    · unfold hasB at h
      simp only [Bool.and_eq_true] at h
      have := fieldB_iff.1 h.1
      omega
theorem fieldsFrom_sorted (m : BM) : ∀ (j n : Nat), (fieldsFrom m n j).Pairwise (· < ·) := by
  intro j
  induction j with
  | zero => intro n; simp [fieldsFrom]
  | succ j ih =>
    intro n
    unfold fieldsFrom
    rw [List.pairwise_append]
    refine ⟨by split <;> simp, ih _, fun a ha b hb => ?_⟩
    have := (fieldsFrom_mem m j (n + 1) b).1 hb
    split at ha
    · simp only [List.mem_singleton] at ha; omega
    · cases ha

theorem G64_g0_is (k : Nat) (m : BM) (hg : goodB m) : ∀ (j n : Nat), n + (j + 1) = 129 → 2 ≤ n → ∀ (acc : List Int) (c : Nat), acc.length ≤ n → j + 1 ≤ c →
    G64_g0 k c (acc, (n : Int), m.1, m.2.1, ()) = some (acc ++ fieldsFrom m n (j + 1), ()) := by
  obtain ⟨hi, lo, ⟨⟩⟩ := m
  intro j
  induction j with
  | zero =>
    intro n hn h2 acc c ha hc
    obtain ⟨c, rfl⟩ : ∃ d, c = d + 1 := ⟨c - 1, by omega⟩
    rw [G64_g0_eq, G70_is k _ hg, ocall_some]
    unfold fieldsFrom fieldsFrom
    cases hasB (hi, lo, ()) n with
    | false => rw [sel_false, wrap64 (by omega) (by omega), sel_neg (by omega)]; simp
    | true => rw [sel_true, sel_pos (by omega), wrap64 (by omega) (by omega), sel_neg (by omega)]; simp
  | succ j ih =>
    intro n hn h2 acc c ha hc
    obtain ⟨c, rfl⟩ : ∃ d, c = d + 1 := ⟨c - 1, by omega⟩
    rw [G64_g0_eq, G70_is k _ hg, ocall_some]
    rw [show fieldsFrom (hi, lo, ()) n (j + 1 + 1) = (if hasB (hi, lo, ()) n = true then [(n : Int)] else []) ++ fieldsFrom (hi, lo, ()) (n + 1) (j + 1) from rfl]
    have e : (n : Int) + 1 = ((n + 1 : Nat) : Int) := by omega
    cases hasB (hi, lo, ()) n with
    | false =>
      rw [sel_false, wrap64 (by omega) (by omega), sel_pos (by omega), e, ih (n + 1) (by omega) (by omega) acc c (by omega) (by omega)]; simp
    | true =>
      rw [sel_true, sel_pos (by omega), wrap64 (by omega) (by omega), sel_pos (by omega), e, ih (n + 1) (by omega) (by omega) (acc ++ [(n : Int)]) c (by simp; omega) (by omega)]; simp

theorem G64_is (k : Nat) (hk : 200 < k) (m : BM) (hg : goodB m) : G64 k (m, ()) = some (fieldsB m, ()) := by
  have hl := fun acc h => G64_g0_is k m hg 125 3 (by omega) (by omega) acc k h (by omega)
  have hh := G70_is k m hg 2
  obtain ⟨hi, lo, ⟨⟩⟩ := m
  rw [G64_eq, hh, ocall_some]
  unfold fieldsB
  rw [show fieldsFrom (hi, lo, ()) 2 127 = (if hasB (hi, lo, ()) (2 : Nat) = true then [((2 : Nat) : Int)] else []) ++ fieldsFrom (hi, lo, ()) 3 126 from rfl]
  have e : IntKind.i64.wrap (2 + 1) = ((3 : Nat) : Int) := by rfl
  have e2 : hasB (hi, lo, ()) ((2 : Nat) : Int) = hasB (hi, lo, ()) 2 := rfl
  rw [e2, e]
  cases hasB (hi, lo, ()) 2 with
  | false => simp only [sel_false]; rw [hl [] (by simp), ocall_some]; simp
  | true => simp only [sel_true]; rw [hl [2] (by simp), ocall_some]; simp

/-! the bitmap of fields -/
def ofB : BM → List Int → BM × Int
  | m, [] => (m, 0)
  | m, n :: l => if (putB m n).2 = 0 then ofB (putB m n).1 l else ((0, 0, ()), (putB m n).2)
theorem putB_good {m : BM} (hg : goodB m) (n : Int) : goodB (putB m n).1 := by
  unfold putB
  split
  · rename_i h
    obtain ⟨f1, f2, f3⟩ := fieldB_iff.1 h.2
    exact setB_good hg (by omega) (by omega)
  · exact hg
theorem putB_err (m : BM) (n : Int) : (putB m n).2 = 0 ∨ (putB m n).2 = 1 := by unfold putB; split <;> simp

theorem G39_3_is (k : Nat) (l : List Int) (hl : l.length ≤ 1000000000) : ∀ (j i : Nat), i + j = l.length → ∀ (m : BM), goodB m → ∀ n, j < n →
    G39_3 k n (l, (l.length : Int), (i : Int), 0, 0, m.1, m.2.1, ()) = some (if (ofB m (l.drop i)).2 = 0 then .inl (0, 0, (ofB m (l.drop i)).1.1, (ofB m (l.drop i)).1.2.1, ()) else .inr ((ofB m (l.drop i)).2, 0, 0, ())) := by
  intro j
  induction j with
  | zero =>
    intro i hij m hg n hn
    obtain ⟨n, rfl⟩ : ∃ m, n = m + 1 := ⟨n - 1, by omega⟩
    rw [G39_3_eq, sel_neg (by omega), List.drop_eq_nil_of_le (by omega)]
    rfl
  | succ j ih =>
    intro i hij m hg n hn
    obtain ⟨n, rfl⟩ : ∃ m, n = m + 1 := ⟨n - 1, by omega⟩
    have hlt : i < l.length := by omega
    rw [G39_3_eq, sel_pos (by omega), sel_pos (by omega), sel_pos (by simp only [ofNat_len]; omega), Int.toNat_natCast, getD_of hlt]
    have hp := G54_is k m hg l[i]
    have hg2 := putB_good hg l[i]
    obtain ⟨hi, lo, ⟨⟩⟩ := m
    rw [hp, ocall_some]
    rcases putB_err (hi, lo, ()) l[i] with h | h
    · have hof : ofB (hi, lo, ()) (l.drop i) = ofB (putB (hi, lo, ()) l[i]).1 (l.drop (i + 1)) := by
        rw [List.drop_eq_getElem_cons hlt]
        exact if_pos h
      rw [hof, sel_not, sel_pos h, wrap64 (by omega) (by omega)]
      have := ih (i + 1) (by omega) (putB (hi, lo, ()) l[i]).1 hg2 n (by omega)
      rw [Int.natCast_add, Int.natCast_one] at this
      exact this
    · have hof : ofB (hi, lo, ()) (l.drop i) = ((0, 0, ()), (putB (hi, lo, ()) l[i]).2) := by
        rw [List.drop_eq_getElem_cons hlt]
        exact if_neg (by omega)
      have hn0 : ¬ (putB (hi, lo, ()) l[i]).2 = 0 := by omega
      rw [hof, sel_not, sel_neg hn0, if_neg hn0]

theorem ofB_err : ∀ (l : List Int) (m : BM), (ofB m l).2 ≠ 0 → (ofB m l).1 = (0, 0, ()) := by
  intro l
  induction l with
  | nil => intro m h; exact absurd rfl h
  | cons n l ih =>
    intro m h
    unfold ofB at h ⊢
    split
    · rename_i c; rw [if_pos c] at h; exact ih _ h
    · rfl

theorem G39_is (k : Nat) (l : List Int) (hl : l.length ≤ 1000000000) (hk : l.length < k) : G39 k (l, ()) = some ((ofB (0, 0, ()) l).1, (ofB (0, 0, ()) l).2, ()) := by
  have h := G39_3_is k l hl l.length 0 (by omega) (0, 0, ()) ⟨⟨by decide, by decide⟩, by decide, by decide⟩ k hk
  rw [List.drop_zero, Int.natCast_zero] at h
  rw [G39_eq]
  simp only [ofNat_len]
  rw [h, ocall_some]
  have hz := ofB_err l (0, 0, ())
  by_cases c : (ofB (0, 0, ()) l).2 = 0
  · rw [if_pos c, esel_inl, c]
  · rw [if_neg c, esel_inr, hz c]

/-! bytes -/
theorem fdiv_shift (w e : Nat) : IntKind.u8.wrap ((w : Int).fdiv ((2 : Int) ^ e)) = ((w / 2 ^ e % 256 : Nat) : Int) := by
  have e2 : (2 : Int) ^ e = ((2 ^ e : Nat) : Int) := by rw [Int.natCast_pow]; rfl
  rw [e2, ← Int.ofNat_fdiv]
  unfold IntKind.wrap
  simp only [IntKind.bits, IntKind.signed]
  simp

theorem G56_2_step (k c : Nat) (b : List Int) (w i : Nat) (hi : i < 8) (hb : b.length ≤ 1000) : G56_2 k (c + 1) (b, (w : Int), (i : Int), ()) = G56_2 k c (b ++ [((w / 2 ^ (56 - 8 * i) % 256 : Nat) : Int)], (w : Int), ((i + 1 : Nat) : Int), ()) := by
  rw [G56_2_eq, sel_pos (by omega), wrap64 (n := (i : Int) + 1) (by omega) (by omega), wrap64 (n := 8 * ((i : Int) + 1)) (by omega) (by omega), wrap64 (by omega) (by omega), sel_pos (by omega), sel_pos (by omega),
    show (64 - 8 * ((i : Int) + 1)).toNat = 56 - 8 * i by omega, Nat.min_eq_left (by omega), fdiv_shift]
  rfl

theorem G56_is (k : Nat) (hk : 20 < k) (b : List Int) (hb : b.length ≤ 900) (w : Nat) : G56 k (b, (w : Int), ()) = some (b ++ be8 w, ()) := by
  obtain ⟨c, rfl⟩ : ∃ c, k = c + 9 := ⟨k - 9, by omega⟩
  rw [G56_eq]
  have s0 := G56_2_step (c + 9) (c + 8) b w 0 (by omega) (by omega)
  rw [Int.natCast_zero] at s0
  rw [s0, G56_2_step (c + 9) (c + 7) _ w 1 (by omega) (by simp; omega), G56_2_step (c + 9) (c + 6) _ w 2 (by omega) (by simp; omega), G56_2_step (c + 9) (c + 5) _ w 3 (by omega) (by simp; omega),
    G56_2_step (c + 9) (c + 4) _ w 4 (by omega) (by simp; omega), G56_2_step (c + 9) (c + 3) _ w 5 (by omega) (by simp; omega), G56_2_step (c + 9) (c + 2) _ w 6 (by omega) (by simp; omega),
    G56_2_step (c + 9) (c + 1) _ w 7 (by omega) (by simp; omega), G56_2_eq, sel_neg (by omega), ocall_some]
  simp [be8, List.append_assoc]

def bytesB (m : BM) : List Int := if m.2.1 = 0 then be8 m.1.toNat else be8 m.1.toNat ++ be8 m.2.1.toNat
theorem G40_is (k : Nat) (hk : 20 < k) (m : BM) (hg : goodB m) : G40 k (m, ()) = some (if rightB m = true then (bytesB m, 0, ()) else ([], 1, ())) := by
  have hR := G55_is k m hg
  obtain ⟨hi, lo, ⟨⟩⟩ := m
  rw [G40_eq, hR, ocall_some]
  cases rightB (hi, lo, ()) with
  | false => rw [if_neg (by simp)]; rfl
  | true =>
  rw [if_pos rfl]
  obtain ⟨hi, rfl, hh⟩ := nat_of hg.1
  obtain ⟨lo, rfl, hl⟩ := nat_of hg.2
  simp only [Bool.not_true, sel_false]
  rw [G56_is k hk [] (by simp) hi, ocall_some]
  unfold bytesB
  simp only [Int.toNat_natCast, List.nil_append]
  by_cases hz : (lo : Int) = 0
  · rw [sel_not, sel_pos hz, if_pos hz]
  · rw [sel_not, sel_neg hz, if_neg hz, G56_is k hk _ (by simp [be8]) lo, ocall_some]

/-! and back -/
theorem num8_step (a : Nat) (c : Int) (l : List Int) : l.foldl (fun a c => 256 * a + c.toNat) a = l.foldl (fun a c => 256 * a + c.toNat) a := rfl
theorem take_lt (l : List Int) (hb : ∀ c ∈ l, byteOK c) : ∀ i : Nat, i ≤ l.length → (l.take i).foldl (fun a c => 256 * a + c.toNat) 0 < 256 ^ i := by
  intro i
  induction i with
  | zero => intro _; simp
  | succ i ih =>
    intro hi
    have := ih (by omega)
    rw [List.take_succ_eq_append_getElem (by omega), List.foldl_append]
    have hc := hb l[i] (List.getElem_mem _)
    simp only [List.foldl_cons, List.foldl_nil]
    unfold byteOK at hc
    rw [Nat.pow_succ]
    omega

theorem G69_3_is (k : Nat) (l : List Int) (hl : l.length = 8) (hb : ∀ c ∈ l, byteOK c) : ∀ (j i : Nat), i + j = 8 → ∀ n, j < n →
    G69_3 k n ((((l.take i).foldl (fun a c => 256 * a + c.toNat) 0 : Nat) : Int), l, 8, (i : Int), ()) = some (((num8 l : Nat) : Int), ()) := by
  intro j
  induction j with
  | zero =>
    intro i hij n hn
    obtain ⟨n, rfl⟩ : ∃ m, n = m + 1 := ⟨n - 1, by omega⟩
    rw [G69_3_eq, sel_neg (by omega), List.take_of_length_le (by omega)]
    rfl
  | succ j ih =>
    intro i hij n hn
    obtain ⟨n, rfl⟩ : ∃ m, n = m + 1 := ⟨n - 1, by omega⟩
    have hlt : i < l.length := by omega
    have ht := take_lt l hb i (by omega)
    have hp : 256 ^ i ≤ 256 ^ 7 := Nat.pow_le_pow_right (by omega) (by omega)
    have hc := hb l[i] (List.getElem_mem _)
    unfold byteOK at hc
    rw [G69_3_eq, sel_pos (by omega), sel_pos (by omega), sel_pos (by simp only [ofNat_len]; omega), Int.toNat_natCast, getD_of hlt, wrap64 (by omega) (by omega)]
    have e8 : (2 : Int) ^ min (Int.toNat 8) 64 = 256 := by rfl
    obtain ⟨c, hce⟩ := Int.eq_ofNat_of_zero_le hc.1
    have h7 : (256 : Nat) ^ 7 = 72057594037927936 := by rfl
    rw [e8, hce, shl_or (by omega) (by omega)]
    have := ih (i + 1) (by omega) n (by omega)
    rw [List.take_succ_eq_append_getElem (by omega), List.foldl_append] at this
    simp only [List.foldl_cons, List.foldl_nil, hce, Int.toNat_natCast, Int.natCast_add, Int.natCast_one, Int.natCast_mul] at this ⊢
    exact this

theorem G69_is (k : Nat) (hk : 20 < k) (l : List Int) (hl : 8 ≤ l.length) (hb : ∀ c ∈ l, byteOK c) : G69 k (l, ()) = some (((num8 (l.take 8) : Nat) : Int), ()) := by
  have h := G69_3_is k (l.take 8) (by rw [List.length_take]; omega) (fun c hc => hb c (List.mem_of_mem_take hc)) 8 0 (by omega) k (by omega)
  rw [G69_eq, sel_pos (by simp only [ofNat_len]; omega), sel_pos (by simp)]
  have e : List.drop (Int.ofNat 0).toNat (List.take (Int.toNat 8) l) = l.take 8 := rfl
  have e2 : (l.take 8).length = 8 := by rw [List.length_take]; omega
  rw [e, e2]
  simp only [List.take_zero, List.foldl_nil, Int.natCast_zero] at h
  have e3 : Int.ofNat 8 = 8 := rfl
  rw [e3, h, ocall_some]

/-- a bitmap of bytes: the bitmap, how many bytes it has, and why there is none -/
def readB (b : List Int) : BM × Int × Int :=
  if b.length < 8 then ((0, 0, ()), 0, 2)
  else if (num8 (b.take 8)).testBit 63 = true then
    if b.length < 16 then ((0, 0, ()), 0, 2)
    else if rightB (((num8 (b.take 8) : Nat) : Int), ((num8 ((b.drop 8).take 8) : Nat) : Int), ()) = true then ((((num8 (b.take 8) : Nat) : Int), ((num8 ((b.drop 8).take 8) : Nat) : Int), ()), 16, 0) else ((0, 0, ()), 0, 3)
  else if rightB (((num8 (b.take 8) : Nat) : Int), 0, ()) = true then ((((num8 (b.take 8) : Nat) : Int), 0, ()), 8, 0) else ((0, 0, ()), 0, 3)

theorem num8_good {l : List Int} (h : 8 ≤ l.length) (hb : ∀ c ∈ l, byteOK c) : num8 (l.take 8) < 18446744073709551616 := num8_lt (by rw [List.length_take]; omega) fun c hc => hb c (List.mem_of_mem_take hc)

theorem G63_is (k : Nat) (hk : 20 < k) (b : List Int) (hb : ∀ c ∈ b, byteOK c) : G63 k (b, ()) = some ((readB b).1, (readB b).2.1, (readB b).2.2, ()) := by
  rw [G63_eq]
  unfold readB
  by_cases c8 : b.length < 8
  · rw [sel_pos (by simp only [ofNat_len]; omega), if_pos c8]
  rw [sel_neg (by simp only [ofNat_len]; omega), if_neg c8, G69_is k hk b (by omega) hb, ocall_some]
  have n1 := num8_good (l := b) (by omega) hb
  have g0 : goodB (((num8 (b.take 8) : Nat) : Int), 0, ()) := ⟨⟨by (try simp only []); omega, by (try simp only []); omega⟩, Int.le_refl 0, by show (0 : Int) < _; decide⟩
  rw [G68_is k _ g0 1 (by omega) (by omega), ocall_some]
  have e1 : bitB (((num8 (b.take 8) : Nat) : Int), 0, ()) (Int.toNat 1) = (num8 (b.take 8)).testBit 63 := by simp [bitB]
  rw [e1]
  cases ht : (num8 (b.take 8)).testBit 63 with
  | false =>
    rw [if_neg (by simp), sel_false, G55_is k _ g0, ocall_some]
    cases rightB (((num8 (b.take 8) : Nat) : Int), 0, ()) with
    | false => rw [if_neg (by simp)]; rfl
    | true => rw [if_pos rfl]; rfl
  | true =>
    rw [if_pos rfl, sel_true]
    by_cases c16 : b.length < 16
    · rw [sel_pos (by simp only [ofNat_len]; omega), if_pos c16]
    rw [sel_neg (by simp only [ofNat_len]; omega), if_neg c16, sel_pos (by simp only [ofNat_len]; omega), sel_pos (by simp), sel_pos (by simp)]
    have e : List.drop (Int.toNat 8) (List.take (Int.ofNat b.length).toNat b) = b.drop 8 := by
      rw [show (Int.ofNat b.length).toNat = b.length from rfl, List.take_of_length_le (Nat.le_refl _)]; rfl
    have hb2 : ∀ c ∈ b.drop 8, byteOK c := fun c hc => hb c (List.mem_of_mem_drop hc)
    have hl2 : 8 ≤ (b.drop 8).length := by rw [List.length_drop]; omega
    have n2 := num8_good hl2 hb2
    have g1 : goodB (((num8 (b.take 8) : Nat) : Int), ((num8 ((b.drop 8).take 8) : Nat) : Int), ()) := ⟨⟨by (try simp only []); omega, by (try simp only []); omega⟩, by (try simp only []); omega, by (try simp only []); omega⟩
    rw [e, G69_is k hk _ hl2 hb2, ocall_some]
    (try simp only [])
    rw [G55_is k _ g1, ocall_some]
    cases rightB (((num8 (b.take 8) : Nat) : Int), ((num8 ((b.drop 8).take 8) : Nat) : Int), ()) with
    | false => rw [if_neg (by simp)]; rfl
    | true => rw [if_pos rfl]; rfl
end Go.Proofs.Ytjgnpmdbkgeakaa.G
