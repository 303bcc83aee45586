/- What the functions of the queue's laws answer. -/
import Derived.Test.YthglkecbfakmpaaEq
import Derived.Test.YthglkecbfakmpaaThU
set_option linter.unusedVariables false
set_option linter.unusedSimpArgs false
namespace Go.Proofs.Ythglkecbfakmpaa.G
open Go Go.Proofs.Ythglkecbfakmpaa Th
set_option linter.unusedSimpArgs false

abbrev Bs := List (List Int)
/-- a queue -/
def qRight (r : Int) (l : Bs) : Bool := decide (1 ≤ r) && decide (r ≤ 64) && decide ((l.length : Int) ≤ r)

theorem G25_is (k : Nat) (r : Int) (l : Bs) : G25 k ((r, l, ()), ()) = some (qRight r l, ()) := by
  rw [G25_eq]
  simp only [sel_dec, qRight, ofNat_len]
  split <;> (try split) <;> simp [*]

theorem G26_is (k : Nat) (r : Int) (l : Bs) (h : qRight r l = true) : G26 k ((r, l, ()), ()) = some (r - l.length, ()) := by
  rw [G26_eq, G25_is, h]
  simp only [qRight, Bool.and_eq_true, decide_eq_true_eq] at h
  simp only [ocall_some, sel_not, sel_true, ofNat_len]
  rw [wrap64 (by omega) (by omega)]

theorem G18_is (k : Nat) (r : Int) (h1 : 1 ≤ r) (h2 : r ≤ 64) : G18 k (r, ()) = some ((r, [], ()), 0, ()) := by
  rw [G18_eq, G25_is]
  have : qRight r [] = true := by simp [qRight]; omega
  simp only [this, ocall_some, sel_true]

theorem G73_is (k : Nat) (l : List Int) (h : l.length ≤ 140737488355328) : G73 k l = some (l, ()) := by
  rw [G73_eq]; rw [sel_pos (by omega)]
theorem G72_is (k : Nat) (l : Bs) (h : l.length * 24 ≤ 140737488355328) : G72 k l = some (l, ()) := by
  rw [G72_eq]; rw [sel_pos (by omega)]

theorem G21_7_is (k : Nat) (l items xs : Bs) (r y : Int) (hl : l.length ≤ 1000) (hi : items.length ≤ 1000) (hb : ∀ x ∈ l, x.length ≤ 140737488351232) : ∀ (j i : Nat), i + j = l.length →
    ∀ n, j < n → G21_7 k n (l, (l.length : Int), (i : Int), r, items ++ l.take i, y, xs, ()) = some (r, items ++ l, y, xs, ()) := by
  intro j
  induction j with
  | zero =>
    intro i hij n hn
    obtain ⟨n, rfl⟩ : ∃ m, n = m + 1 := ⟨n - 1, by omega⟩
    rw [G21_7_eq]
    rw [sel_neg (by simp only []; omega)]
    simp only []
    rw [List.take_of_length_le (by omega)]
  | succ j ih =>
    intro i hij n hn
    obtain ⟨n, rfl⟩ : ∃ m, n = m + 1 := ⟨n - 1, by omega⟩
    have hlt : i < l.length := by omega
    have hb' := hb l[i] (List.getElem_mem _)
    rw [G21_7_eq]
    simp only [Int.toNat_natCast, getD_of hlt]
    rw [sel_pos (by omega), sel_pos (by omega), sel_pos (by simp only [Int.ofNat_eq_natCast]; omega), G73_is k _ (by omega), ocall_some, sel_pos (by simp only [List.length_append, List.length_take]; omega)]
    rw [wrap64 (by omega) (by omega)]
    have := ih (i + 1) (by omega) n (by omega)
    rw [List.take_add_one, List.getElem?_eq_getElem hlt, ← List.append_assoc] at this
    exact this

theorem G21_is (k : Nat) (r : Int) (l m : Bs) (h : qRight r l = true) (hm : m.length < k) (hm2 : m.length ≤ maxLen) (hb : ∀ x ∈ m, x.length ≤ 140737488351232) :
    G21 k ((r, l, ()), m, ()) = some (if (l.length : Int) + m.length ≤ r then ((r, l ++ m, ()), 0, ()) else ((r, l, ()), 7, ())) := by
  rw [G21_eq]
  simp only [G25_is, G26_is k r l h, h, ocall_some, sel_not, sel_true, ofNat_len]
  simp only [qRight, Bool.and_eq_true, decide_eq_true_eq] at h
  by_cases c : (l.length : Int) + m.length ≤ r
  · rw [sel_neg (by omega), G72_is k l (by omega), ocall_some]
    have := G21_7_is k m l [] r 0 (by omega) (by omega) hb m.length 0 (by omega) k hm
    simp only [List.take_zero, List.append_nil] at this
    simp only [Int.natCast_zero] at this
    rw [this, if_pos c]
    rfl
  · rw [sel_pos (by omega), if_neg c]

theorem G23_is (k : Nat) (r : Int) (x : List Int) (l : Bs) (h : qRight r (x :: l) = true) (hb : x.length ≤ 140737488351232) :
    G23 k ((r, x :: l, ()), ()) = some ((r, l, ()), x, 0, ()) := by
  rw [G23_eq]
  simp only [G25_is, h, ocall_some, sel_not, sel_true, ofNat_len]
  simp only [qRight, Bool.and_eq_true, decide_eq_true_eq, List.length_cons] at h
  have e : ((x :: l).length : Int) = (l.length : Int) + 1 := by simp
  simp only [e]
  rw [sel_neg (by omega), sel_pos (by omega)]
  simp only [show Int.toNat (0 : Int) = 0 from rfl, show Int.toNat (1 : Int) = 1 from rfl, List.getD_cons_zero]
  rw [G73_is k x (by omega), ocall_some, sel_pos (by omega), sel_pos (by omega), sel_pos (by omega)]
  rw [List.take_of_length_le (by simp), List.drop_succ_cons, List.drop_zero, G72_is k l (by omega), ocall_some]

theorem G23_nil (k : Nat) (r : Int) (h : qRight r [] = true) : G23 k ((r, [], ()), ()) = some ((r, [], ()), [], 5, ()) := by
  rw [G23_eq]
  simp only [G25_is, h, ocall_some, sel_not, sel_true]
  rw [sel_pos (by simp)]

theorem G16_is (k : Nat) (hk : 4 ≤ k) : G16 k () = some (true, ()) := by
  rw [G16_eq, G18_is k 2 (by omega) (by omega)]
  simp only [ocall_some]
  rw [G21_is k 2 [] [[97], [98]] rfl (by simp; omega) (by simp [maxLen]) (by simp)]
  simp only [ocall_some, List.length_nil, List.length_cons, List.nil_append]
  rw [if_pos (by omega)]
  simp only []
  rw [G21_is k 2 [[97], [98]] [[99]] rfl (by simp; omega) (by simp [maxLen]) (by simp)]
  simp only [ocall_some, List.length_nil, List.length_cons]
  rw [if_neg (by omega)]
  simp only []
  rw [G23_is k 2 [97] [[98]] rfl (by simp)]
  simp only [ocall_some]
  rw [G26_is k 2 [[98]] rfl, G26_is k 2 [[97], [98]] rfl, G25_is]
  rfl

/-- texts that aren't too much -/
def okLists (l : Bs) : Prop := l.length ≤ 300 ∧ ∀ x ∈ l, x.length ≤ 3000

theorem G17_2_is (k : Nat) (l : Bs) (hl : l.length ≤ maxLen) : ∀ (j i : Nat), i ≤ 300 → i + j = 300 → (∀ x ∈ l.take i, x.length ≤ 3000) → ∀ n, j < n →
    (G17_2 k n (l, (i : Int), ()) = some (.inr (false, ())) ∨ (G17_2 k n (l, (i : Int), ()) = some (.inl (l, ())) ∧ ∀ x ∈ l.take 300, x.length ≤ 3000)) := by
  intro j
  induction j with
  | zero =>
    intro i hi hij hp n hn
    obtain ⟨n, rfl⟩ : ∃ m, n = m + 1 := ⟨n - 1, by omega⟩
    obtain rfl : i = 300 := by omega
    right
    rw [G17_2_eq]
    refine ⟨?_, hp⟩
    simp only [sel_dec]
    split
    · rw [if_neg (by omega)]
    · rfl
  | succ j ih =>
    intro i hi hij hp n hn
    obtain ⟨n, rfl⟩ : ∃ m, n = m + 1 := ⟨n - 1, by omega⟩
    rw [G17_2_eq]
    simp only [sel_dec, ofNat_len]
    by_cases hlt : i < l.length
    · rw [if_pos (by omega), if_pos (by omega), if_pos (by omega), if_pos (by omega)]
      simp only [Int.toNat_natCast, getD_of hlt]
      by_cases c : 3000 < ((l[i]).length : Int)
      · rw [if_pos c]; exact .inl rfl
      · rw [if_neg c, wrap64 (by omega) (by omega)]
        refine ih (i + 1) (by omega) (by omega) ?_ n (by omega)
        intro x hx
        rw [List.take_add_one, List.getElem?_eq_getElem hlt] at hx
        rcases List.mem_append.1 hx with h1 | h1
        · exact hp x h1
        · simp at h1; subst h1; omega
    · rw [if_neg (by omega)]
      refine .inr ⟨rfl, fun x hx => hp x ?_⟩
      rw [List.take_of_length_le (by omega)] at hx ⊢
      exact hx

theorem G17_is (k : Nat) (hk : 301 ≤ k) (l : Bs) (hl : l.length ≤ maxLen) : G17 k (l, ()) = some (false, ()) ∨ (G17 k (l, ()) = some (true, ()) ∧ okLists l) := by
  rw [G17_eq]
  rcases G17_2_is k l hl 300 0 (by omega) (by omega) (by simp) k (by omega) with h | ⟨h, hp⟩
  · left
    simp only [Int.natCast_zero] at h
    simp only [h, ocall_some, esel_inr]
  · simp only [Int.natCast_zero] at h
    simp only [h, ocall_some, esel_inl, ofNat_len]
    by_cases c : (l.length : Int) ≤ 300
    · right
      simp only [c, decide_true, true_and]
      refine ⟨by omega, fun x hx => hp x ?_⟩
      rw [List.take_of_length_le (by omega)]; exact hx
    · left; simp only [c, decide_false]

theorem G27_4_is (k : Nat) (l : Bs) (hl : l.length ≤ maxLen) : ∀ (j i : Nat), i + j = l.length → ∀ n, j < n → G27_4 k n (l, l, (i : Int), ()) = some (.inl ()) := by
  intro j
  induction j with
  | zero =>
    intro i hij n hn
    obtain ⟨n, rfl⟩ : ∃ m, n = m + 1 := ⟨n - 1, by omega⟩
    rw [G27_4_eq, sel_neg (by simp only [ofNat_len]; omega)]
  | succ j ih =>
    intro i hij n hn
    rw [maxLen_eq] at hl
    obtain ⟨n, rfl⟩ : ∃ m, n = m + 1 := ⟨n - 1, by omega⟩
    rw [G27_4_eq]
    simp only [ofNat_len]
    rw [sel_pos (by omega), sel_pos (by omega), sel_pos (by omega), sel_pos (by omega), sel_pos (by omega)]
    simp only [decide_true, Bool.not_true, sel_false]
    rw [wrap64 (by omega) (by omega)]
    exact ih (i + 1) (by omega) n (by omega)

theorem G27_is (k : Nat) (l : Bs) (hl : l.length ≤ maxLen) (hk : l.length < k) : G27 k (l, l, ()) = some (true, ()) := by
  rw [G27_eq]
  have := G27_4_is k l hl l.length 0 (by omega) k hk
  simp only [Int.natCast_zero] at this
  simp only [decide_true, Bool.not_true, sel_false, this, ocall_some, esel_inl]

theorem G19_is (k : Nat) (r : Int) (l : Bs) (hl : l.length ≤ maxLen) (hk : l.length < k) : G19 k ((r, l, ()), (r, l, ()), ()) = some (true, ()) := by
  rw [G19_eq]
  simp only [decide_true, sel_true, G27_is k l hl hk, ocall_some]

theorem G20_is (k : Nat) (r : Int) (l : Bs) : G20 k ((r, l, ()), ()) = some (qRight r l, ()) := by
  rw [G20_eq]
  simp only [sel_dec, qRight, ofNat_len]
  by_cases h1 : 0 < r <;> by_cases h2 : r < 65
  · rw [if_pos h1, if_pos h2]
    have e1 : (1 : Int) ≤ r := by omega
    have e2 : r ≤ 64 := by omega
    simp [e1, e2]
  · rw [if_pos h1, if_neg h2]
    have e2 : ¬ r ≤ 64 := by omega
    simp [e2]
  · rw [if_neg h1]
    have e1 : ¬ (1 : Int) ≤ r := by omega
    simp [e1]
  · rw [if_neg h1]
    have e1 : ¬ (1 : Int) ≤ r := by omega
    simp [e1]

theorem G18_no (k : Nat) (r : Int) (h : ¬ (1 ≤ r ∧ r ≤ 64)) : G18 k (r, ()) = some ((0, [], ()), 1, ()) := by
  rw [G18_eq, G25_is]
  have : qRight r [] = false := by
    rw [Bool.eq_false_iff]
    intro h2
    simp [qRight] at h2
    omega
  simp only [this, ocall_some, sel_false]

theorem G26_no (k : Nat) (r : Int) (l : Bs) (h : qRight r l = false) : G26 k ((r, l, ()), ()) = some (0, ()) := by
  rw [G26_eq, G25_is, h]
  simp only [ocall_some, sel_not, sel_false]

theorem G21_no (k : Nat) (r : Int) (l m : Bs) (h : qRight r l = false) : G21 k ((r, l, ()), m, ()) = some ((r, l, ()), 1, ()) := by
  rw [G21_eq, G25_is, h]
  simp only [ocall_some, sel_not, sel_false]

theorem G23_no (k : Nat) (r : Int) (l : Bs) (h : qRight r l = false) : G23 k ((r, l, ()), ()) = some ((r, l, ()), [], 1, ()) := by
  rw [G23_eq, G25_is, h]
  simp only [ocall_some, sel_not, sel_false]

theorem G22_is (k : Nat) (r : Int) (l m : Bs) (h : qRight r l = true) (hm : m.length ≤ 1000) :
    G22 k ((r, l, ()), m, ()) = some (if (l.length : Int) + m.length ≤ r then ((r, l ++ m, ()), 0, ()) else ((r, l, ()), 7, ())) := by
  rw [G22_eq, G20_is]
  simp only [h, ocall_some, sel_not, sel_true, ofNat_len]
  simp only [qRight, Bool.and_eq_true, decide_eq_true_eq] at h
  have w := wrap64 (n := (l.length : Int) + m.length) (by omega) (by omega)
  simp only [w]
  by_cases c : (l.length : Int) + m.length ≤ r
  · rw [sel_neg (by omega), sel_pos (by omega), sel_pos (by omega), if_pos c]
    rfl
  · rw [sel_pos (by omega), if_neg c]

theorem G22_no (k : Nat) (r : Int) (l m : Bs) (h : qRight r l = false) : G22 k ((r, l, ()), m, ()) = some ((r, l, ()), 1, ()) := by
  rw [G22_eq, G20_is, h]
  simp only [ocall_some, sel_not, sel_false]

theorem G24_is (k : Nat) (r : Int) (x : List Int) (l : Bs) (h : qRight r (x :: l) = true) : G24 k ((r, x :: l, ()), ()) = some ((r, l, ()), x, 0, ()) := by
  rw [G24_eq, G20_is]
  simp only [h, ocall_some, sel_not, sel_true, ofNat_len]
  have e : ((x :: l).length : Int) = (l.length : Int) + 1 := by simp
  simp only [e]
  rw [sel_neg (by omega), sel_pos (by omega)]
  simp only [show Int.toNat (0 : Int) = 0 from rfl, show Int.toNat (1 : Int) = 1 from rfl, List.getD_cons_zero]
  rw [sel_pos (by omega), sel_pos (by omega), sel_pos (by omega), List.take_of_length_le (by simp), List.drop_succ_cons, List.drop_zero]

theorem G24_nil (k : Nat) (r : Int) (h : qRight r [] = true) : G24 k ((r, [], ()), ()) = some ((r, [], ()), [], 5, ()) := by
  rw [G24_eq, G20_is]
  simp only [h, ocall_some, sel_not, sel_true]
  rw [sel_pos (by simp)]

theorem G24_no (k : Nat) (r : Int) (l : Bs) (h : qRight r l = false) : G24 k ((r, l, ()), ()) = some ((r, l, ()), [], 1, ()) := by
  rw [G24_eq, G20_is, h]
  simp only [ocall_some, sel_not, sel_false]

end Go.Proofs.Ythglkecbfakmpaa.G
