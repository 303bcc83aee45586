/- What the functions of the digits' laws answer. -/
import Derived.Test.YtjgnpmdbkgeakaaEq
set_option linter.unusedVariables false
set_option linter.unusedSimpArgs false
namespace Go.Proofs.Ytjgnpmdbkgeakaa.G
open Go Go.Proofs.Ytjgnpmdbkgeakaa Th

def dgt (c : UInt8) : Bool := decide (48 ≤ c.toNat) && decide (c.toNat ≤ 57)
def isDig (s : List UInt8) : Bool := decide (0 < s.length) && s.all dgt

theorem dgt_iff {c : UInt8} : dgt c = true ↔ 48 ≤ c.toNat ∧ c.toNat ≤ 57 := by simp [dgt]

theorem drop_at {α : Type} {s : List α} {i : Nat} (h : i < s.length) : s.drop i = s[i] :: s.drop (i + 1) := List.drop_eq_getElem_cons h

theorem G50_g0_is (k : Nat) (s : List UInt8) (hs : s.length ≤ maxLen) : ∀ (j i : Nat), i + j = s.length → ∀ n, j < n → G50_g0 k n (s, (i : Int), ()) = some (decide (0 < s.length) && (s.drop i).all dgt, ()) := by
  rw [maxLen_eq] at hs
  intro j
  induction j with
  | zero =>
    intro i hij n hn
    obtain ⟨n, rfl⟩ : ∃ m, n = m + 1 := ⟨n - 1, by omega⟩
    rw [G50_g0_eq, sel_pos (by simp only [ofNat_len]; omega)]
    rw [List.drop_eq_nil_of_le (by omega)]
    have : decide ((0 : Int) < (i : Int)) = decide (0 < s.length) := decide_eq_decide.2 (by omega)
    simp only [this, List.all_nil, Bool.and_true]
  | succ j ih =>
    intro i hij n hn
    obtain ⟨n, rfl⟩ : ∃ m, n = m + 1 := ⟨n - 1, by omega⟩
    have hlt : i < s.length := by omega
    rw [G50_g0_eq]
    simp only [ofNat_len, Int.toNat_natCast, getD_of hlt, Int.ofNat_eq_natCast]
    rw [sel_neg (by omega), sel_pos (by omega), sel_pos (by omega)]
    rw [drop_at hlt, List.all_cons]
    have hp : decide (0 < s.length) = true := by simp; omega
    by_cases c1 : ((s[i]).toNat : Int) < 48
    · rw [sel_pos c1]
      have : dgt s[i] = false := by rw [Bool.eq_false_iff, Ne, dgt_iff]; omega
      simp [this]
    · rw [sel_neg c1, sel_pos (by omega), sel_pos (by omega)]
      by_cases c2 : (57 : Int) < ((s[i]).toNat : Int)
      · rw [sel_pos c2]
        have : dgt s[i] = false := by rw [Bool.eq_false_iff, Ne, dgt_iff]; omega
        simp [this]
      · rw [sel_neg c2]
        have : dgt s[i] = true := by rw [dgt_iff]; omega
        rw [this, wrap64 (by omega) (by omega)]
        have := ih (i + 1) (by omega) n (by omega)
        simpa using this

theorem G50_is (k : Nat) (s : List UInt8) (hs : s.length ≤ maxLen) (hk : s.length < k) : G50 k (s, ()) = some (isDig s, ()) := by
  have hs' := hs
  rw [maxLen_eq] at hs'
  rw [G50_eq]
  simp only [ofNat_len, isDig]
  cases hs0 : s with
  | nil => rfl
  | cons c t =>
    rw [← hs0]
    have hlt : 0 < s.length := by rw [hs0]; simp
    simp only [Int.ofNat_eq_natCast, show Int.toNat (0 : Int) = 0 from rfl, getD_of hlt]
    rw [sel_neg (by omega), sel_pos (by omega)]
    have hp : decide (0 < s.length) = true := by simp; omega
    have hd := drop_at hlt
    rw [List.drop_zero] at hd
    rw [hp, Bool.true_and]
    have e0 : s.all dgt = (dgt s[0] && (s.drop 1).all dgt) := by
      conv => lhs; rw [hd]
      rw [List.all_cons]
    rw [e0]
    by_cases c1 : ((s[0]).toNat : Int) < 48
    · rw [sel_pos c1]
      have : dgt s[0] = false := by rw [Bool.eq_false_iff, Ne, dgt_iff]; omega
      rw [this]; rfl
    · rw [sel_neg c1, sel_pos (by omega)]
      by_cases c2 : (57 : Int) < ((s[0]).toNat : Int)
      · rw [sel_pos c2]
        have : dgt s[0] = false := by rw [Bool.eq_false_iff, Ne, dgt_iff]; omega
        rw [this]; rfl
      · rw [sel_neg c2]
        have : dgt s[0] = true := by rw [dgt_iff]; omega
        rw [this, wrap64 (by omega) (by omega)]
        have := G50_g0_is k s hs (s.length - 1) 1 (by omega) k (by omega)
        rw [show ((0 : Int) + 1) = ((1 : Nat) : Int) from rfl, this, hp]
        simp

theorem G53_2_is (k : Nat) (s : List UInt8) (hs : s.length ≤ maxLen) : ∀ (j i : Nat), i + j = s.length → ∀ n, j < n → G53_2 k n (s, (i : Int), ()) = some (if (s.drop i).all dgt = true then .inl (s, ()) else .inr (false, ())) := by
  rw [maxLen_eq] at hs
  intro j
  induction j with
  | zero =>
    intro i hij n hn
    obtain ⟨n, rfl⟩ : ∃ m, n = m + 1 := ⟨n - 1, by omega⟩
    rw [G53_2_eq, sel_neg (by simp only [ofNat_len]; omega)]
    rw [List.drop_eq_nil_of_le (by omega)]
    rfl
  | succ j ih =>
    intro i hij n hn
    obtain ⟨n, rfl⟩ : ∃ m, n = m + 1 := ⟨n - 1, by omega⟩
    have hlt : i < s.length := by omega
    rw [G53_2_eq]
    simp only [ofNat_len, Int.toNat_natCast, getD_of hlt, Int.ofNat_eq_natCast]
    rw [sel_pos (by omega), sel_pos (by omega), sel_pos (by omega)]
    rw [drop_at hlt, List.all_cons]
    by_cases c1 : ((s[i]).toNat : Int) < 48
    · rw [sel_pos c1]
      have : dgt s[i] = false := by rw [Bool.eq_false_iff, Ne, dgt_iff]; omega
      simp [this]
    · rw [sel_neg c1, sel_pos (by omega), sel_pos (by omega)]
      by_cases c2 : (57 : Int) < ((s[i]).toNat : Int)
      · rw [sel_pos c2]
        have : dgt s[i] = false := by rw [Bool.eq_false_iff, Ne, dgt_iff]; omega
        simp [this]
      · rw [sel_neg c2]
        have : dgt s[i] = true := by rw [dgt_iff]; omega
        rw [this, wrap64 (by omega) (by omega), Bool.true_and]
        exact ih (i + 1) (by omega) n (by omega)

theorem G53_is (k : Nat) (s : List UInt8) (hs : s.length ≤ maxLen) (hk : s.length < k) : G53 k (s, ()) = some (isDig s, ()) := by
  rw [G53_eq]
  have := G53_2_is k s hs s.length 0 (by omega) k hk
  rw [List.drop_zero] at this
  simp only [Int.natCast_zero] at this
  rw [this, ocall_some]
  by_cases h : s.all dgt = true
  · rw [if_pos h, esel_inl]
    simp only [isDig, h, Bool.and_true, ofNat_len]
    have : (0 : Int) < (s.length : Int) ↔ 0 < s.length := by omega
    simp [this]
  · rw [if_neg h, esel_inr]
    simp [isDig, h]

/-! numbers as digits -/
def digs (v : Nat) : Nat → List UInt8
  | 0 => []
  | n + 1 => digs (v / 10) n ++ [UInt8.ofNat (48 + v % 10)]

theorem digs_len (n : Nat) : ∀ v, (digs v n).length = n := by
  induction n with
  | zero => intro v; rfl
  | succ n ih => intro v; simp [digs, ih]

theorem chr_toNat {n : Nat} (h : n < 256) : (UInt8.ofNat n).toNat = n := by rw [UInt8.toNat_ofNat']; omega

theorem ofBytes_append (a b : List Int) : ofBytes (a ++ b) = ofBytes a ++ ofBytes b := by simp [ofBytes]

/-- the loop that fills from behind -/
theorem G31_5_is (k : Nat) : ∀ (i : Nat) (v : Nat) (pre post : List Int), v < 18446744073709551616 → pre.length = i → i ≤ 19 → ∀ n, i < n →
    ∃ mid, mid.length = i ∧ G31_5 k n ((v : Int), pre ++ post, (i : Int) - 1, ()) = some (((v / 10 ^ i : Nat) : Int), mid ++ post, ()) ∧ ofBytes mid = digs v i := by
  intro i
  induction i with
  | zero =>
    intro v pre post hv hp hi n hn
    obtain ⟨n, rfl⟩ : ∃ m, n = m + 1 := ⟨n - 1, by omega⟩
    have : pre = [] := List.length_eq_zero_iff.1 hp
    subst this
    refine ⟨[], rfl, ?_, rfl⟩
    rw [G31_5_eq, sel_neg (by (try simp only []); omega)]
    simp
  | succ i ih =>
    intro v pre post hv hp hi n hn
    obtain ⟨n, rfl⟩ : ∃ m, n = m + 1 := ⟨n - 1, by omega⟩
    obtain ⟨pre', x, rfl⟩ : ∃ p x, pre = p ++ [x] := ⟨pre.dropLast, pre.getLast (by intro h; rw [h] at hp; simp at hp), (List.dropLast_concat_getLast _).symm⟩
    have hp' : pre'.length = i := by simpa using hp
    have hd : v % 10 < 10 := Nat.mod_lt _ (by omega)
    have e1 : ((v : Int)).tdiv 10 = ((v / 10 : Nat) : Int) := by simp [Int.tdiv_eq_ediv_of_nonneg]
    have e2 : ((v : Int)).tmod 10 = ((v % 10 : Nat) : Int) := by simp [Int.tmod_eq_emod_of_nonneg]
    have e3 : (((i + 1 : Nat) : Int) - 1) = (i : Int) := by omega
    rw [G31_5_eq]
    simp only [e1, e2, e3, ofNat_len, Int.toNat_natCast]
    rw [sel_pos (by omega), sel_pos (by omega), sel_pos (by simp; omega), sel_pos (by simp; omega)]
    have w1 : IntKind.u64.wrap ((v / 10 : Nat) : Int) = ((v / 10 : Nat) : Int) := wrapu64 (by omega) (by omega)
    have w2 : IntKind.u8.wrap ((v % 10 : Nat) : Int) = ((v % 10 : Nat) : Int) := wrapu8 (by omega) (by omega)
    have w3 : IntKind.u8.wrap (48 + ((v % 10 : Nat) : Int)) = 48 + ((v % 10 : Nat) : Int) := wrapu8 (by omega) (by omega)
    have w4 : IntKind.i64.wrap ((i : Int) - 1) = (i : Int) - 1 := wrap64 (by omega) (by omega)
    rw [w1, w2, w3, w4]
    have hset : (pre' ++ [x] ++ post).set i (48 + ((v % 10 : Nat) : Int)) = pre' ++ ((48 + ((v % 10 : Nat) : Int)) :: post) := by
      rw [List.append_assoc, List.set_append_right _ _ (by omega)]
      simp [hp']
    rw [hset]
    obtain ⟨mid, m1, m2, m3⟩ := ih (v / 10) pre' ((48 + ((v % 10 : Nat) : Int)) :: post) (by omega) hp' (by omega) n (by omega)
    refine ⟨mid ++ [48 + ((v % 10 : Nat) : Int)], by simp [m1], ?_, ?_⟩
    · rw [m2, Nat.div_div_eq_div_mul, Nat.pow_succ, Nat.mul_comm (10 ^ i) 10]
      simp
    · rw [ofBytes_append, m3, digs]
      have : (48 + ((v % 10 : Nat) : Int)).toNat = 48 + v % 10 := by omega
      show _ ++ [UInt8.ofNat (48 + ((v % 10 : Nat) : Int)).toNat] = _
      rw [this]

def putOK (v : Nat) (n : Int) : List UInt8 × Int :=
  if n < 1 ∨ 19 < n then ([], 1) else if v / 10 ^ n.toNat = 0 then (digs v n.toNat, 0) else ([], 10)

theorem G31_is (k : Nat) (hk : 20 < k) (v : Nat) (n : Int) (hv : v < 18446744073709551616) : G31 k ((v : Int), n, ()) = some ((putOK v n).1, (putOK v n).2, ()) := by
  rw [G31_eq]
  unfold putOK
  by_cases c1 : n < 1
  · rw [sel_pos c1, if_pos (.inl c1)]
  rw [sel_neg c1]
  by_cases c2 : 19 < n
  · rw [sel_pos c2, if_pos (.inr c2)]
  rw [sel_neg c2, if_neg (by omega)]
  obtain ⟨m, rfl⟩ : ∃ m : Nat, n = (m : Int) := ⟨n.toNat, by omega⟩
  simp only [Int.toNat_natCast]
  rw [sel_pos (by omega), sel_pos (by omega), sel_pos (by omega), sel_pos (by simp only [Int.ofNat_eq_natCast]; omega)]
  obtain ⟨mid, m1, m2, m3⟩ := G31_5_is k m v (List.replicate m 0) [] hv (by simp) (by omega) k (by omega)
  rw [wrap64 (by omega) (by omega)]
  simp only [List.append_nil] at m2
  have m2' : G31_5 k k ((v : Int), List.replicate m (OfNat.ofNat (0 : Nat)), (m : Int) - 1, ()) = some (((v / 10 ^ m : Nat) : Int), mid, ()) := m2
  rw [m2', ocall_some]
  generalize v / 10 ^ m = q
  by_cases c3 : q = 0
  · rw [sel_neg (by simp only [c3]; omega), if_pos c3, m3]
  · rw [sel_pos (by (try simp only []); omega), if_neg c3]

theorem G51_5_is (k : Nat) (N : Nat) (hN : N ≤ 19) : ∀ (j i : Nat) (v : Nat) (t : List UInt8), i + j = N → t.length ≤ 100 - j → v < 18446744073709551616 → ∀ n, j < n → G51_5 k n ((v : Int), (N : Int), t, (i : Int), ()) = some (((v / 10 ^ j : Nat) : Int), digs v j ++ t, ()) := by
  intro j
  induction j with
  | zero =>
    intro i v t hij ht hv n hn
    obtain ⟨n, rfl⟩ : ∃ m, n = m + 1 := ⟨n - 1, by omega⟩
    rw [G51_5_eq, sel_neg (by (try simp only []); omega)]
    simp [digs]
  | succ j ih =>
    intro i v t hij ht hv n hn
    obtain ⟨n, rfl⟩ : ∃ m, n = m + 1 := ⟨n - 1, by omega⟩
    have hd : v % 10 < 10 := Nat.mod_lt _ (by omega)
    have e1 : ((v : Int)).tdiv 10 = ((v / 10 : Nat) : Int) := by simp [Int.tdiv_eq_ediv_of_nonneg]
    have e2 : ((v : Int)).tmod 10 = ((v % 10 : Nat) : Int) := by simp [Int.tmod_eq_emod_of_nonneg]
    have w1 : IntKind.u64.wrap ((v / 10 : Nat) : Int) = ((v / 10 : Nat) : Int) := wrapu64 (by omega) (by omega)
    have w2 : IntKind.u64.wrap (48 + ((v % 10 : Nat) : Int)) = 48 + ((v % 10 : Nat) : Int) := wrapu64 (by omega) (by omega)
    have w3 : IntKind.u8.wrap (48 + ((v % 10 : Nat) : Int)) = 48 + ((v % 10 : Nat) : Int) := wrapu8 (by omega) (by omega)
    have e4 : ofBytes [48 + ((v % 10 : Nat) : Int)] = [UInt8.ofNat (48 + v % 10)] := by
      have : (48 + ((v % 10 : Nat) : Int)).toNat = 48 + v % 10 := by omega
      show [UInt8.ofNat (48 + ((v % 10 : Nat) : Int)).toNat] = _
      rw [this]
    rw [G51_5_eq]
    simp only [e1, e2, w1, w2, w3, e4]
    rw [sel_pos (by omega), sel_pos (by simp; omega), wrap64 (by omega) (by omega)]
    have := ih (i + 1) (v / 10) (UInt8.ofNat (48 + v % 10) :: t) (by omega) (by simp; omega) (by omega) n (by omega)
    rw [Nat.div_div_eq_div_mul, Nat.mul_comm 10, ← Nat.pow_succ] at this
    rw [digs, List.append_assoc]
    exact this

theorem G51_is (k : Nat) (hk : 20 < k) (v : Nat) (n : Int) (hv : v < 18446744073709551616) : G51 k ((v : Int), n, ()) = some ((putOK v n).1, (putOK v n).2, ()) := by
  rw [G51_eq]
  unfold putOK
  by_cases c1 : n < 1
  · rw [sel_pos c1, if_pos (.inl c1)]
  rw [sel_neg c1]
  by_cases c2 : 19 < n
  · rw [sel_pos c2, if_pos (.inr c2)]
  rw [sel_neg c2, if_neg (by omega)]
  obtain ⟨m, rfl⟩ : ∃ m : Nat, n = (m : Int) := ⟨n.toNat, by omega⟩
  simp only [Int.toNat_natCast]
  have := G51_5_is k m (by omega) m 0 v [] (by omega) (by simp) hv k (by omega)
  simp only [Int.natCast_zero, List.append_nil] at this
  rw [this, ocall_some]
  generalize v / 10 ^ m = q
  by_cases c3 : q = 0
  · subst c3
    rw [if_pos rfl]
    rfl
  · rw [if_neg c3]
    have : ¬ (q : Int) = 0 := by omega
    simp only [this, decide_false, Bool.not_false, sel_true]

/-! a number of digits -/
def val (a : Nat) (s : List UInt8) : Nat := s.foldl (fun a c => 10 * a + (c.toNat - 48)) a

theorem val_cons (a : Nat) (c : UInt8) (s : List UInt8) : val a (c :: s) = val (10 * a + (c.toNat - 48)) s := by unfold val; rw [List.foldl_cons]

theorem pow_le19 {i : Nat} (h : i ≤ 19) : 10 ^ i ≤ 10 ^ 19 := Nat.pow_le_pow_right (by omega) h

theorem G52_9_is (k : Nat) (s : List UInt8) (hs : s.length ≤ 19) (hd : s.all dgt = true) : ∀ (j i a : Nat), i + j = s.length → a < 10 ^ i → ∀ n, j < n →
    G52_9 k n ((a : Int), toBytes s, ((toBytes s).length : Int), (i : Int), ()) = some ((val a (s.drop i) : Int), ()) := by
  have hl : (toBytes s).length = s.length := by simp [toBytes]
  intro j
  induction j with
  | zero =>
    intro i a hij ha n hn
    obtain ⟨n, rfl⟩ : ∃ m, n = m + 1 := ⟨n - 1, by omega⟩
    rw [G52_9_eq, sel_neg (by simp only [hl]; omega), List.drop_eq_nil_of_le (by omega)]
    rfl
  | succ j ih =>
    intro i a hij ha n hn
    obtain ⟨n, rfl⟩ : ∃ m, n = m + 1 := ⟨n - 1, by omega⟩
    have hlt : i < s.length := by omega
    have hc := List.all_eq_true.1 hd s[i] (List.getElem_mem _)
    rw [dgt_iff] at hc
    have hg : (toBytes s).getD i (OfNat.ofNat 0) = ((s[i]).toNat : Int) := by rw [getD_of (by omega)]; simp [toBytes]
    have hp : 10 ^ i * 10 ≤ 10 ^ 19 := by rw [← Nat.pow_succ]; exact pow_le19 (by omega)
    have hp' : a + 1 ≤ 10 ^ i := ha
    have hp2 : (a + 1) * 10 ≤ 10 ^ i * 10 := Nat.mul_le_mul_right _ hp'
    rw [G52_9_eq]
    simp only [Int.toNat_natCast, hg, ofNat_len, hl]
    have w1 : IntKind.u8.wrap (((s[i]).toNat : Int) - 48) = (((s[i]).toNat - 48 : Nat) : Int) := by rw [wrapu8 (by omega) (by omega)]; omega
    have w2 : IntKind.u64.wrap (((s[i]).toNat - 48 : Nat) : Int) = (((s[i]).toNat - 48 : Nat) : Int) := wrapu64 (by omega) (by omega)
    have w3 : IntKind.u64.wrap (10 * (a : Int)) = 10 * (a : Int) := wrapu64 (by omega) (by omega)
    have w4 : IntKind.u64.wrap (10 * (a : Int) + (((s[i]).toNat - 48 : Nat) : Int)) = ((10 * a + ((s[i]).toNat - 48) : Nat) : Int) := by rw [wrapu64 (by omega) (by omega)]; omega
    rw [sel_pos (by omega), sel_pos (by omega), sel_pos (by omega), sel_pos (by omega), w1, w2, w3, w4, wrap64 (by omega) (by omega), drop_at hlt, val_cons]
    have := ih (i + 1) (10 * a + ((s[i]).toNat - 48)) (by omega) (by rw [Nat.pow_succ]; omega) n (by omega)
    rw [hl] at this
    exact this

theorem G37_9_is (k : Nat) (s : List UInt8) (hs : s.length ≤ 19) (hd : s.all dgt = true) : ∀ (j i a : Nat), i + j = s.length → a < 10 ^ i → ∀ n, j < n →
    G37_9 k n (s, (a : Int), (i : Int), ()) = some ((val a (s.drop i) : Int), ()) := by
  intro j
  induction j with
  | zero =>
    intro i a hij ha n hn
    obtain ⟨n, rfl⟩ : ∃ m, n = m + 1 := ⟨n - 1, by omega⟩
    rw [G37_9_eq, sel_neg (by simp only [ofNat_len]; omega), List.drop_eq_nil_of_le (by omega)]
    rfl
  | succ j ih =>
    intro i a hij ha n hn
    obtain ⟨n, rfl⟩ : ∃ m, n = m + 1 := ⟨n - 1, by omega⟩
    have hlt : i < s.length := by omega
    have hc := List.all_eq_true.1 hd s[i] (List.getElem_mem _)
    rw [dgt_iff] at hc
    have hp : 10 ^ i * 10 ≤ 10 ^ 19 := by rw [← Nat.pow_succ]; exact pow_le19 (by omega)
    have hp' : a + 1 ≤ 10 ^ i := ha
    have hp2 : (a + 1) * 10 ≤ 10 ^ i * 10 := Nat.mul_le_mul_right _ hp'
    rw [G37_9_eq]
    simp only [Int.toNat_natCast, getD_of hlt, ofNat_len, Int.ofNat_eq_natCast]
    have w2 : IntKind.u64.wrap (((s[i]).toNat : Nat) : Int) = (((s[i]).toNat : Nat) : Int) := wrapu64 (by omega) (by omega)
    have w3 : IntKind.u64.wrap (10 * (a : Int)) = 10 * (a : Int) := wrapu64 (by omega) (by omega)
    have w4 : IntKind.u64.wrap (10 * (a : Int) + (((s[i]).toNat : Nat) : Int)) = 10 * (a : Int) + (((s[i]).toNat : Nat) : Int) := wrapu64 (by omega) (by omega)
    have w5 : IntKind.u64.wrap (10 * (a : Int) + (((s[i]).toNat : Nat) : Int) - 48) = ((10 * a + ((s[i]).toNat - 48) : Nat) : Int) := by rw [wrapu64 (by omega) (by omega)]; omega
    rw [sel_pos (by omega), sel_pos (by omega), sel_pos (by omega), w2, w3, w4, w5, wrap64 (by omega) (by omega), drop_at hlt, val_cons]
    exact ih (i + 1) (10 * a + ((s[i]).toNat - 48)) (by omega) (by rw [Nat.pow_succ]; omega) n (by omega)

def getOK (s : List UInt8) : Nat × Int := if s.length = 0 then (0, 2) else if 19 < s.length then (0, 4) else if isDig s = true then (val 0 s, 0) else (0, 3)

theorem G52_is (k : Nat) (s : List UInt8) (hk : 20 < k) : G52 k (s, ()) = some (((getOK s).1 : Int), (getOK s).2, ()) := by
  rw [G52_eq]
  unfold getOK
  by_cases c1 : s.length = 0
  · rw [if_pos c1, sel_pos (List.length_eq_zero_iff.1 c1)]; rfl
  rw [if_neg c1, sel_neg (fun h => c1 (List.length_eq_zero_iff.2 h))]
  simp only [ofNat_len]
  by_cases c2 : 19 < s.length
  · rw [if_pos c2, sel_pos (by omega)]; rfl
  rw [if_neg c2, sel_neg (by omega), G50_is k s (by rw [maxLen_eq]; omega) (by omega)]
  simp only [ocall_some, sel_not]
  cases hd : isDig s with
  | false => rfl
  | true =>
    rw [sel_true, if_pos rfl]
    have hd' : s.all dgt = true := by simp [isDig] at hd; simpa using hd.2
    have := G52_9_is k s (by omega) hd' s.length 0 0 (by omega) (by simp) k (by omega)
    simp only [Int.natCast_zero, List.drop_zero] at this
    rw [this]; rfl

theorem G37_is (k : Nat) (s : List UInt8) (hs : s.length ≤ maxLen) (hk : 20 < k) : G37 k (s, ()) = some (((getOK s).1 : Int), (getOK s).2, ()) := by
  rw [G37_eq]
  unfold getOK
  simp only [ofNat_len]
  by_cases c1 : s.length = 0
  · rw [if_pos c1, sel_pos (by omega)]; rfl
  rw [if_neg c1, sel_neg (by omega)]
  by_cases c2 : 19 < s.length
  · rw [if_pos c2, sel_pos (by omega)]; rfl
  rw [if_neg c2, sel_neg (by omega), G53_is k s hs (by omega)]
  simp only [ocall_some, sel_not]
  cases hd : isDig s with
  | false => rfl
  | true =>
    rw [sel_true, if_pos rfl]
    have hd' : s.all dgt = true := by simp [isDig] at hd; simpa using hd.2
    have := G37_9_is k s (by omega) hd' s.length 0 0 (by omega) (by simp) k (by omega)
    simp only [Int.natCast_zero, List.drop_zero] at this
    rw [this]; rfl

end Go.Proofs.Ytjgnpmdbkgeakaa.G
