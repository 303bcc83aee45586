/- Bits of words of 64, and their eight bytes. -/
import Derived.Test.YtjgnpmdbkgeakaaThU
set_option linter.unusedVariables false
set_option linter.unusedSimpArgs false
set_option maxRecDepth 100000
namespace Go.Proofs.Ytjgnpmdbkgeakaa.Bits
open Go Go.Proofs.Ytjgnpmdbkgeakaa Th

theorem b_or {x y : Nat} (hx : x < 18446744073709551616) (hy : y < 18446744073709551616) : bits .or .u64 (x : Int) (y : Int) = ((x ||| y : Nat) : Int) := by
  have hb : (x ||| y) < 2 ^ 64 := Nat.or_lt_two_pow (by omega) (by omega)
  have e : (BitVec.ofInt 64 (x : Int) ||| BitVec.ofInt 64 (y : Int)).toNat = x ||| y := by
    rw [BitVec.toNat_or, BitVec.ofInt_natCast, BitVec.ofInt_natCast, BitVec.toNat_ofNat, BitVec.toNat_ofNat, Nat.mod_eq_of_lt (by omega), Nat.mod_eq_of_lt (by omega)]
  show IntKind.u64.wrap (((BitVec.ofInt 64 (x : Int) ||| BitVec.ofInt 64 (y : Int)).toNat : Nat) : Int) = _
  rw [e]
  exact wrapu64 (by omega) (by omega)
theorem b_and {x y : Nat} (hx : x < 18446744073709551616) (hy : y < 18446744073709551616) : bits .and .u64 (x : Int) (y : Int) = ((x &&& y : Nat) : Int) := by
  have hb : (x &&& y) < 2 ^ 64 := Nat.and_lt_two_pow _ (by omega)
  have e : (BitVec.ofInt 64 (x : Int) &&& BitVec.ofInt 64 (y : Int)).toNat = x &&& y := by
    rw [BitVec.toNat_and, BitVec.ofInt_natCast, BitVec.ofInt_natCast, BitVec.toNat_ofNat, BitVec.toNat_ofNat, Nat.mod_eq_of_lt (by omega), Nat.mod_eq_of_lt (by omega)]
  show IntKind.u64.wrap (((BitVec.ofInt 64 (x : Int) &&& BitVec.ofInt 64 (y : Int)).toNat : Nat) : Int) = _
  rw [e]
  exact wrapu64 (by omega) (by omega)

theorem pow_lt {n : Nat} (h : n < 64) : 2 ^ n < 18446744073709551616 := Nat.pow_lt_pow_right (a := 2) (by omega) h
theorem pow_pos (n : Nat) : 0 < 2 ^ n := Nat.two_pow_pos n

/-- the highest bit, to the right -/
theorem top_shift {n : Nat} (h1 : 1 ≤ n) (h : n ≤ 64) : Int.fdiv 9223372036854775808 ((2 : Int) ^ min (n - 1) 64) = ((2 ^ (64 - n) : Nat) : Int) := by
  rw [Nat.min_eq_left (by omega)]
  have e : (9223372036854775808 : Int) = (((2 ^ (64 - n)) * (2 ^ (n - 1)) : Nat) : Int) := by
    rw [← Nat.pow_add]
    rw [show 64 - n + (n - 1) = 63 by omega]
    rfl
  have e2 : (2 : Int) ^ (n - 1) = ((2 ^ (n - 1) : Nat) : Int) := by rw [Int.natCast_pow]; rfl
  rw [e, e2, ← Int.ofNat_fdiv, Nat.mul_div_cancel _ (pow_pos _)]

theorem and_pow {w k : Nat} : ((w &&& 2 ^ k) = 0) ↔ w.testBit k = false := by
  constructor
  · intro h
    have := congrArg (fun x => x.testBit k) h
    simpa [Nat.testBit_and, Nat.testBit_two_pow] using this
  · intro h
    apply Nat.eq_of_testBit_eq
    intro i
    rw [Nat.testBit_and, Nat.testBit_two_pow, Nat.zero_testBit]
    by_cases e : k = i
    · subst e; rw [h]; rfl
    · rw [decide_eq_false e, Bool.and_false]
theorem or_test (w k j : Nat) : (w ||| 2 ^ k).testBit j = (w.testBit j || decide (k = j)) := by rw [Nat.testBit_or, Nat.testBit_two_pow]
theorem or_lt {w k : Nat} (hw : w < 18446744073709551616) (hk : k < 64) : (w ||| 2 ^ k) < 18446744073709551616 := Nat.or_lt_two_pow (n := 64) hw (pow_lt hk)
theorem or_self {w k : Nat} (h : w.testBit k = true) : (w ||| 2 ^ k) = w := by
  apply Nat.eq_of_testBit_eq
  intro i
  rw [or_test]
  by_cases e : k = i
  · subst e; rw [h]; rfl
  · rw [decide_eq_false e, Bool.or_false]
theorem high_zero {w j : Nat} (hw : w < 18446744073709551616) (hj : 64 ≤ j) : w.testBit j = false :=
  Nat.testBit_lt_two_pow (Nat.lt_of_lt_of_le hw (Nat.pow_le_pow_right (n := 2) (by omega) hj))
theorem add_or {w k : Nat} (hw : w < 18446744073709551616) (hk : k < 64) (h : w.testBit k = false) : w + 2 ^ k = (w ||| 2 ^ k) := by
  have hp := pow_lt hk
  have hand : BitVec.ofNat 64 w &&& BitVec.ofNat 64 (2 ^ k) = 0#64 := by
    apply BitVec.eq_of_toNat_eq
    rw [BitVec.toNat_and, BitVec.toNat_ofNat, BitVec.toNat_ofNat, Nat.mod_eq_of_lt hw, Nat.mod_eq_of_lt hp]
    exact and_pow.2 h
  have e := congrArg BitVec.toNat (BitVec.add_eq_or_of_and_eq_zero _ _ hand)
  rw [BitVec.toNat_add, BitVec.toNat_or, BitVec.toNat_ofNat, BitVec.toNat_ofNat, Nat.mod_eq_of_lt hw, Nat.mod_eq_of_lt hp] at e
  have hb : (w ||| 2 ^ k) < 2 ^ 64 := or_lt hw hk
  have hlt : w + 2 ^ k < 2 ^ 64 := by
    rcases Nat.lt_or_ge (w + 2 ^ k) (2 ^ 64) with h1 | h1
    · exact h1
    · exfalso
      rw [Nat.mod_eq_sub_mod h1, Nat.mod_eq_of_lt (by omega)] at e
      have : w ≤ (w ||| 2 ^ k) := Nat.left_le_or
      have e64 : (2 : Nat) ^ 64 = 18446744073709551616 := by rfl
      omega
  rw [Nat.mod_eq_of_lt hlt] at e
  exact e
/-- halves, one behind the other -/
theorem test_div (w k : Nat) : decide (w / 2 ^ k % 2 = 1) = w.testBit k := by rw [Nat.testBit_eq_decide_div_mod_eq]

/-! eight bytes -/
def be8 (w : Nat) : List Int := [((w / 72057594037927936 % 256 : Nat) : Int), ((w / 281474976710656 % 256 : Nat) : Int), ((w / 1099511627776 % 256 : Nat) : Int), ((w / 4294967296 % 256 : Nat) : Int),
  ((w / 16777216 % 256 : Nat) : Int), ((w / 65536 % 256 : Nat) : Int), ((w / 256 % 256 : Nat) : Int), ((w % 256 : Nat) : Int)]
def num8 (l : List Int) : Nat := l.foldl (fun a c => 256 * a + c.toNat) 0
def byteOK (c : Int) : Prop := 0 ≤ c ∧ c ≤ 255

theorem be8_len (w : Nat) : (be8 w).length = 8 := rfl
theorem be8_bytes (w : Nat) : ∀ c ∈ be8 w, byteOK c := by
  intro c hc
  simp only [be8, List.mem_cons, List.not_mem_nil, or_false] at hc
  unfold byteOK
  rcases hc with rfl | rfl | rfl | rfl | rfl | rfl | rfl | rfl <;> omega
theorem num8_be8 {w : Nat} (h : w < 18446744073709551616) : num8 (be8 w) = w := by
  simp only [num8, be8, List.foldl_cons, List.foldl_nil, Int.toNat_natCast]
  omega
theorem eight {l : List Int} (h : l.length = 8) : ∃ a b c d e f g i, l = [a, b, c, d, e, f, g, i] := by
  match l, h with
  | [a, b, c, d, e, f, g, i], _ => exact ⟨a, b, c, d, e, f, g, i, rfl⟩
theorem num8_lt {l : List Int} (h : l.length = 8) (hb : ∀ c ∈ l, byteOK c) : num8 l < 18446744073709551616 := by
  obtain ⟨a, b, c, d, e, f, g, i, rfl⟩ := eight h
  simp only [List.mem_cons, List.not_mem_nil, or_false, forall_eq_or_imp, forall_eq, byteOK] at hb
  simp only [num8, List.foldl_cons, List.foldl_nil]
  omega
theorem be8_num8 {l : List Int} (h : l.length = 8) (hb : ∀ c ∈ l, byteOK c) : be8 (num8 l) = l := by
  obtain ⟨a, b, c, d, e, f, g, i, rfl⟩ := eight h
  simp only [List.mem_cons, List.not_mem_nil, or_false, forall_eq_or_imp, forall_eq, byteOK] at hb
  obtain ⟨a, rfl⟩ := Int.eq_ofNat_of_zero_le hb.1.1
  obtain ⟨b, rfl⟩ := Int.eq_ofNat_of_zero_le hb.2.1.1
  obtain ⟨c, rfl⟩ := Int.eq_ofNat_of_zero_le hb.2.2.1.1
  obtain ⟨d, rfl⟩ := Int.eq_ofNat_of_zero_le hb.2.2.2.1.1
  obtain ⟨e, rfl⟩ := Int.eq_ofNat_of_zero_le hb.2.2.2.2.1.1
  obtain ⟨f, rfl⟩ := Int.eq_ofNat_of_zero_le hb.2.2.2.2.2.1.1
  obtain ⟨g, rfl⟩ := Int.eq_ofNat_of_zero_le hb.2.2.2.2.2.2.1.1
  obtain ⟨i, rfl⟩ := Int.eq_ofNat_of_zero_le hb.2.2.2.2.2.2.2.1
  simp only [num8, be8, List.foldl_cons, List.foldl_nil, Int.toNat_natCast, List.cons.injEq, and_true]
  refine ⟨?_, ?_, ?_, ?_, ?_, ?_, ?_, ?_⟩ <;> omega
theorem num8_top {l : List Int} (h : l.length = 8) (hb : ∀ c ∈ l, byteOK c) : (num8 l).testBit 63 = decide (128 ≤ l.getD 0 0) := by
  obtain ⟨a, b, c, d, e, f, g, i, rfl⟩ := eight h
  simp only [List.mem_cons, List.not_mem_nil, or_false, forall_eq_or_imp, forall_eq, byteOK] at hb
  rw [← test_div]
  refine decide_eq_decide.2 ?_
  simp only [num8, List.foldl_cons, List.foldl_nil, List.getD_cons_zero]
  rw [show (2 : Nat) ^ 63 = 9223372036854775808 by rfl]
  omega
/-- one byte more, from the left -/
theorem shl_or {a c : Nat} (ha : a < 72057594037927936) (hc : c < 256) : bits .or .u64 (IntKind.u64.wrap ((a : Int) * 256)) (IntKind.u64.wrap (c : Int)) = ((256 * a + c : Nat) : Int) := by
  rw [show (a : Int) * 256 = ((a * 256 : Nat) : Int) by omega, wrapu64 (by omega) (by omega), wrapu64 (by omega) (by omega), b_or (by omega) (by omega)]
  have := Nat.shiftLeft_add_eq_or_of_lt (b := c) (i := 8) (by omega) a
  rw [Nat.shiftLeft_eq] at this
  rw [← this]
  omega
end Go.Proofs.Ytjgnpmdbkgeakaa.Bits
