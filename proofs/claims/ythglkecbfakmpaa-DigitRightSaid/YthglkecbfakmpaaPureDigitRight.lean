/- What comes of DigitRight: always true. -/
import Derived.Test.YthglkecbfakmpaaDigit2
set_option linter.unusedVariables false
set_option linter.unusedSimpArgs false
namespace Go.Proofs.Ythglkecbfakmpaa.PureDigitRight
open Go Go.Proofs.Ythglkecbfakmpaa Th G

theorem main (s : List UInt8) (v : Nat) (n : Int) (hv : v < 18446744073709551616) (hs : s.length ≤ 140737488351232) : G7 5000 (s, (v : Int), n, ()) = some (true, ()) := by
  rw [G7_eq, G37_is 5000 (by omega), ocall_some]
  simp only [Bool.not_true, sel_false, ofNat_len]
  by_cases c : (3000 : Int) < s.length
  · rw [sel_pos c]
  rw [sel_neg c, G38_is 5000 (by omega) v n hv, G39_is 5000 (by omega) v n hv, G40_is 5000 s (by omega), G41_is 5000 s (by rw [maxLen_eq]; omega) (by omega), G42_is 5000 s (by omega) (by omega) (by omega), G43_is 5000 s (by omega) (by omega) (by omega), G44_is 5000 s (by rw [maxLen_eq]; omega) (by omega), G45_is 5000 s (by rw [maxLen_eq]; omega) (by omega), G46_is 5000 s (by omega) (by omega), G47_is 5000 s (by omega) (by omega)]
  simp

theorem pure (x0 : Ty.den .str) (x1 : Ty.den (.int .u64)) (x2 : Ty.den (.int .i64)) (g0 : Ty.Good .str x0) (g1 : Ty.Good (.int .u64) x1) (g2 : Ty.Good (.int .i64) x2) : ∃ k, F7 k (x0, (x1, (x2, PUnit.unit))) = some (true, PUnit.unit) := by
  have a := good_u64 g1
  refine ⟨5000, ?_⟩
  have e : x1 = ((Int.toNat x1 : Nat) : Int) := (Int.toNat_of_nonneg a.1).symm
  have := main x0 (Int.toNat x1) x2 (by have := a.2; omega) g0
  rw [← e] at this
  exact this
end Go.Proofs.Ythglkecbfakmpaa.PureDigitRight
