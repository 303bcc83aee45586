/- What comes of FieldRight: always true. -/
import Derived.Test.YtjgnpmdbkgeakaaField3
import Derived.Test.YtjgnpmdbkgeakaaPureFieldKnown
set_option linter.unusedVariables false
set_option linter.unusedSimpArgs false
namespace Go.Proofs.Ytjgnpmdbkgeakaa.PureFieldRight
open Go Go.Proofs.Ytjgnpmdbkgeakaa Th G PureFieldKnown

theorem sameI_self (a : Int) : sameI a a = true := by simp [sameI]

theorem main (n : Int) (s : List UInt8) (b : List Int) (hs : s.length ≤ 140737488351232) (hb : b.length ≤ 9223372036854775807) : G3 5000 (n, s, b, ()) = some (true, ()) := by
  rw [G3_eq, G9_is 5000 (by omega), ocall_some]
  simp only [Bool.not_true, sel_false, ofNat_len]
  by_cases c : (3000 : Int) < s.length
  · rw [sel_pos c]
  rw [sel_neg c]
  by_cases c2 : (3000 : Int) < b.length
  · rw [sel_pos c2]
  rw [sel_neg c2, G10_is 5000 (by omega), G11_is 5000 (by omega), ocall_some, ocall_some]
  have hs' : s.length ≤ maxLen := by rw [maxLen_eq]; omega
  cases hd : defOf n with
  | none =>
    have e : defR n = ((0, 0, 0, ()), false) := by unfold defR; rw [hd]
    have er : rightF n s = false := by unfold rightF; rw [hd]
    simp only [e, G12_none 5000 (by omega) n s hd, G13_is 5000 (by omega) n s hs' (by omega), G14_is 5000 (by omega) n s hs' (by omega), er, ocall_some, sameI_self, Bool.and_self, Bool.not_true, Bool.not_false, sel_true, sel_false, beq_self_eq_true, decide_true,
      G16_none 5000 (by omega) n b hd, G17_none 5000 (by omega) n b hd, List.length_nil]
    rfl
  | some d =>
    have e : defR n = (d, true) := by unfold defR; rw [hd]
    simp only [e, G12_is 5000 (by omega) n d hd s hs (by omega), G13_is 5000 (by omega) n s hs' (by omega), G14_is 5000 (by omega) n s hs' (by omega)]
    cases er : rightF n s with
    | false =>
      simp only [ocall_some, sameI_self, Bool.and_self, Bool.not_true, Bool.not_false, sel_true, sel_false, beq_self_eq_true, decide_true, Bool.false_eq_true, if_false,
        G16_is 5000 (by omega) n d hd b hb, G17_is 5000 (by omega) n d hd b hb, List.length_nil]
      rfl
    | true =>
      simp only [ocall_some, sameI_self, Bool.and_self, Bool.not_true, Bool.not_false, sel_true, sel_false, beq_self_eq_true, decide_true, if_true,
        G15_is 5000 (by omega) n d hd s er, G16_is 5000 (by omega) n d hd b hb, G17_is 5000 (by omega) n d hd b hb]

theorem pure (x0 : Ty.den (.int .i64)) (x1 : Ty.den .str) (x2 : Ty.den (.slice (.int .u8))) (g0 : Ty.Good (.int .i64) x0) (g1 : Ty.Good .str x1) (g2 : Ty.Good (.slice (.int .u8)) x2) : ∃ k, F3 k (x0, (x1, (x2, PUnit.unit))) = some (true, PUnit.unit) :=
  ⟨5000, main x0 x1 x2 g1 g2.1⟩
end Go.Proofs.Ytjgnpmdbkgeakaa.PureFieldRight
