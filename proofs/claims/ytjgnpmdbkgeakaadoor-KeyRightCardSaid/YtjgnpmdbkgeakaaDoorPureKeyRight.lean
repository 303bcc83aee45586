/- What comes of KeyRight: always true. -/
import Derived.Test.YtjgnpmdbkgeakaaDoorPureKeyOrder
set_option linter.unusedVariables false
set_option linter.unusedSimpArgs false
namespace Go.Proofs.YtjgnpmdbkgeakaaDoor.PureKeyRight
open Go Go.Proofs.YtjgnpmdbkgeakaaDoor Th G PureKeyOrder

theorem same_self (a : Key) : (sameI a.1 a.1 && (sameS a.2.1 a.2.1 && true)) = true := by simp [sameI, sameS]

theorem main (d : Deal) (a b : Key) (many : Int) (ga : 0 ≤ a.1 ∧ a.1 ≤ 4294967295) : G3 5000 (d, a, b, many, ()) = some (true, ()) := by
  obtain ⟨kind, pan, amt, stan, rrn, code, ⟨⟩⟩ := d
  obtain ⟨a1, a2, ⟨⟩⟩ := a
  obtain ⟨b1, b2, ⟨⟩⟩ := b
  rw [G3_eq, awake 5000 (by omega), ocall_some]
  simp only [Bool.not_true, sel_false]
  rw [shortD, ocall_some]
  by_cases h0 : lens 300 (kind, pan, amt, stan, rrn, code, ())
  case neg => rw [decide_eq_false h0]; rfl
  rw [decide_eq_true h0]
  simp only [Bool.not_true, sel_false, short, ocall_some]
  by_cases h1 : a2.length ≤ 300
  case neg => rw [decide_eq_false h1]; rfl
  by_cases h2 : b2.length ≤ 300
  case neg => rw [decide_eq_true h1, decide_eq_false h2]; rfl
  rw [decide_eq_true h1, decide_eq_true h2]
  simp only [Bool.not_true, sel_false]
  rw [G26_is, ocall_some]
  have hs := same_self (stan, rrn, ())
  simp only [] at hs ⊢
  rw [hs, sel_true, G27_is 5000 300 (by omega) (by omega) (a1, a2, ()) h1 (by omega) ga, ocall_some, G28_is 5000 (by omega) (a1, a2, ()) (by simp only []; omega) (by simp only []; omega), ocall_some]
  have hb : (keyOK (a1, a2, ()) == keyOK (a1, a2, ())) = true := by cases keyOK (a1, a2, ()) <;> rfl
  simp only []
  rw [hb, sel_true, G29_is 5000 (by omega), ocall_some, G30_is, ocall_some, sel_pos rfl,
    G31_is 5000 300 (by omega) (by omega) (by omega) (a1, a2, ()) many h1 ga, ocall_some, G32_is 5000 (by omega) (a1, a2, ()) many (by simp only []; omega) (by simp only []; omega) ga, ocall_some]
  rw [decide_eq_true rfl]

theorem pure (x0 : Ty.den (.st (.cons (.int .i64) (.cons .str (.cons (.int .u64) (.cons (.int .u32) (.cons .str (.cons .str .nil)))))))) (x1 : Ty.den (.st (.cons (.int .u32) (.cons .str .nil)))) (x2 : Ty.den (.st (.cons (.int .u32) (.cons .str .nil)))) (x3 : Ty.den (.int .i64)) (g0 : Ty.Good (.st (.cons (.int .i64) (.cons .str (.cons (.int .u64) (.cons (.int .u32) (.cons .str (.cons .str .nil))))))) x0) (g1 : Ty.Good (.st (.cons (.int .u32) (.cons .str .nil))) x1) (g2 : Ty.Good (.st (.cons (.int .u32) (.cons .str .nil))) x2) (g3 : Ty.Good (.int .i64) x3) : ∃ k, F3 k (x0, (x1, (x2, (x3, PUnit.unit)))) = some (true, PUnit.unit) :=
  ⟨5000, main x0 x1 x2 x3 (good_u32 g1.1)⟩
end Go.Proofs.YtjgnpmdbkgeakaaDoor.PureKeyRight
