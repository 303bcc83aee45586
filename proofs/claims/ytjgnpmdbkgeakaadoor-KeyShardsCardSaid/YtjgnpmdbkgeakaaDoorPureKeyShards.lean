/- What comes of KeyShards: always true. -/
import Derived.Test.YtjgnpmdbkgeakaaDoorPureKeyOrder
set_option linter.unusedVariables false
set_option linter.unusedSimpArgs false
namespace Go.Proofs.YtjgnpmdbkgeakaaDoor.PureKeyShards
open Go Go.Proofs.YtjgnpmdbkgeakaaDoor Th G PureKeyOrder

theorem ok_key {d : Deal} (h : dealOK d = true) : keyOK (d.2.2.2.1, d.2.2.2.2.1, ()) = true := by
  unfold dealOK at h
  simp only [Bool.and_eq_true] at h
  unfold keyOK
  simp only [Bool.and_eq_true]
  exact ⟨h.1.1.2, h.1.2⟩

theorem main (d : Deal) (many kind : Int) (gd : goodD d) (gm : 0 ≤ many ∧ many ≤ 255) : G5 5000 (d, many, kind, ()) = some (true, ()) := by
  obtain ⟨kd, pan, amt, stan, rrn, code, ⟨⟩⟩ := d
  rw [G5_eq, awake 5000 (by omega), ocall_some]
  simp only [Bool.not_true, sel_false]
  rw [shortD, ocall_some]
  by_cases h0 : lens 300 (kd, pan, amt, stan, rrn, code, ())
  case neg => rw [decide_eq_false h0]; rfl
  rw [decide_eq_true h0]
  simp only [Bool.not_true, sel_false]
  rw [G33_is 5000 300 (by omega) (by omega) _ h0 gd, ocall_some]
  cases hok : dealOK (kd, pan, amt, stan, rrn, code, ()) with
  | false => rfl
  | true =>
    have hk := ok_key hok
    simp only [] at hk
    have hl : rrn.length ≤ 300 := h0.2.1
    have hst : 0 ≤ stan ∧ stan ≤ 4294967295 := gd.2
    simp only [Bool.not_true, sel_false]
    rw [G26_is, ocall_some]
    simp only []
    have w1 : IntKind.i64.wrap many = many := wrap64 (by omega) (by omega)
    have t1 : many.tmod 16 = many % 16 := Int.tmod_eq_emod_of_nonneg gm.1
    have m0 := Int.emod_nonneg many (show (16 : Int) ≠ 0 by omega)
    have m1 := Int.emod_lt_of_pos many (show (0 : Int) < 16 by omega)
    rw [w1, t1]
    generalize many % 16 = n at *
    rw [wrap64 (n := n + 1) (by omega) (by omega), wrap64 (n := 16 + (n + 1)) (by omega) (by omega)]
    have s1 : ∀ m, G31 5000 ((stan, rrn, ()), m, ()) = some (shardK (stan, rrn, ()) m, ()) := fun m => G31_is 5000 300 (by omega) (by omega) (by omega) (stan, rrn, ()) m hl hst
    rw [s1, ocall_some, G26_is, ocall_some]
    simp only []
    rw [G27_is 5000 300 (by omega) (by omega) (stan, rrn, ()) hl (by omega) hst, ocall_some, hk, sel_true]
    have e1 : shardK (stan, rrn, ()) (n + 1) = ((hsh (stanT stan ++ rrn) : Nat) : Int) % (n + 1) := by
      unfold shardK; rw [if_pos ⟨hk, by omega, by omega⟩]
    have b0 := Int.emod_nonneg ((hsh (stanT stan ++ rrn) : Nat) : Int) (show n + 1 ≠ 0 by omega)
    have b1 := Int.emod_lt_of_pos ((hsh (stanT stan ++ rrn) : Nat) : Int) (show 0 < n + 1 by omega)
    have e2 : shardK (stan, rrn, ()) (16 + (n + 1)) = -1 := by
      unfold shardK; rw [if_neg (by rintro ⟨_, _, h⟩; omega)]
    simp only [e1]
    rw [sel_pos b0, sel_pos b1]
    simp only [G26_is, ocall_some, s1, e1]
    rw [e2]
    rfl

theorem pure (x0 : Ty.den (.st (.cons (.int .i64) (.cons .str (.cons (.int .u64) (.cons (.int .u32) (.cons .str (.cons .str .nil)))))))) (x1 : Ty.den (.int .u8)) (x2 : Ty.den (.int .u8)) (g0 : Ty.Good (.st (.cons (.int .i64) (.cons .str (.cons (.int .u64) (.cons (.int .u32) (.cons .str (.cons .str .nil))))))) x0) (g1 : Ty.Good (.int .u8) x1) (g2 : Ty.Good (.int .u8) x2) : ∃ k, F5 k (x0, (x1, (x2, PUnit.unit))) = some (true, PUnit.unit) :=
  ⟨5000, main x0 x1 x2 ⟨good_u64 g0.2.2.1, good_u32 g0.2.2.2.1⟩ (good_u8 g1)⟩
end Go.Proofs.YtjgnpmdbkgeakaaDoor.PureKeyShards
