/- What comes of CoreRests: always true. -/
import Derived.Test.YtjgnpmdbkgeakaaDoorCore6
import Derived.Test.YtjgnpmdbkgeakaaDoorPureCoreRight
import Derived.Test.YtjgnpmdbkgeakaaDoorEqQ
set_option linter.unusedVariables false
set_option linter.unusedSimpArgs false
set_option maxRecDepth 100000
namespace Go.Proofs.YtjgnpmdbkgeakaaDoor.PureCoreRests
open Go Go.Proofs.YtjgnpmdbkgeakaaDoor Th G PureCoreRight

theorem main (e : Entry) (kind : Int) (d : Deal) (tries : Int) (ge : goodE e) (gt : -9223372036854775808 ≤ e.2.2.2.2.2.1 ∧ e.2.2.2.2.2.1 ≤ 9223372036854775807) (gd : goodD d) : G11 5000 (e, (kind, d, ()), tries, ()) = some (true, ()) := by
  have hsd := shortDD 5000 d
  have hse := shortE 5000 e
  have hdo := fun a b => G47_is 5000 300 (by omega) (by omega) (by omega) e kind d tries a ge b gd gt
  have hsame := sameE (doK e (kind, d, ()) tries).1.1 e
  rw [G11_eq, awake 5000 (by omega), ocall_some]
  obtain ⟨⟨ks, kr, ⟨⟩⟩, st, pan, amt, code, tr, cause, ⟨⟩⟩ := e
  obtain ⟨dk, dpan, damt, stan, rrn, dcode, ⟨⟩⟩ := d
  simp only [Bool.not_true, sel_false]
  rw [hse, ocall_some]
  by_cases h1 : kr.length ≤ 300 ∧ pan.length ≤ 300 ∧ code.length ≤ 300
  case neg => rw [decide_eq_false h1]; rfl
  rw [decide_eq_true h1]
  simp only [Bool.not_true, sel_false]
  rw [hsd, ocall_some]
  by_cases hl : lens 300 (dk, dpan, damt, stan, rrn, dcode, ())
  case neg => rw [decide_eq_false hl]; rfl
  rw [decide_eq_true hl]
  simp only [Bool.not_true, sel_false]
  rw [hdo h1 hl, ocall_some]
  simp only [G51_is, ocall_some]
  (try simp only [] at hsame)
  rw [hsame]
  by_cases hm : mayK ((ks, kr, ()), st, pan, amt, code, tr, cause, ()) (kind, (dk, dpan, damt, stan, rrn, dcode, ()), ()) tries = true
  case neg =>
    have : doK ((ks, kr, ()), st, pan, amt, code, tr, cause, ()) (kind, (dk, dpan, damt, stan, rrn, dcode, ()), ()) tries = (zeroS, 1) := by unfold doK; rw [if_neg hm]
    rw [this]; rfl
  have hdk : doK ((ks, kr, ()), st, pan, amt, code, tr, cause, ()) (kind, (dk, dpan, damt, stan, rrn, dcode, ()), ()) tries = (stepK ((ks, kr, ()), st, pan, amt, code, tr, cause, ()) (kind, (dk, dpan, damt, stan, rrn, dcode, ()), ()) tries, 0) := by unfold doK; rw [if_pos hm]
  rw [hdk]
  (try simp only [])
  rw [sel_not, sel_pos trivial]
  by_cases hf : st = 2 ∨ st = 3 ∨ st = 5 ∨ st = 6
  case neg => rw [decide_eq_false hf]; rfl
  rw [decide_eq_true hf]
  simp only [Bool.not_true, sel_false]
  by_cases hne : (stepK ((ks, kr, ()), st, pan, amt, code, tr, cause, ()) (kind, (dk, dpan, damt, stan, rrn, dcode, ()), ()) tries).1 = ((ks, kr, ()), st, pan, amt, code, tr, cause, ())
  · rw [decide_eq_true hne]; rfl
  rw [decide_eq_false hne]
  simp only [sel_false]
  rcases step_rests hm hf hne with ⟨r1, r2, r3, r4⟩ | ⟨r1, r2, r3⟩
  · have r1 : st = 2 := r1
    have r2 : kind = 3 := r2
    rw [sel_pos r1, sel_pos r2, sel_pos r3, decide_eq_true r4]
  · have r1 : st = 6 := r1
    have r2 : kind = 5 := r2
    rw [sel_neg (by omega), sel_pos r1, sel_pos r2, decide_eq_true r3]

theorem pure (x0 : Ty.den (.st (.cons (.st (.cons (.int .u32) (.cons .str .nil))) (.cons (.int .i64) (.cons .str (.cons (.int .u64) (.cons .str (.cons (.int .i64) (.cons (.int .i64) .nil))))))))) (x1 : Ty.den (.st (.cons (.int .i64) (.cons (.st (.cons (.int .i64) (.cons .str (.cons (.int .u64) (.cons (.int .u32) (.cons .str (.cons .str .nil))))))) .nil)))) (x2 : Ty.den (.int .i64)) (g0 : Ty.Good (.st (.cons (.st (.cons (.int .u32) (.cons .str .nil))) (.cons (.int .i64) (.cons .str (.cons (.int .u64) (.cons .str (.cons (.int .i64) (.cons (.int .i64) .nil)))))))) x0) (g1 : Ty.Good (.st (.cons (.int .i64) (.cons (.st (.cons (.int .i64) (.cons .str (.cons (.int .u64) (.cons (.int .u32) (.cons .str (.cons .str .nil))))))) .nil))) x1) (g2 : Ty.Good (.int .i64) x2) : ∃ k, F11 k (x0, (x1, (x2, PUnit.unit))) = some (true, PUnit.unit) :=
  ⟨5000, main x0 x1.1 x1.2.1 x2 ⟨good_u32 g0.1.1, good_u64 g0.2.2.2.1⟩ (good_i64 g0.2.2.2.2.2.1) ⟨good_u64 g1.2.1.2.2.1, good_u32 g1.2.1.2.2.2.1⟩⟩
end Go.Proofs.YtjgnpmdbkgeakaaDoor.PureCoreRests
