/- What comes of CoreRight: always true. -/
import Derived.Test.YtjgnpmdbkgeakaaDoorCore4
set_option linter.unusedVariables false
set_option linter.unusedSimpArgs false
set_option maxRecDepth 100000
namespace Go.Proofs.YtjgnpmdbkgeakaaDoor.PureCoreRight
open Go Go.Proofs.YtjgnpmdbkgeakaaDoor Th G

theorem shortDD (k : Nat) (d : Deal) : G24 k (d, ()) = some (decide (lens 300 d), ()) := by
  obtain ⟨kind, pan, amt, stan, rrn, code, ⟨⟩⟩ := d
  rw [G24_eq]
  simp only [ofNat_len]
  by_cases h : lens 300 (kind, pan, amt, stan, rrn, code, ())
  · have h1 : pan.length ≤ 300 := h.1
    have h2 : rrn.length ≤ 300 := h.2.1
    have h3 : code.length ≤ 300 := h.2.2
    rw [sel_pos (by omega), sel_pos (by omega), decide_eq_true h, decide_eq_true (show (code.length : Int) ≤ 300 by omega)]
  · rw [decide_eq_false h]
    by_cases h1 : pan.length ≤ 300
    · rw [sel_pos (by omega)]
      by_cases h2 : rrn.length ≤ 300
      · have h3 : ¬ code.length ≤ 300 := fun e => h ⟨h1, h2, e⟩
        rw [sel_pos (by omega), decide_eq_false (show ¬ (code.length : Int) ≤ 300 by omega)]
      · rw [sel_neg (by omega)]
    · rw [sel_neg (by omega)]

def rC : Txt := [82, 82, 78, 48, 48, 48, 48, 48, 48, 48, 48, 49]
def dC : Deal := (1, [49, 56], 5, 1, rC, [], ())
def eC : Entry := ((1, rC, ()), 1, [49, 56], 5, [], 0, 0, ())
def fC : Entry := ((1, rC, ()), 4, [49, 56], 5, [54, 56], 0, 1, ())
theorem do1 : doK zeroE (1, dC, ()) 3 = ((eC, [], [dC], 1, false, ()), 0) := by rfl
theorem do2 : doK eC (4, (0, [], 0, 1, rC, [], ()), ()) 3 = ((fC, [(2, [], 0, 1, rC, [54, 56], ())], [(5, [49, 56], 5, 1, rC, [], ())], 1, false, ()), 0) := by rfl
theorem do3 : doK eC (4, dC, ()) 3 = (zeroS, 1) := by rfl

theorem awake (k : Nat) (hk : 3000 < k) : G45 k () = some (true, ()) := by
  rw [G45_eq]
  have h1 := G47_is k 300 (by omega) (by omega) (by omega) zeroE 1 dC 3 ⟨by decide, by decide, by decide⟩ ⟨by decide, by decide⟩ (by decide) ⟨by decide, by decide⟩ (by decide)
  have h2 := G47_is k 300 (by omega) (by omega) (by omega) eC 4 (0, [], 0, 1, rC, [], ()) 3 ⟨by decide, by decide, by decide⟩ ⟨by decide, by decide⟩ (by decide) ⟨by decide, by decide⟩ (by decide)
  have h3 := G47_is k 300 (by omega) (by omega) (by omega) eC 4 dC 3 ⟨by decide, by decide, by decide⟩ ⟨by decide, by decide⟩ (by decide) ⟨by decide, by decide⟩ (by decide)
  rw [do1] at h1
  rw [do2] at h2
  rw [do3] at h3
  unfold zeroE dC rC at h1
  unfold eC rC at h2
  unfold eC dC rC at h3
  rw [h1, ocall_some]
  simp only [eC, rC, dC] at h2 h3 ⊢
  rw [h2, ocall_some, h3, ocall_some]
  simp [fC, G51_is, sameI, sameS, rC, sel_dec]

theorem stepK_len (e : Entry) (v : G.Event) (tries : Int) : (doK e v tries).1.2.1.length ≤ 2 ∧ (doK e v tries).1.2.2.1.length ≤ 2 := by
  unfold doK stepK
  repeat' split
  all_goals simp [zeroS]

theorem main (e : Entry) (kind : Int) (d : Deal) (tries state : Int) (ge : goodE e) (gt : -9223372036854775808 ≤ e.2.2.2.2.2.1 ∧ e.2.2.2.2.2.1 ≤ 9223372036854775807) (gd : goodD d) : G8 5000 (e, (kind, d, ()), tries, state, ()) = some (true, ()) := by
  have hsd := shortDD 5000 d
  have hse := shortE 5000 e
  have hdo := fun a b => G47_is 5000 300 (by omega) (by omega) (by omega) e kind d tries a ge b gd gt
  have hdr := fun a b => G48_is 5000 300 (by omega) (by omega) (by omega) e kind d tries a ge b gd gt
  have hr1 := fun b => G49_is 5000 300 (by omega) (by omega) (by omega) kind d b gd
  have hr2 := fun b => G50_is 5000 300 (by omega) (by omega) kind d b gd
  have hlen := stepK_len e (kind, d, ()) tries
  have hsm := G52_is 5000 (doK e (kind, d, ()) tries).1 (doK e (kind, d, ()) tries).1 (by omega) (by omega) (by omega)
  have h01 : (doK e (kind, d, ()) tries).2 = 0 ∨ (doK e (kind, d, ()) tries).2 = 1 := by unfold doK; split <;> simp
  rw [decide_eq_true rfl] at hsm
  rw [G8_eq, awake 5000 (by omega), ocall_some]
  obtain ⟨⟨ks, kr, ⟨⟩⟩, st, pan, amt, code, tr, cause, ⟨⟩⟩ := e
  obtain ⟨dk, dpan, damt, stan, rrn, dcode, ⟨⟩⟩ := d
  simp only [Bool.not_true, sel_false]
  rw [hse, ocall_some]
  by_cases h1 : kr.length ≤ 300 ∧ pan.length ≤ 300 ∧ code.length ≤ 300
  case neg => rw [decide_eq_false h1]; rfl
  rw [decide_eq_true h1]
  simp only [Bool.not_true, sel_false]
  rw [hsd, ocall_some]
  by_cases hl : lens 300 (dk, dpan, damt, stan, rrn, dcode, ())
  case neg => rw [decide_eq_false hl]; rfl
  rw [decide_eq_true hl]
  simp only [Bool.not_true, sel_false]
  rw [hdo h1 hl, ocall_some, hdr h1 hl, ocall_some]
  (try simp only [])
  rw [hr1 hl, hr2 hl]
  simp only [ocall_some, beq_self_eq_true, sel_true, G51_is, hsm]
  rcases h01 with h | h <;> rw [h] <;> by_cases c2 : state = 2 <;> by_cases c3 : state = 3 <;> by_cases c5 : state = 5 <;> by_cases c6 : state = 6 <;> simp [sel_dec, c2, c3, c5, c6]

theorem pure (x0 : Ty.den (.st (.cons (.st (.cons (.int .u32) (.cons .str .nil))) (.cons (.int .i64) (.cons .str (.cons (.int .u64) (.cons .str (.cons (.int .i64) (.cons (.int .i64) .nil))))))))) (x1 : Ty.den (.st (.cons (.int .i64) (.cons (.st (.cons (.int .i64) (.cons .str (.cons (.int .u64) (.cons (.int .u32) (.cons .str (.cons .str .nil))))))) .nil)))) (x2 : Ty.den (.int .i64)) (x3 : Ty.den (.int .i64)) (g0 : Ty.Good (.st (.cons (.st (.cons (.int .u32) (.cons .str .nil))) (.cons (.int .i64) (.cons .str (.cons (.int .u64) (.cons .str (.cons (.int .i64) (.cons (.int .i64) .nil)))))))) x0) (g1 : Ty.Good (.st (.cons (.int .i64) (.cons (.st (.cons (.int .i64) (.cons .str (.cons (.int .u64) (.cons (.int .u32) (.cons .str (.cons .str .nil))))))) .nil))) x1) (g2 : Ty.Good (.int .i64) x2) (g3 : Ty.Good (.int .i64) x3) : ∃ k, F8 k (x0, (x1, (x2, (x3, PUnit.unit)))) = some (true, PUnit.unit) :=
  ⟨5000, main x0 x1.1 x1.2.1 x2 x3 ⟨good_u32 g0.1.1, good_u64 g0.2.2.2.1⟩ (good_i64 g0.2.2.2.2.2.1) ⟨good_u64 g1.2.1.2.2.1, good_u32 g1.2.1.2.2.2.1⟩⟩
end Go.Proofs.YtjgnpmdbkgeakaaDoor.PureCoreRight
