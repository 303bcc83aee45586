/- What comes of the laws of keys: always true. -/
import Derived.Test.YtjgnpmdbkgeakaaDoorKey
set_option linter.unusedVariables false
set_option linter.unusedSimpArgs false
namespace Go.Proofs.YtjgnpmdbkgeakaaDoor.PureKeyOrder
open Go Go.Proofs.YtjgnpmdbkgeakaaDoor Th G

def kA : Key := (1, [82, 82, 78, 48, 48, 48, 48, 48, 48, 48, 48, 50], ())
def kB : Key := (2, [82, 82, 78, 48, 48, 48, 48, 48, 48, 48, 48, 49], ())

theorem awake (k : Nat) (hk : 1000 < k) : G23 k () = some (true, ()) := by
  rw [G23_eq]
  have o1 := G29_is k (by omega) kA kB
  have o2 := G29_is k (by omega) kB kA
  have r1 := G27_is k 300 (by omega) (by omega) kA (by decide) (by omega) ⟨by decide, by decide⟩
  have r2 := G27_is k 300 (by omega) (by omega) ((0, [], ()) : Key) (by decide) (by omega) ⟨by decide, by decide⟩
  have s1 := G31_is k 300 (by omega) (by omega) (by omega) kA 1 (by decide) ⟨by decide, by decide⟩
  have s2 := G31_is k 300 (by omega) (by omega) (by omega) kA 0 (by decide) ⟨by decide, by decide⟩
  unfold kA kB at o1 o2
  unfold kA at r1 s1 s2
  have e1 : ordK ((1, [82, 82, 78, 48, 48, 48, 48, 48, 48, 48, 48, 50], ()) : Key) ((2, [82, 82, 78, 48, 48, 48, 48, 48, 48, 48, 48, 49], ()) : Key) = -1 := by decide
  have e2 : ordK ((2, [82, 82, 78, 48, 48, 48, 48, 48, 48, 48, 48, 49], ()) : Key) ((1, [82, 82, 78, 48, 48, 48, 48, 48, 48, 48, 48, 50], ()) : Key) = 1 := by decide
  have e3 : keyOK ((1, [82, 82, 78, 48, 48, 48, 48, 48, 48, 48, 48, 50], ()) : Key) = true := by decide
  have e4 : keyOK ((0, [], ()) : Key) = false := by decide
  have e5 : shardK ((1, [82, 82, 78, 48, 48, 48, 48, 48, 48, 48, 48, 50], ()) : Key) 1 = 0 := by
    unfold shardK; rw [if_pos ⟨e3, by omega, by omega⟩]; omega
  have e6 : shardK ((1, [82, 82, 78, 48, 48, 48, 48, 48, 48, 48, 48, 50], ()) : Key) 0 = -1 := by
    unfold shardK; rw [if_neg (by rintro ⟨_, h, _⟩; omega)]
  rw [o1, ocall_some, e1, sel_pos rfl, o2, ocall_some, e2, sel_pos rfl, r1, ocall_some, e3, sel_true, r2, ocall_some, e4]
  simp only [Bool.not_false, sel_true]
  rw [s1, ocall_some, e5, sel_pos rfl, s2, ocall_some, e6, sel_pos rfl, G26_is, ocall_some]
  rfl

theorem short (k : Nat) (a : Key) : G25 k (a, ()) = some (decide (a.2.1.length ≤ 300), ()) := by
  rw [G25_eq]
  have : decide ((Int.ofNat a.2.1.length) ≤ 300) = decide (a.2.1.length ≤ 300) := decide_eq_decide.2 (by simp only [Int.ofNat_eq_natCast]; omega)
  simp only [this]

theorem shortD (k : Nat) (d : Deal) : G24 k (d, ()) = some (decide (lens 300 d), ()) := by
  obtain ⟨kind, pan, amt, stan, rrn, code, ⟨⟩⟩ := d
  rw [G24_eq]
  simp only [ofNat_len]
  by_cases h : lens 300 (kind, pan, amt, stan, rrn, code, ())
  · have h1 : pan.length ≤ 300 := h.1
    have h2 : rrn.length ≤ 300 := h.2.1
    have h3 : code.length ≤ 300 := h.2.2
    rw [sel_pos (by omega), sel_pos (by omega), decide_eq_true h, decide_eq_true (show (code.length : Int) ≤ 300 by omega)]
  · rw [decide_eq_false h]
    by_cases h1 : pan.length ≤ 300
    · rw [sel_pos (by omega)]
      by_cases h2 : rrn.length ≤ 300
      · have h3 : ¬ code.length ≤ 300 := fun e => h ⟨h1, h2, e⟩
        rw [sel_pos (by omega), decide_eq_false (show ¬ (code.length : Int) ≤ 300 by omega)]
      · rw [sel_neg (by omega)]
    · rw [sel_neg (by omega)]

theorem main (a b c : Key) : G4 5000 (a, b, c, ()) = some (true, ()) := by
  obtain ⟨a1, a2, ⟨⟩⟩ := a
  obtain ⟨b1, b2, ⟨⟩⟩ := b
  obtain ⟨c1, c2, ⟨⟩⟩ := c
  rw [G4_eq, awake 5000 (by omega), ocall_some]
  simp only [Bool.not_true, sel_false, short, ocall_some]
  by_cases h1 : a2.length ≤ 300
  case neg => rw [decide_eq_false h1]; rfl
  by_cases h2 : b2.length ≤ 300
  case neg => rw [decide_eq_true h1, decide_eq_false h2]; rfl
  by_cases h3 : c2.length ≤ 300
  case neg => rw [decide_eq_true h1, decide_eq_true h2, decide_eq_false h3]; rfl
  rw [decide_eq_true h1, decide_eq_true h2, decide_eq_true h3]
  simp only [Bool.not_true, sel_false]
  rw [G29_is 5000 (by omega), ocall_some, G29_is 5000 (by omega), ocall_some, G29_is 5000 (by omega), ocall_some, G29_is 5000 (by omega), ocall_some]
  have hs := sameK (a1, a2, ()) (b1, b2, ())
  simp only [] at hs
  have hz := @ordK_zero (a1, a2, ()) (b1, b2, ())
  have hf := ordK_flip (a1, a2, ()) (b1, b2, ())
  have t1 := @ordK_trans (a1, a2, ()) (b1, b2, ()) (c1, c2, ())
  have zx := @ordK_zero (a1, a2, ()) (b1, b2, ())
  have zy := @ordK_zero (b1, b2, ()) (c1, c2, ())
  have cx := ordK_cases (a1, a2, ()) (b1, b2, ())
  have cy := ordK_cases (b1, b2, ()) (c1, c2, ())
  have hxz : ordK (a1, a2, ()) (b1, b2, ()) = 0 → ordK (a1, a2, ()) (c1, c2, ()) = ordK (b1, b2, ()) (c1, c2, ()) := fun e => by rw [zx.1 e]
  have hyz : ordK (b1, b2, ()) (c1, c2, ()) = 0 → ordK (a1, a2, ()) (c1, c2, ()) = ordK (a1, a2, ()) (b1, b2, ()) := fun e => by rw [zy.1 e]
  have hb : (decide (ordK (a1, a2, ()) (b1, b2, ()) = 0) == (sameI a1 b1 && (sameS a2 b2 && true))) = true := by
    rw [hs, beq_iff_eq]
    exact decide_eq_decide.2 hz
  rw [hf]
  generalize ordK (a1, a2, ()) (b1, b2, ()) = x at *
  generalize ordK (b1, b2, ()) (c1, c2, ()) = y at *
  generalize ordK (a1, a2, ()) (c1, c2, ()) = z at *
  simp only []
  rw [wrap64 (by omega) (by omega), sel_pos (by omega), hb, sel_true]
  clear hs hz hf zx zy hb
  rcases cx with rfl | rfl | rfl
  · rcases cy with rfl | rfl | rfl
    · rw [t1 rfl rfl]; rfl
    · rw [hyz rfl]; rfl
    · rfl
  · rw [hxz rfl]
    rcases cy with rfl | rfl | rfl <;> rfl
  · rfl

theorem pure (x0 : Ty.den (.st (.cons (.int .u32) (.cons .str .nil)))) (x1 : Ty.den (.st (.cons (.int .u32) (.cons .str .nil)))) (x2 : Ty.den (.st (.cons (.int .u32) (.cons .str .nil)))) (g0 : Ty.Good (.st (.cons (.int .u32) (.cons .str .nil))) x0) (g1 : Ty.Good (.st (.cons (.int .u32) (.cons .str .nil))) x1) (g2 : Ty.Good (.st (.cons (.int .u32) (.cons .str .nil))) x2) : ∃ k, F4 k (x0, (x1, (x2, PUnit.unit))) = some (true, PUnit.unit) := ⟨5000, main x0 x1 x2⟩
end Go.Proofs.YtjgnpmdbkgeakaaDoor.PureKeyOrder
