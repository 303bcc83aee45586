/- What comes of FieldKnown: always true. -/
import Derived.Test.YtjgnpmdbkgeakaaField2
import Derived.KernelRfl
set_option linter.unusedVariables false
set_option linter.unusedSimpArgs false
set_option maxRecDepth 100000
namespace Go.Proofs.Ytjgnpmdbkgeakaa.PureFieldKnown
open Go Go.Proofs.Ytjgnpmdbkgeakaa Th G

theorem G9_is (k : Nat) (hk : 1100 < k) : G9 k () = some (true, ()) := by
  rw [G9_eq, G12_is k (by omega) 2 (2, 3, 19, ()) (by kernel_rfl) _ (by simp) (by simp; omega), G16_is k hk 2 (2, 3, 19, ()) (by kernel_rfl) _ (by simp), G10_is k (by omega), G12_is k (by omega) 11 (11, 1, 6, ()) (by kernel_rfl) _ (by simp) (by simp; omega),
    G14_is k (by omega) 39 _ (by simp [maxLen]) (by simp; omega)]
  simp only [ocall_some]
  kernel_rfl

def cnt (i : Nat) : Nat → Nat
  | 0 => 0
  | j + 1 => (if (defOf (i : Int)).isSome = true then 1 else 0) + cnt (i + 1) j

theorem cnt_le (j : Nat) : ∀ i, cnt i j ≤ j := by
  induction j with
  | zero => intro i; exact Nat.le_refl _
  | succ j ih => intro i; have := ih (i + 1); simp only [cnt]; split <;> omega

theorem loop (k : Nat) (hk : 20 < k) (n : Int) (s : List UInt8) : ∀ (j i m : Nat), i + j = 131 → m ≤ 131 - j → ∀ q, j < q → G5_7 k q (n, s, (m : Int), (i : Int), ()) = some (.inl (n, s, ((m + cnt i j : Nat) : Int), ())) := by
  intro j
  induction j with
  | zero =>
    intro i m hij hm q hq
    obtain ⟨q, rfl⟩ : ∃ z, q = z + 1 := ⟨q - 1, by omega⟩
    rw [G5_7_eq, sel_neg (by simp only []; omega)]
    rfl
  | succ j ih =>
    intro i m hij hm q hq
    obtain ⟨q, rfl⟩ : ∃ z, q = z + 1 := ⟨q - 1, by omega⟩
    rw [G5_7_eq, sel_pos (by simp only []; omega), G10_is k hk, ocall_some]
    unfold defR
    simp only [cnt]
    cases hd : defOf (i : Int) with
    | none =>
      simp only [sel_false, Option.isSome_none, Bool.false_eq_true, if_false, Nat.zero_add]
      rw [show (decide ((0 : Int) < 0)) = false from rfl]
      simp only [beq_self_eq_true, Bool.not_true, sel_false]
      rw [wrap64 (by omega) (by omega)]
      exact ih (i + 1) m (by omega) (by omega) q (by omega)
    | some d =>
      obtain ⟨hm1, hm2⟩ := defOf_mem hd
      obtain ⟨_, _, h3, h4, h5, _⟩ := D_all d hm1
      simp only [sel_true, Option.isSome_some, if_true]
      rw [decide_eq_true (show (0 : Int) < d.2.2.1 by omega)]
      simp only [beq_self_eq_true, Bool.not_true, sel_false, hm2, decide_true]
      rw [sel_neg (by omega), sel_neg (by omega), wrap64 (by omega) (by omega), wrap64 (by omega) (by omega)]
      have := ih (i + 1) (m + 1) (by omega) (by omega) q (by omega)
      rw [show m + 1 + cnt (i + 1) j = m + (1 + cnt (i + 1) j) from by omega] at this
      exact this

theorem cnt_all : cnt 0 131 = 15 := by kernel_rfl

theorem main (n : Int) (s : List UInt8) (hs : s.length ≤ 140737488351232) : G5 5000 (n, s, ()) = some (true, ()) := by
  rw [G5_eq, G9_is 5000 (by omega), ocall_some]
  simp only [Bool.not_true, sel_false, ofNat_len]
  by_cases c : (3000 : Int) < s.length
  · rw [sel_pos c]
  rw [sel_neg c]
  have hL := loop 5000 (by omega) n s 131 0 0 rfl (by omega) 5000 (by omega)
  rw [Nat.zero_add, cnt_all] at hL
  have hL' : G5_7 5000 5000 (n, s, 0, 0, ()) = some (.inl (n, s, 15, ())) := hL
  rw [hL', ocall_some, esel_inl, G10_is 5000 (by omega), ocall_some]
  unfold defR
  cases hd : defOf n with
  | some d =>
    obtain ⟨hm1, hm2⟩ := defOf_mem hd
    obtain ⟨h1, h2, _⟩ := D_all d hm1
    rw [hm2] at h1 h2
    simp only [sel_true, decide_true, hm2, h1, h2]
  | none =>
    simp only [sel_false]
    rw [show (!(sameI (0 : Int) (OfNat.ofNat 0) && (sameI (0 : Int) (OfNat.ofNat 0) && (sameI (0 : Int) (OfNat.ofNat 0) && true)))) = false from rfl, sel_false]
    rw [G12_none 5000 (by omega) n s hd, G16_none 5000 (by omega) n _ hd, G14_is 5000 (by omega) n s (by rw [maxLen_eq]; omega) (by omega)]
    have : rightF n s = false := by unfold rightF; rw [hd]
    rw [this]
    simp only [ocall_some, decide_true, sel_true, Bool.not_false]

theorem pure (x0 : Ty.den (.int .i64)) (x1 : Ty.den .str) (g0 : Ty.Good (.int .i64) x0) (g1 : Ty.Good .str x1) : ∃ k, F5 k (x0, (x1, PUnit.unit)) = some (true, PUnit.unit) :=
  ⟨5000, main x0 x1 g1⟩
end Go.Proofs.Ytjgnpmdbkgeakaa.PureFieldKnown
