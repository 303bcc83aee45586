/- Sameness of steps, and the fixed answer of the core's laws. -/
import Derived.Test.YtjgnpmdbkgeakaaDoorCore3
set_option linter.unusedVariables false
set_option linter.unusedSimpArgs false
set_option maxRecDepth 100000
namespace Go.Proofs.YtjgnpmdbkgeakaaDoor.G
open Go Go.Proofs.YtjgnpmdbkgeakaaDoor Th

theorem G129_4_is (k : Nat) (a b : List Deal) (hab : a.length = b.length) (hl : a.length ≤ 1000000000) : ∀ (j i : Nat), i + j = a.length → ∀ n, j < n →
    G129_4 k n (a, b, (i : Int), ()) = some (sel (decide (a.drop i = b.drop i)) (.inl ()) (.inr (false, ()))) := by
  intro j
  induction j with
  | zero =>
    intro i hij n hn
    obtain ⟨n, rfl⟩ : ∃ m, n = m + 1 := ⟨n - 1, by omega⟩
    rw [G129_4_eq, sel_neg (by simp only [ofNat_len]; omega), List.drop_eq_nil_of_le (by omega), List.drop_eq_nil_of_le (by omega)]
    rfl
  | succ j ih =>
    intro i hij n hn
    obtain ⟨n, rfl⟩ : ∃ m, n = m + 1 := ⟨n - 1, by omega⟩
    have hlt : i < a.length := by omega
    have hlt' : i < b.length := by omega
    rw [G129_4_eq]
    simp only [ofNat_len, Int.toNat_natCast, getD_of hlt, getD_of hlt']
    rw [sel_pos (by omega), sel_pos (by omega), sel_pos (by omega), sel_pos (by omega), sel_pos (by omega), sameD, drop_at hlt, drop_at hlt', wrap64 (by omega) (by omega)]
    simp only [List.cons.injEq]
    by_cases c : a[i] = b[i]
    · rw [decide_eq_true c, Bool.not_true, sel_false]
      have := ih (i + 1) (by omega) n (by omega)
      simp only [Int.natCast_add, Int.natCast_one] at this
      rw [this]
      have e : decide (a[i] = b[i] ∧ a.drop (i + 1) = b.drop (i + 1)) = decide (a.drop (i + 1) = b.drop (i + 1)) := decide_eq_decide.2 ⟨fun h => h.2, fun h => ⟨c, h⟩⟩
      rw [e]
    · rw [decide_eq_false c, Bool.not_false, sel_true, decide_eq_false (fun h => c h.1)]; rfl

theorem G129_is (k : Nat) (a b : List Deal) (hl : a.length ≤ 1000000000) (hk : a.length < k) : G129 k (a, b, ()) = some (decide (a = b), ()) := by
  rw [G129_eq]
  simp only [ofNat_len]
  by_cases h2 : a.length = b.length
  case neg =>
    rw [decide_eq_false (show ¬ (a.length : Int) = (b.length : Int) by omega), Bool.not_false, sel_true, decide_eq_false (fun e => h2 (by rw [e]))]
  rw [decide_eq_true (show (a.length : Int) = (b.length : Int) by omega), Bool.not_true, sel_false]
  have := G129_4_is k a b h2 hl a.length 0 (by omega) k hk
  simp only [List.drop_zero, Int.natCast_zero] at this
  rw [this, ocall_some]
  cases decide (a = b) <;> rfl

set_option synthInstance.maxSize 8000 in
set_option synthInstance.maxHeartbeats 800000 in
instance decSt : DecidableEq Step := fun a b => inferInstanceAs (Decidable ((a : Entry × List Deal × List Deal × Int × Bool × Unit) = b))

theorem G52_is (k : Nat) (a b : Step) (ha : a.2.1.length ≤ 100) (hb : a.2.2.1.length ≤ 100) (hk : 200 < k) : G52 k (a, b, ()) = some (decide (a = b), ()) := by
  have hs := sameE a.1 b.1
  have h1 := G129_is k a.2.1 b.2.1 (by omega) (by omega)
  have h2 := G129_is k a.2.2.1 b.2.2.1 (by omega) (by omega)
  obtain ⟨ae, aa, ai, at_, ar, ⟨⟩⟩ := a
  obtain ⟨be, ba, bi, bt, br, ⟨⟩⟩ := b
  (try simp only [] at hs h1 h2)
  rw [G52_eq]
  simp only [hs, h1, h2, ocall_some]
  by_cases c1 : ae = be
  case neg => rw [sel_neg c1, decide_eq_false (fun e => c1 (congrArg Prod.fst e))]
  rw [sel_pos c1]
  by_cases c2 : aa = ba
  case neg => rw [sel_neg c2, decide_eq_false (fun e => c2 (congrArg (fun s : Step => s.2.1) e))]
  rw [sel_pos c2]
  by_cases c3 : ai = bi
  case neg => rw [sel_neg c3, decide_eq_false (fun e => c3 (congrArg (fun s : Step => s.2.2.1) e))]
  rw [sel_pos c3]
  by_cases c4 : at_ = bt
  case neg => rw [sel_neg c4, decide_eq_false (fun e => c4 (congrArg (fun s : Step => s.2.2.2.1) e))]
  rw [sel_pos c4]
  subst c1 c2 c3 c4
  cases ar <;> cases br <;> simp
end Go.Proofs.YtjgnpmdbkgeakaaDoor.G
