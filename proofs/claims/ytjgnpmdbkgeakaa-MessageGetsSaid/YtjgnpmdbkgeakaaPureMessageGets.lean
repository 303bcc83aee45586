/- What comes of MessageGets: always true. -/
import Derived.Test.YtjgnpmdbkgeakaaPureMessageRight
set_option linter.unusedVariables false
set_option linter.unusedSimpArgs false
set_option maxRecDepth 100000
namespace Go.Proofs.Ytjgnpmdbkgeakaa.PureMessageGets
open Go Go.Proofs.Ytjgnpmdbkgeakaa Th G Bits PureMessageRight

theorem getM_at : ∀ (l : List G.Item), (l.map (·.1)).Pairwise (· < ·) → ∀ x ∈ l, getM x.1 l = (x.2.1, true) := by
  intro l
  induction l with
  | nil => intro _ x hx; exact absurd hx (by simp)
  | cons y l ih =>
    intro h x hx
    rw [List.map_cons, List.pairwise_cons] at h
    unfold getM
    rcases List.mem_cons.1 hx with rfl | hx
    · rw [if_pos rfl]
    · have := h.1 x.1 (List.mem_map.2 ⟨x, hx, rfl⟩)
      rw [if_neg (by omega)]
      exact ih h.2 x hx
theorem getM_has (n : Int) : ∀ (l : List G.Item), (getM n l).2 = l.any fun x => decide (x.1 = n) := by
  intro l
  induction l with
  | nil => rfl
  | cons y l ih =>
    unfold getM
    by_cases c : y.1 = n
    · rw [if_pos c]; simp [c]
    · rw [if_neg c, ih]; simp [c]

theorem loop (typ : Txt) (l : List G.Item) (hl : l.length ≤ 200) (hs : (l.map (·.1)).Pairwise (· < ·)) (n : Int) : ∀ (j i : Nat), i + j = l.length → ∀ (has : Bool) (c : Nat), j < c →
    G8_7 6000 c (n, has, (i : Int), typ, l, ()) = some (.inl (n, has || (l.drop i).any fun x => decide (x.1 = n), typ, l, ())) := by
  intro j
  induction j with
  | zero =>
    intro i hij has c hc
    obtain ⟨c, rfl⟩ : ∃ m, c = m + 1 := ⟨c - 1, by omega⟩
    rw [G8_7_eq, sel_neg (by simp only [ofNat_len]; omega), List.drop_eq_nil_of_le (by omega)]
    simp
  | succ j ih =>
    intro i hij has c hc
    obtain ⟨c, rfl⟩ : ∃ m, c = m + 1 := ⟨c - 1, by omega⟩
    have hlt : i < l.length := by omega
    have hpl : (i : Int) < Int.ofNat l.length := by simp only [ofNat_len]; omega
    have h0 : (0 : Int) ≤ (i : Int) := by omega
    have next := fun has => ih (i + 1) (by omega) has c (by omega)
    simp only [Int.natCast_add, Int.natCast_one] at next
    rw [G8_7_eq, sel_pos hpl, sel_pos h0, sel_pos hpl]
    simp only [Int.toNat_natCast, getD_of hlt]
    rw [G23_is 6000 _ typ l (by omega) (by omega), ocall_some, getM_at l hs l[i] (List.getElem_mem _)]
    simp only [Bool.not_true, sel_false]
    rw [sel_pos h0, sel_pos hpl, sel_not, sel_pos trivial, sel_pos h0, sel_pos hpl, wrap64 (by omega) (by omega), next, next, List.drop_eq_getElem_cons hlt]
    rw [List.any_cons]
    cases has with
    | true => simp only [sel_true, Bool.true_or]
    | false => simp only [sel_false, Bool.false_or]

theorem main (typ : Txt) (l : List G.Item) (n : Int) : G8 6000 ((typ, l, ()), n, ()) = some (true, ()) := by
  rw [G8_eq, awake 6000 (by omega), ocall_some]
  simp only [Bool.not_true, sel_false]
  obtain ⟨s, hs, hs2⟩ := G19_is 6000 (by omega) typ l
  rw [hs, ocall_some]
  cases s with
  | false => rfl
  | true =>
  simp only [Bool.not_true, sel_false]
  obtain ⟨hm1, hm2, hm3⟩ := hs2 rfl
  have hl2 : l.length ≤ 200 := hm2
  have hx : ∀ x ∈ l, x.2.1.length ≤ maxLen ∧ x.2.1.length < 6000 := fun x hx => by
    have : x.2.1.length ≤ 1200 := hm3 x hx
    rw [maxLen_eq]; omega
  rw [G27_is 6000 (by omega) typ l (by omega) (by omega) hx, ocall_some]
  cases hr : msgRight (typ, l, ()) with
  | false => rfl
  | true =>
  simp only [Bool.not_true, sel_false]
  obtain ⟨_, h2, _⟩ := items_ok l 0 (msg_parts.1 hr).1
  have hlp := loop typ l hl2 h2 n l.length 0 (by omega) false 6000 (by omega)
  rw [List.drop_zero, Int.natCast_zero, Bool.false_or, ← getM_has n l] at hlp
  rw [hlp, ocall_some, esel_inl]
  (try simp only [])
  rw [G23_is 6000 n typ l (by omega) (by omega), ocall_some]
  simp only [beq_self_eq_true, sel_true]
  cases hg : (getM n l).2 with
  | true => rfl
  | false => rw [sel_false, getM_none hg]; rfl

theorem pure (x0 : Ty.den (.st (.cons .str (.cons (.slice (.st (.cons (.int .i64) (.cons .str .nil)))) .nil)))) (x1 : Ty.den (.int .i64)) (g0 : Ty.Good (.st (.cons .str (.cons (.slice (.st (.cons (.int .i64) (.cons .str .nil)))) .nil))) x0) (g1 : Ty.Good (.int .i64) x1) : ∃ k, F8 k (x0, (x1, PUnit.unit)) = some (true, PUnit.unit) :=
  ⟨6000, main x0.1 x0.2.1 x1⟩
end Go.Proofs.Ytjgnpmdbkgeakaa.PureMessageGets
