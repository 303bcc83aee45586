/- What comes of QueueRow: always true. -/
import Derived.Test.YthglkecbfakmpaaQueue
namespace Go.Proofs.Ythglkecbfakmpaa.PureQueueRow
open Go Go.Proofs.Ythglkecbfakmpaa Th G

theorem right_take (R : Nat) (h1 : 1 ≤ R) (h2 : R ≤ 64) (l : Bs) (h : l.length ≤ R) : qRight (R : Int) l = true := by
  simp [qRight]; omega

theorem loop1 (k : Nat) (hk : 2 ≤ k) (R : Nat) (h1 : 1 ≤ R) (h2 : R ≤ 64) (l : Bs) (hl : l.length ≤ 100) (hb : ∀ x ∈ l, x.length ≤ 3000) (f ar : Int) (al : Bs) : ∀ (j i : Nat), i + j = l.length → ∀ n, j < n →
    G4_11 k n (l, f, ((min i R : Nat) : Int), (i : Int), (R : Int), l.take (min i R), ar, al, ()) = some (.inl (l, f, ((min l.length R : Nat) : Int), (R : Int), l.take (min l.length R), ar, al, ())) := by
  intro j
  induction j with
  | zero =>
    intro i hij n hn
    obtain ⟨n, rfl⟩ : ∃ m, n = m + 1 := ⟨n - 1, by omega⟩
    obtain rfl : i = l.length := by omega
    rw [G4_11_eq, sel_neg (by simp only [ofNat_len]; omega)]
  | succ j ih =>
    intro i hij n hn
    obtain ⟨n, rfl⟩ : ∃ m, n = m + 1 := ⟨n - 1, by omega⟩
    have hlt : i < l.length := by omega
    have hbi := hb l[i] (List.getElem_mem _)
    have hR : qRight (R : Int) (l.take (min i R)) = true := right_take R h1 h2 _ (by rw [List.length_take]; omega)
    have hlen : (l.take (min i R)).length = min i R := by rw [List.length_take]; omega
    rw [G4_11_eq]
    simp only [ofNat_len, Int.toNat_natCast, getD_of hlt]
    rw [sel_pos (by omega), sel_pos (by omega), sel_pos (by omega), G21_is k _ _ [l[i]] hR (by simp; omega) (by simp [maxLen]) (by simpa using by omega)]
    simp only [hlen, List.length_singleton]
    have := ih (i + 1) (by omega) n (by omega)
    by_cases c : i < R
    · have e1 : min i R = i := by omega
      have e2 : min (i + 1) R = i + 1 := by omega
      rw [e2] at this
      rw [if_pos (by omega), e1]
      have hR2 : qRight (R : Int) (l.take i ++ [l[i]]) = true := right_take R h1 h2 _ (by simp; omega)
      simp only [ocall_some, decide_true, G25_is, hR2]
      have c' : (i : Int) < (R : Int) := by omega
      simp only [c', decide_true]
      simp
      rw [wrap64 (by omega) (by omega)]
      exact this
    · have e1 : min i R = R := by omega
      have e2 : min (i + 1) R = R := by omega
      rw [e2] at this
      rw [if_neg (by omega), e1]
      rw [e1] at hR
      simp only [ocall_some, G25_is, hR]
      simp
      rw [wrap64 (by omega) (by omega)]
      exact this

theorem loop2 (k : Nat) (hk : 2 ≤ k) (R m : Nat) (h1 : 1 ≤ R) (h2 : R ≤ 64) (l : Bs) (hm : m ≤ R) (hml : m ≤ l.length) (hb : ∀ x ∈ l, x.length ≤ 3000) : ∀ (j i : Nat), i + j = m → ∀ n, j < n →
    G4_23 k n (l, (m : Int), l.take i, (i : Int), (R : Int), (l.take m).drop i, ()) = some (.inl (l, (m : Int), l.take m, (R : Int), [], ())) := by
  intro j
  induction j with
  | zero =>
    intro i hij n hn
    obtain ⟨n, rfl⟩ : ∃ m, n = m + 1 := ⟨n - 1, by omega⟩
    obtain rfl : i = m := by omega
    rw [G4_23_eq, sel_neg (by simp only []; omega)]
    simp
  | succ j ih =>
    intro i hij n hn
    obtain ⟨n, rfl⟩ : ∃ m, n = m + 1 := ⟨n - 1, by omega⟩
    have hlt : i < l.length := by omega
    have hbi := hb l[i] (List.getElem_mem _)
    have e : (l.take m).drop i = l[i] :: (l.take m).drop (i + 1) := by
      rw [List.drop_eq_getElem_cons (by rw [List.length_take]; omega)]
      simp
    have hlen : ((l.take m).drop (i + 1)).length = m - (i + 1) := by simp; omega
    have hR : qRight (R : Int) (l[i] :: (l.take m).drop (i + 1)) = true := right_take R h1 h2 _ (by rw [List.length_cons, hlen]; omega)
    have hR' : qRight (R : Int) ((l.take m).drop (i + 1)) = true := right_take R h1 h2 _ (by rw [hlen]; omega)
    have := ih (i + 1) (by omega) n (by omega)
    rw [List.take_add_one, List.getElem?_eq_getElem hlt] at this
    rw [G4_23_eq, e]
    simp only []
    rw [sel_pos (by omega), G23_is k _ _ _ hR (by omega)]
    simp only [ocall_some, G26_is k _ _ hR', G26_is k _ _ hR, decide_true, Bool.not_true, sel_false, List.length_cons, hlen]
    rw [wrap64 (by omega) (by omega), wrap64 (by omega) (by omega), sel_not, sel_pos (by omega), sel_pos (by simp only [List.length_take]; omega)]
    exact this

theorem pure (x0 : Ty.den (.int .u8)) (x1 : Ty.den (.slice (.slice (.int .u8)))) (g0 : Ty.Good (.int .u8) x0) (g1 : Ty.Good (.slice (.slice (.int .u8))) x1) : ∃ k, F4 k (x0, (x1, PUnit.unit)) = some (true, PUnit.unit) := by
  have a := good_u8 g0
  obtain ⟨hl, -⟩ := g1
  clear g0
  revert x0 x1
  show ∀ (x0 : Int) (x1 : Bs), 0 ≤ x0 ∧ x0 ≤ 255 → x1.length ≤ maxLen → ∃ k, G4 k (x0, (x1, ())) = some (true, ())
  intro r l ⟨hr1, hr2⟩ hl
  refine ⟨1000, ?_⟩
  rw [G4_eq, G16_is 1000 (by omega)]
  simp only [ocall_some, Bool.not_true, sel_false, ofNat_len]
  by_cases c : (100 : Int) < l.length
  · rw [sel_pos c]
  rw [sel_neg c]
  rcases G17_is 1000 (by omega) l hl with h | ⟨h, hll, hb⟩
  · rw [h]; rfl
  rw [h]
  simp only [ocall_some, Bool.not_true, sel_false]
  obtain ⟨R, hR, h1, h2⟩ : ∃ R : Nat, IntKind.i64.wrap ((IntKind.i64.wrap r).tmod 64 + 1) = (R : Int) ∧ 1 ≤ R ∧ R ≤ 64 := by
    have e1 : r.tmod 64 = r % 64 := Int.tmod_eq_emod_of_nonneg hr1
    refine ⟨(r % 64 + 1).toNat, ?_, by omega, by omega⟩
    rw [wrap64 (n := r) (by omega) (by omega), e1, wrap64 (by omega) (by omega)]
    omega
  rw [hR, G18_is 1000 _ (by omega) (by omega)]
  simp only [ocall_some, decide_true, Bool.not_true, sel_false]
  have hR0 : qRight (R : Int) [] = true := right_take R h1 h2 _ (by simp)
  rw [G21_is 1000 _ [] l hR0 (by omega) hl (fun x hx => by have := hb x hx; omega)]
  simp only [ocall_some, List.length_nil, List.nil_append]
  have hL1 := fun f ar al => loop1 1000 (by omega) R h1 h2 l (by omega) hb f ar al l.length 0 (by omega) 1000 (by omega)
  simp only [Nat.zero_min, List.take_zero, Int.natCast_zero] at hL1
  have hmin : (l.take (min l.length R)).length = min l.length R := by rw [List.length_take]; omega
  have hL2 := loop2 1000 (by omega) R (min l.length R) h1 h2 l (by omega) (by omega) hb (min l.length R) 0 (by omega) 1000 (by omega)
  simp only [List.take_zero, List.drop_zero, Int.natCast_zero] at hL2
  by_cases d : l.length ≤ R
  · rw [if_pos (by omega)]
    simp only [hL1, ocall_some, esel_inl, ofNat_len]
    have e1 : min l.length R = l.length := by omega
    rw [e1] at hL2 hmin ⊢
    rw [List.take_of_length_le (Nat.le_refl _)] at hL2 hmin ⊢
    have e2 : (l.length : Int) ≤ (R : Int) := by omega
    simp only [e2, decide_true, Bool.not_true, sel_true]
    rw [G19_is 1000 _ _ hl (by omega)]
    simp only [ocall_some, Bool.not_true, sel_false, hL2, esel_inl]
    rw [G23_nil 1000 _ hR0]
    simp only [ocall_some, Bool.not_true, Bool.not_false, beq_true, beq_false, sel_false, decide_true, sel_true]
    rw [sel_pos (by simp only [Int.ofNat_eq_natCast]; omega), sel_pos (by omega), sel_pos (by omega)]
    simp only [Int.toNat_natCast, List.take_of_length_le (Nat.le_refl _)]
    rw [show (Int.ofNat 0).toNat = 0 from rfl, List.drop_zero, G27_is 1000 l hl (by omega)]
    rfl
  · rw [if_neg (by omega)]
    simp only [hL1, ocall_some, esel_inl, ofNat_len]
    have e2 : ¬ (l.length : Int) ≤ (R : Int) := by omega
    simp only [e2, decide_false]
    rw [show (decide ((7 : Int) = 0)) = false from rfl]
    simp only [Bool.not_true, Bool.not_false, beq_true, beq_false, sel_false, sel_true]
    simp only [hL2, ocall_some, esel_inl]
    rw [G23_nil 1000 _ hR0]
    simp only [ocall_some, Bool.not_true, Bool.not_false, beq_true, beq_false, sel_false, decide_true, sel_true]
    rw [sel_pos (by simp only [Int.ofNat_eq_natCast]; omega), sel_pos (by omega), sel_pos (by omega)]
    simp only [Int.toNat_natCast]
    rw [show (Int.ofNat 0).toNat = 0 from rfl, List.drop_zero, G27_is 1000 _ (by rw [hmin]; omega) (by rw [hmin]; omega)]
    rfl
end Go.Proofs.Ythglkecbfakmpaa.PureQueueRow
