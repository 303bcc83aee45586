/- The statement HandRight, out of what its function answers. No condition. -/
import Derived.Test.YtmkgkgamkeeneaaQHandRight2
import Derived.Test.YtmkgkgamkeeneaaRows
import Derived.Carry
section
set_option linter.unusedVariables false
set_option linter.unusedSimpArgs false
set_option maxRecDepth 100000
namespace Go.Proofs.Ytmkgkgamkeeneaa.G
open Go Go.Proofs.Ytmkgkgamkeeneaa Th Ieee
theorem isI_sum {s t : Bool} {a b : Int} {i j : Nat} (hi : i ≤ 1074) (hj : j ≤ 1074) (ha : a ≠ 0 → s = decide (a < 0)) (hb : b ≠ 0 → t = decide (b < 0)) (hab : (a + b).natAbs < 2 ^ 53) :
    ∃ z, ((Datum.number s (a.natAbs * 2 ^ i) (-(i : Int))).sum (.number t (b.natAbs * 2 ^ j) (-(j : Int)))).map Ieee.double.write = some z ∧ isI z (a + b) := by
  unfold Datum.sum
  simp only [Option.map_some]
  have key : ∀ u : Nat, u ≤ 1074 → i ≤ u → j ≤ u → min (-(i : Int)) (-(j : Int)) = -(u : Int) → ∃ z, some (Ieee.double.write (.number (if signed s (a.natAbs * 2 ^ i) (-(i : Int) - min (-(i : Int)) (-(j : Int))).toNat + signed t (b.natAbs * 2 ^ j) (-(j : Int) - min (-(i : Int)) (-(j : Int))).toNat = 0 then s && t else decide (signed s (a.natAbs * 2 ^ i) (-(i : Int) - min (-(i : Int)) (-(j : Int))).toNat + signed t (b.natAbs * 2 ^ j) (-(j : Int) - min (-(i : Int)) (-(j : Int))).toNat < 0)) (signed s (a.natAbs * 2 ^ i) (-(i : Int) - min (-(i : Int)) (-(j : Int))).toNat + signed t (b.natAbs * 2 ^ j) (-(j : Int) - min (-(i : Int)) (-(j : Int))).toNat).natAbs (min (-(i : Int)) (-(j : Int))))) = some z ∧ isI z (a + b) := by
    intro u hu hiu hju hm
    rw [hm, signed_of ha hiu, signed_of hb hju, ← Int.add_mul]
    have hp := pow_pos' u
    have e1 : ((a + b) * ((2 ^ u : Nat) : Int)).natAbs = (a + b).natAbs * 2 ^ u := by rw [Int.natAbs_mul, Int.natAbs_natCast]
    rw [e1]
    refine ⟨_, rfl, ?_⟩
    show isI (Ieee.double.nearest _ ((a + b).natAbs * 2 ^ u) (-(u : Int))) (a + b)
    refine isI_nearest _ _ u hu hab (fun h0 => ?_)
    have hne : ¬ (a + b) * ((2 ^ u : Nat) : Int) = 0 := fun e => by
      rcases Int.mul_eq_zero.1 e with e | e
      · exact h0 e
      · omega
    rw [if_neg hne]
    by_cases hl : a + b < 0
    · rw [decide_eq_true hl]
      exact decide_eq_true (Int.mul_neg_of_neg_of_pos hl hp)
    · rw [decide_eq_false hl]
      refine decide_eq_false (Int.not_lt.2 (Int.mul_nonneg (by omega) (by omega)))
  rcases Nat.le_total i j with c | c
  · exact key j hj c (Nat.le_refl _) (by omega)
  · exact key i hi (Nat.le_refl _) c (by omega)
theorem isI_add {x y : Nat} {a b : Int} (hx : isI x a) (hy : isI y b) (hab : (a + b).natAbs < 2 ^ 53) : ∃ z, Ieee.double.add x y = some z ∧ isI z (a + b) := by
  obtain ⟨s, i, hi, hr, hs⟩ := hx
  obtain ⟨t, j, hj, hq, ht⟩ := hy
  unfold Format.add
  rw [hr, hq]
  exact isI_sum hi hj hs ht hab
theorem isI_sub {x y : Nat} {a b : Int} (hx : isI x a) (hy : isI y b) (hab : (a - b).natAbs < 2 ^ 53) : ∃ z, Ieee.double.sub x y = some z ∧ isI z (a - b) := by
  obtain ⟨s, i, hi, hr, hs⟩ := hx
  obtain ⟨t, j, hj, hq, ht⟩ := hy
  unfold Format.sub
  rw [hr, hq]
  show ∃ z, ((Datum.number s (a.natAbs * 2 ^ i) (-(i : Int))).sum (.number (!t) (b.natAbs * 2 ^ j) (-(j : Int)))).map Ieee.double.write = some z ∧ isI z (a - b)
  have hn : b.natAbs = (-b).natAbs := by omega
  rw [hn, Int.sub_eq_add_neg]
  refine isI_sum hi hj hs (fun h => ?_) (by rw [← Int.sub_eq_add_neg]; exact hab)
  rw [ht (by omega)]
  by_cases hb : b < 0
  · rw [decide_eq_true hb, decide_eq_false (by omega)]; rfl
  · rw [decide_eq_false hb, decide_eq_true (by omega)]; rfl
theorem cmp_mul (a b : Int) (u : Nat) : compare (a * ((2 ^ u : Nat) : Int)) (b * ((2 ^ u : Nat) : Int)) = compare a b := by
  have hp := pow_pos' u
  have h1 : a * ((2 ^ u : Nat) : Int) < b * ((2 ^ u : Nat) : Int) ↔ a < b := ⟨fun h => by
      by_cases c : a < b
      · exact c
      · exact absurd (Int.mul_le_mul_of_nonneg_right (show b ≤ a by omega) (show (0 : Int) ≤ ((2 ^ u : Nat) : Int) by omega)) (by omega), fun h => Int.mul_lt_mul_of_pos_right h hp⟩
  have h2 : a * ((2 ^ u : Nat) : Int) = b * ((2 ^ u : Nat) : Int) ↔ a = b := ⟨fun h => Int.eq_of_mul_eq_mul_right (by omega) h, fun h => by rw [h]⟩
  show compareOfLessAndEq _ _ = compareOfLessAndEq _ _
  unfold compareOfLessAndEq
  simp only [h1, h2]
theorem isI_order {x y : Nat} {a b : Int} (hx : isI x a) (hy : isI y b) : Ieee.double.order x y = some (compare a b) := by
  obtain ⟨s, i, hi, hr, hs⟩ := hx
  obtain ⟨t, j, hj, hq, ht⟩ := hy
  unfold Format.order
  rw [hr, hq]
  unfold Datum.order
  (try simp only [])
  have key : ∀ u : Nat, i ≤ u → j ≤ u → min (-(i : Int)) (-(j : Int)) = -(u : Int) → some (compare (signed s (a.natAbs * 2 ^ i) (-(i : Int) - min (-(i : Int)) (-(j : Int))).toNat) (signed t (b.natAbs * 2 ^ j) (-(j : Int) - min (-(i : Int)) (-(j : Int))).toNat)) = some (compare a b) := by
    intro u hiu hju hm
    rw [hm, signed_of hs hiu, signed_of ht hju, cmp_mul]
  rcases Nat.le_total i j with c | c
  · exact key j c (Nat.le_refl _) (by omega)
  · exact key i (Nat.le_refl _) c (by omega)
theorem cut_zero_way (s : Bool) (n d : Nat) : Toward.zero.cut s n d = n / 2 ^ d := by
  unfold Toward.cut
  (try simp only [])
  show n / (1 <<< min d (n.log2 + 2)) + 0 = _
  rw [Nat.one_shiftLeft, Nat.add_zero]
  by_cases h : d ≤ n.log2 + 2
  · rw [Nat.min_eq_left h]
  · rw [Nat.min_eq_right (by omega)]
    have h1 : n < 2 ^ (n.log2 + 1) := Nat.lt_log2_self
    have h2 : 2 ^ (n.log2 + 1) ≤ 2 ^ (n.log2 + 2) := Nat.pow_le_pow_right (by omega) (by omega)
    have h3 : 2 ^ (n.log2 + 2) ≤ 2 ^ d := Nat.pow_le_pow_right (by omega) (by omega)
    rw [Nat.div_eq_of_lt (by omega), Nat.div_eq_of_lt (by omega)]
theorem isI_int {x : Nat} {a : Int} (hx : isI x a) (ha : a.natAbs < 2 ^ 53) : floatToIntVal .f64 x .i64 = some a := by
  obtain ⟨s, i, hi, hr, hs⟩ := hx
  unfold floatToIntVal
  have e : FloatKind.f64.decode x = .number s (a.natAbs * 2 ^ i) (-(i : Int)) := hr
  rw [e]
  have e2 : (Datum.number s (a.natAbs * 2 ^ i) (-(i : Int))).toInt .zero = some a := by
    unfold Datum.toInt Datum.integral
    (try simp only [])
    have h1 : (-(i : Int)).toNat = 0 := by omega
    have h2 : (- -(i : Int)).toNat = i := by omega
    rw [h1, h2, cut_zero_way, Nat.shiftLeft_eq, Nat.pow_zero, Nat.mul_one, Nat.mul_div_cancel _ (Nat.two_pow_pos i)]
    have := signed_of (t := 0) (u := 0) hs (Nat.le_refl _)
    rw [Nat.pow_zero, Nat.mul_one] at this
    exact congrArg some (this.trans (by simp))
  rw [e2]
  have h63 : (2 : Nat) ^ 53 = 9007199254740992 := rfl
  have m1 : IntKind.i64.min = -9223372036854775808 := by decide
  have m2 : IntKind.i64.max = 9223372036854775807 := by decide
  rw [m1, m2]
  (try simp only [])
  rw [if_pos (by omega)]
theorem read_cases (x : Nat) : (∃ s m p, Ieee.double.read x = .number s m p ∧ (p = -1074 ∧ m < 2 ^ 52 ∨ 2 ^ 52 ≤ m ∧ -1074 ≤ p)) ∨ (∃ s, Ieee.double.read x = .infinity s) ∨ ∃ s f, Ieee.double.read x = .nan s f := by
  have hlp : Ieee.double.leastPlace = -1074 := by decide
  have hb : Ieee.double.binade = 2 ^ 52 := rfl
  unfold Format.read
  simp only [hlp, hb]
  split
  · rename_i h
    exact .inl ⟨_, _, _, rfl, .inl ⟨rfl, h⟩⟩
  · split
    · exact .inl ⟨_, _, _, rfl, .inr ⟨Nat.le_add_right _ _, by omega⟩⟩
    · split
      · exact .inr (.inl ⟨_, rfl⟩)
      · exact .inr (.inr ⟨_, _, rfl⟩)
theorem sgn_abs (s : Bool) (m u : Nat) : (signed s m u).natAbs = m * 2 ^ u := by
  unfold signed
  rw [Nat.shiftLeft_eq]
  cases s
  · rw [if_neg (by simp)]; omega
  · rw [if_pos rfl]; omega
theorem sgn_neg {s : Bool} {m u : Nat} (h : m ≠ 0) : s = decide (signed s m u < 0) := by
  have hp : 0 < 2 ^ u := Nat.two_pow_pos u
  have h1 : 0 < m * 2 ^ u := Nat.mul_pos (by omega) hp
  unfold signed
  rw [Nat.shiftLeft_eq]
  cases s
  · rw [if_neg (by simp), decide_eq_false (by omega)]
  · rw [if_pos rfl, decide_eq_true (by omega)]
theorem eq_isI {x y : Nat} {a : Int} (hy : isI y a) (ha : a.natAbs < 2 ^ 52) (h : Ieee.double.order x y = some .eq) : isI x a := by
  obtain ⟨t, j, hj, hq, ht⟩ := hy
  unfold Format.order at h
  rw [hq] at h
  rcases read_cases x with ⟨s, m, p, hr, hm⟩ | ⟨s, hr⟩ | ⟨s, f, hr⟩
  · rw [hr] at h
    unfold Datum.order at h
    simp only [Option.some.injEq] at h
    -- a common place, from which both are whole
    obtain ⟨u, hu⟩ : ∃ u : Nat, min p (-(j : Int)) = -(u : Int) := ⟨(-(min p (-(j : Int)))).toNat, by omega⟩
    have hju : j ≤ u := by omega
    rw [hu, signed_of ht hju] at h
    have he : signed s m (p - -(u : Int)).toNat = a * ((2 ^ u : Nat) : Int) := by
      have : compareOfLessAndEq (signed s m (p - -(u : Int)).toNat) (a * ((2 ^ u : Nat) : Int)) = .eq := h
      unfold compareOfLessAndEq at this
      split at this
      · cases this
      · split at this
        · assumption
        · cases this
    have hab : m * 2 ^ (p - -(u : Int)).toNat = a.natAbs * 2 ^ u := by
      rw [← sgn_abs s, he, Int.natAbs_mul, Int.natAbs_natCast]
    have hpu := Nat.two_pow_pos u
    have hp0 : p ≤ 0 := by
      rcases (show 0 < p ∨ p ≤ 0 by omega) with c | c
      · exfalso
        have e1 : (p - -(u : Int)).toNat = p.toNat + u := by omega
        rw [e1, Nat.pow_add, ← Nat.mul_assoc] at hab
        have h2 := Nat.eq_of_mul_eq_mul_right hpu hab
        rcases hm with ⟨hm, _⟩ | ⟨hm, _⟩
        · omega
        · have h3 : 1 ≤ 2 ^ p.toNat := Nat.two_pow_pos _
          have h4 : m * 1 ≤ m * 2 ^ p.toNat := Nat.mul_le_mul_left m h3
          omega
      · exact c
    have hi : (-p).toNat ≤ 1074 := by rcases hm with ⟨h, _⟩ | ⟨_, h⟩ <;> omega
    have hpp : p = -((-p).toNat : Int) := by omega
    have hma : m = a.natAbs * 2 ^ (-p).toNat := by
      have e1 : u = (-p).toNat + (p - -(u : Int)).toNat := by omega
      have e2 : a.natAbs * 2 ^ u = a.natAbs * 2 ^ (-p).toNat * 2 ^ (p - -(u : Int)).toNat := by
        rw [Nat.mul_assoc, ← Nat.pow_add, ← e1]
      rw [e2] at hab
      exact Nat.eq_of_mul_eq_mul_right (Nat.two_pow_pos _) hab
    refine ⟨s, (-p).toNat, hi, by rw [← hma, ← hpp]; exact hr, fun h0 => ?_⟩
    have hm0 : m ≠ 0 := fun e => by
      rw [e] at hma
      rcases Nat.mul_eq_zero.1 hma.symm with e | e
      · omega
      · have := Nat.two_pow_pos (-p).toNat; omega
    rw [sgn_neg (s := s) (u := (p - -(u : Int)).toNat) hm0, he]
    have hp' := pow_pos' u
    by_cases hl : a < 0
    · rw [decide_eq_true hl]; exact decide_eq_true (Int.mul_neg_of_neg_of_pos hl hp')
    · rw [decide_eq_false hl]; exact decide_eq_false (Int.not_lt.2 (Int.mul_nonneg (by omega) (by omega)))
  · rw [hr] at h
    unfold Datum.order at h
    cases s <;> simp at h
  · rw [hr] at h
    unfold Datum.order at h
    cases h
def truncB (x : Nat) : Nat := Ieee.double.write ((Ieee.double.read x).integral .zero)
theorem whole_isI {x : Nat} {b : Nat} (hb : b < 2 ^ 52) (h0 : Ieee.double.order x 0 = some .gt ∨ Ieee.double.order x 0 = some .eq) (hl : Ieee.double.order x (dbl b) = some .lt) (ht : Ieee.double.order x (truncB x) = some .eq) : ∃ n : Nat, n < b ∧ isI x n := by
  have hb53 : b < 2 ^ 53 := Nat.lt_trans hb (by decide)
  obtain ⟨t, htl, hq, _⟩ := read_dbl hb53
  have hz : Ieee.double.read 0 = .number false 0 (-1074) := by decide
  rcases read_cases x with ⟨s, m, p, hr, hm⟩ | ⟨s, hr⟩ | ⟨s, f, hr⟩
  · have hl' := hl
    unfold Format.order at hl'
    rw [hr, hq] at hl'
    unfold Datum.order at hl'
    simp only [Option.some.injEq] at hl'
    obtain ⟨u, hu⟩ : ∃ u : Nat, min p (-(t : Int)) = -(u : Int) := ⟨(-(min p (-(t : Int)))).toNat, by omega⟩
    have htu : t ≤ u := by omega
    have hsb := signed_of (s := false) (n := (b : Int)) (t := t) (u := u) (fun _ => by rw [decide_eq_false (by omega)]) htu
    rw [Int.natAbs_natCast] at hsb
    rw [hu, hsb] at hl'
    have hlt : signed s m (p - -(u : Int)).toNat < (b : Int) * ((2 ^ u : Nat) : Int) := by
      have : compareOfLessAndEq (signed s m (p - -(u : Int)).toNat) ((b : Int) * ((2 ^ u : Nat) : Int)) = .lt := hl'
      unfold compareOfLessAndEq at this
      split at this
      · assumption
      · split at this <;> cases this
    -- it is not below 0
    have hs : m ≠ 0 → s = false := by
      intro hm0
      have hz' : Ieee.double.order x 0 = some (compare (signed s m (p - min p (-1074)).toNat) (signed false 0 (-1074 - min p (-1074)).toNat)) := by
        unfold Format.order
        rw [hr, hz]; rfl
      have e0 : ∀ v, signed false 0 v = 0 := fun v => by unfold signed; rw [if_neg (by simp), Nat.zero_shiftLeft]; rfl
      rw [e0] at hz'
      cases s with
      | false => rfl
      | true =>
        exfalso
        have hn : signed true m (p - min p (-1074)).toNat < 0 := of_decide_eq_true (sgn_neg (s := true) hm0).symm
        have hc : compare (signed true m (p - min p (-1074)).toNat) 0 = .lt := by
          show compareOfLessAndEq _ _ = _
          unfold compareOfLessAndEq; rw [if_pos hn]
        rw [hc] at hz'
        rcases h0 with h | h <;> rw [hz'] at h <;> cases h
    have hab : m * 2 ^ (p - -(u : Int)).toNat < b * 2 ^ u ∨ m = 0 := by
      by_cases hm0 : m = 0
      · exact .inr hm0
      · refine .inl ?_
        have e := sgn_abs s m (p - -(u : Int)).toNat
        rw [hs hm0] at hlt e
        rw [← e]
        have hnn : 0 ≤ signed false m (p - -(u : Int)).toNat := by unfold signed; rw [if_neg (by simp)]; omega
        have : ((signed false m (p - -(u : Int)).toNat).natAbs : Int) < ((b * 2 ^ u : Nat) : Int) := by rw [Int.natCast_mul]; omega
        omega
    have hpu := Nat.two_pow_pos u
    have hp0 : p ≤ 0 := by
      rcases (show 0 < p ∨ p ≤ 0 by omega) with c | c
      · exfalso
        rcases hm with ⟨hm, _⟩ | ⟨hm, _⟩
        · omega
        · rcases hab with hab | hab
          · have e1 : (p - -(u : Int)).toNat = p.toNat + u := by omega
            rw [e1, Nat.pow_add, ← Nat.mul_assoc] at hab
            have h2 := Nat.lt_of_mul_lt_mul_right hab
            have h3 : 1 ≤ 2 ^ p.toNat := Nat.two_pow_pos _
            have h4 : m * 1 ≤ m * 2 ^ p.toNat := Nat.mul_le_mul_left m h3
            omega
          · have := Nat.two_pow_pos 52; omega
      · exact c
    -- what is cut
    have hcut : m / 2 ^ (-p).toNat < b ∨ m = 0 := by
      rcases hab with hab | hab
      · refine .inl ?_
        have e1 : u = (-p).toNat + (p - -(u : Int)).toNat := by omega
        have e2 : b * 2 ^ u = b * 2 ^ (-p).toNat * 2 ^ (p - -(u : Int)).toNat := by
          rw [Nat.mul_assoc, ← Nat.pow_add, ← e1]
        rw [e2] at hab
        have := Nat.lt_of_mul_lt_mul_right hab
        exact (Nat.div_lt_iff_lt_mul (Nat.two_pow_pos _)).2 this
      · exact .inr hab
    have hT : truncB x = Ieee.double.nearest s (m / 2 ^ (-p).toNat) 0 := by
      unfold truncB
      rw [hr]
      show Ieee.double.nearest s (Toward.zero.cut s (m <<< p.toNat) (-p).toNat) 0 = _
      rw [cut_zero_way, show p.toNat = 0 by omega, Nat.shiftLeft_zero]
    have hc53 : m / 2 ^ (-p).toNat < 2 ^ 52 := by
      rcases hcut with h | h
      · omega
      · rw [h, Nat.zero_div]; exact Nat.two_pow_pos _
    have hI : isI (truncB x) ((m / 2 ^ (-p).toNat : Nat) : Int) := by
      rw [hT]
      have := isI_nearest s ((m / 2 ^ (-p).toNat : Nat) : Int) 0 (by omega) (by rw [Int.natAbs_natCast]; exact Nat.lt_trans hc53 (by decide)) (fun h => by
        have hm0 : m ≠ 0 := fun e => by rw [e, Nat.zero_div] at h; exact h rfl
        rw [hs hm0, decide_eq_false (Int.not_lt.2 (Int.natCast_nonneg _))])
      rw [Nat.pow_zero, Nat.mul_one, Int.natAbs_natCast] at this
      exact this
    have hx := eq_isI hI (by rw [Int.natAbs_natCast]; exact hc53) ht
    refine ⟨_, ?_, hx⟩
    rcases hcut with h | h
    · exact h
    · have hb0 : 0 < b := by
        rcases Nat.eq_zero_or_pos b with e | e
        · subst e
          rw [h] at hlt
          have : signed s 0 (p - -(u : Int)).toNat = 0 := by unfold signed; cases s <;> simp
          rw [this] at hlt
          simp at hlt
        · exact e
      rw [h, Nat.zero_div]; exact hb0
  · exfalso
    unfold Format.order at h0 hl
    rw [hr, hq] at hl
    rw [hr, hz] at h0
    unfold Datum.order at h0 hl
    cases s <;> simp at h0 hl
  · exfalso
    unfold Format.order at hl
    rw [hr] at hl
    unfold Datum.order at hl
    cases hl
theorem isI_trunc {x : Nat} {a : Int} (hx : isI x a) (ha : a.natAbs < 2 ^ 53) : isI (truncB x) a := by
  obtain ⟨s, i, hi, hr, hs⟩ := hx
  unfold truncB
  rw [hr]
  show isI (Ieee.double.nearest s (Toward.zero.cut s ((a.natAbs * 2 ^ i) <<< (-(i : Int)).toNat) (- -(i : Int)).toNat) 0) a
  rw [cut_zero_way, show (-(i : Int)).toNat = 0 by omega, Nat.shiftLeft_zero, show (- -(i : Int)).toNat = i by omega, Nat.mul_div_cancel _ (Nat.two_pow_pos i)]
  have := isI_nearest s a 0 (by omega) ha hs
  rw [Nat.pow_zero, Nat.mul_one] at this
  exact this
end Go.Proofs.Ytmkgkgamkeeneaa.G
end
section
set_option linter.unusedVariables false
set_option linter.unusedSimpArgs false
set_option maxRecDepth 100000
namespace Go.Proofs.Ytmkgkgamkeeneaa.G
open Go Go.Proofs.Ytmkgkgamkeeneaa Th
theorem p53 : (2 : Nat) ^ 53 = 9007199254740992 := rfl
theorem p52 : (2 : Nat) ^ 52 = 4503599627370496 := rfl
theorem cmp_lt {a b : Int} : compare a b = .lt ↔ a < b := Int.compare_eq_lt
theorem cmp_eq {a b : Int} : compare a b = .eq ↔ a = b := Int.compare_eq_eq
theorem cmp_gt {a b : Int} : compare a b = .gt ↔ b < a := Int.compare_eq_gt
theorem ord_f64 (x y : Nat) : FloatKind.f64.format.order x y = Ieee.double.order x y := rfl
theorem fEq {x y : Nat} {a b : Int} (hx : isI x a) (hy : isI y b) : fltEq x y = decide (a = b) := by
  unfold fltEq
  rw [ord_f64, isI_order hx hy]
  by_cases h : a = b
  · rw [cmp_eq.2 h, decide_eq_true h]; rfl
  · rw [decide_eq_false h]
    have : compare a b ≠ .eq := fun e => h (cmp_eq.1 e)
    cases hc : compare a b <;> first | rfl | exact absurd hc this
theorem fGeq {x y : Nat} {a b : Int} (hx : isI x a) (hy : isI y b) : fltGeq x y = decide (b ≤ a) := by
  unfold fltGeq
  rw [ord_f64, isI_order hx hy]
  cases hc : compare a b with
  | lt => rw [decide_eq_false (by have := cmp_lt.1 hc; omega)]; rfl
  | eq => rw [decide_eq_true (by have := cmp_eq.1 hc; omega)]; rfl
  | gt => rw [decide_eq_true (by have := cmp_gt.1 hc; omega)]; rfl
theorem fLss {x y : Nat} {a b : Int} (hx : isI x a) (hy : isI y b) : fltLss x y = decide (a < b) := by
  unfold fltLss
  rw [ord_f64, isI_order hx hy]
  cases hc : compare a b with
  | lt => rw [decide_eq_true (cmp_lt.1 hc)]; rfl
  | eq => rw [decide_eq_false (by have := cmp_eq.1 hc; omega)]; rfl
  | gt => rw [decide_eq_false (by have := cmp_gt.1 hc; omega)]; rfl
theorem isI_one {x : Nat} {a b : Int} (hx : isI x a) (hy : isI x b) : a = b := by
  have h := isI_order hx hy
  have h2 := isI_order hx hx
  rw [h, cmp_eq.2 rfl] at h2
  exact cmp_eq.1 (Option.some.inj h2)
theorem i64c : isI 4634204016564240384 64 := by
  have h := isI_flt (n := 64) (by rw [p53]; decide)
  rwa [show fltOf 64 = 4634204016564240384 from by kernel_rfl] at h
theorem i1c : isI 4607182418800017408 1 := by
  have h := isI_flt (n := 1) (by rw [p53]; decide)
  rwa [show fltOf 1 = 4607182418800017408 from by kernel_rfl] at h
theorem i2c : isI 4611686018427387904 2 := by
  have h := isI_flt (n := 2) (by rw [p53]; decide)
  rwa [show fltOf 2 = 4611686018427387904 from by kernel_rfl] at h
theorem i63c : isI 4634063279075885056 63 := by
  have h := isI_flt (n := 63) (by rw [p53]; decide)
  rwa [show fltOf 63 = 4634063279075885056 from by kernel_rfl] at h
theorem im64c : isI 13857576053419016192 (-64) := by
  have h := isI_flt (n := -64) (by rw [p53]; decide)
  rwa [show fltOf (-64) = 13857576053419016192 from by kernel_rfl] at h
def Wh (x : Nat) : Prop := ∃ n : Nat, n < 64 ∧ isI x n
theorem G19_is (k : Nat) (x : Nat) : ∃ r, G19 k (x, ()) = some (r, ()) ∧ (r = true ↔ Wh x) := by
  rw [G19_eq]
  cases h0 : fltGeq x 0 with
  | false =>
    rw [sel_false]
    refine ⟨false, rfl, fun h => (by cases h), fun ⟨n, hn, hi⟩ => ?_⟩
    rw [fGeq hi isI_zero, decide_eq_true (by omega)] at h0; cases h0
  | true =>
  rw [sel_true]
  cases h64 : fltLss x 4634204016564240384 with
  | false =>
    rw [sel_false]
    refine ⟨false, rfl, fun h => (by cases h), fun ⟨n, hn, hi⟩ => ?_⟩
    rw [fLss hi i64c, decide_eq_true (by omega)] at h64; cases h64
  | true =>
  rw [sel_true]
  have h0' : Ieee.double.order x 0 = some .gt ∨ Ieee.double.order x 0 = some .eq := by
    unfold fltGeq at h0
    rw [ord_f64] at h0
    cases ho : Ieee.double.order x 0 with
    | none => rw [ho] at h0; cases h0
    | some c => cases c <;> rw [ho] at h0 <;> first | exact .inl rfl | exact .inr rfl | cases h0
  have hl' : Ieee.double.order x (dbl 64) = some .lt := by
    have e : dbl 64 = 4634204016564240384 := by kernel_rfl
    rw [e]
    unfold fltLss at h64
    rw [ord_f64] at h64
    cases ho : Ieee.double.order x 4634204016564240384 with
    | none => rw [ho] at h64; cases h64
    | some c => cases c <;> rw [ho] at h64 <;> first | rfl | cases h64
  have hok : Trunc.okT x = true := by
    unfold Trunc.okT
    unfold Ieee.Format.order at hl'
    cases hr : Ieee.double.read x with
    | nan s f => rw [hr] at hl'; unfold Ieee.Datum.order at hl'; cases hl'
    | number s m p => rfl
    | infinity s => rfl
  rw [G22_eq, hok, sel_true, ocall_some]
  refine ⟨_, rfl, fun h => ?_, fun ⟨n, hn, hi⟩ => ?_⟩
  · have ht : Ieee.double.order x (truncB x) = some .eq := by
      have h' : (Ieee.double.order x (truncB x) == some .eq) = true := h
      exact eq_of_beq h'
    obtain ⟨n, hn, hi⟩ := whole_isI (b := 64) (by rw [p52]; omega) h0' hl' ht
    exact ⟨n, hn, hi⟩
  · have hT : isI (Trunc.valT x) n := isI_trunc hi (by rw [p53, Int.natAbs_natCast]; omega)
    rw [fEq hi hT, decide_eq_true rfl]
def isH (z : Nat × Nat) (n : Nat) : Prop := ∃ a b : Nat, a < 64 ∧ b < 64 ∧ n = 64 * a + b ∧ isI z.1 a ∧ isI z.2 b
theorem isH_lt {z : Nat × Nat} {n : Nat} (h : isH z n) : n < 4096 := by
  obtain ⟨a, b, ha, hb, rfl, _⟩ := h
  omega
theorem wh_H (x y : Nat) : (Wh x ∧ Wh y) ↔ ∃ n, isH (x, y) n := by
  constructor
  · rintro ⟨⟨a, ha, hx⟩, b, hb, hy⟩
    exact ⟨_, a, b, ha, hb, rfl, hx, hy⟩
  · rintro ⟨_, a, b, ha, hb, _, hx, hy⟩
    exact ⟨⟨a, ha, hx⟩, b, hb, hy⟩
theorem G9_is (k : Nat) (x y : Nat) : ∃ r, G9 k ((x, y), ()) = some (r, ()) ∧ (r = true ↔ ∃ n, isH (x, y) n) := by
  obtain ⟨r, h1, h2⟩ := G19_is k x
  obtain ⟨q, h3, h4⟩ := G19_is k y
  rw [G9_eq, h1, ocall_some]
  cases r with
  | false =>
    refine ⟨false, rfl, fun h => (by cases h), fun h => ?_⟩
    have := h2.2 ((wh_H x y).2 h).1
    cases this
  | true =>
    simp only [sel_true]
    rw [h3, ocall_some]
    refine ⟨q, rfl, fun h => (wh_H x y).1 ⟨h2.1 rfl, h4.1 h⟩, fun h => h4.2 ((wh_H x y).2 h).2⟩
theorem right_of {k : Nat} {z : Nat × Nat} {n : Nat} (h : isH z n) : G9 k (z, ()) = some (true, ()) := by
  obtain ⟨r, h1, h2⟩ := G9_is k z.1 z.2
  have : r = true := h2.2 ⟨n, h⟩
  rw [← this]; exact h1
theorem not_right {k : Nat} {z : Nat × Nat} (h : ¬ ∃ n, isH z n) : G9 k (z, ()) = some (false, ()) := by
  obtain ⟨r, h1, h2⟩ := G9_is k z.1 z.2
  have : r = false := by
    cases r with
    | false => rfl
    | true => exact absurd (h2.1 rfl) h
  rw [← this]; exact h1
theorem isI_nat {n : Int} (h0 : 0 ≤ n) (h : n < 4096) : isI (fltOf n) (n.toNat : Int) := by
  have := isI_flt (n := n) (by rw [p53]; omega)
  rwa [show ((n.toNat : Nat) : Int) = n by omega]
theorem tdiv64 {n : Int} (h : 0 ≤ n) : n.tdiv 64 = n / 64 := Int.tdiv_eq_ediv_of_nonneg h
theorem tmod64 {n : Int} (h : 0 ≤ n) : n.tmod 64 = n % 64 := Int.tmod_eq_emod_of_nonneg h
theorem tmod4 {n : Int} (h : 0 ≤ n) : n.tmod 4096 = n % 4096 := Int.tmod_eq_emod_of_nonneg h
theorem tmod4_neg {n : Int} (h : n ≤ 0) : n.tmod 4096 = -((-n) % 4096) := by
  have := Int.neg_tmod (-n) 4096
  rw [Int.neg_neg] at this
  rw [this, tmod4 (by omega)]
theorem turn_of (n : Int) : (IntKind.i64.wrap (n.tmod 4096 + 4096)).tmod 4096 = n % 4096 := by
  rcases (show 0 ≤ n ∨ n ≤ 0 by omega) with h | h
  · rw [tmod4 h, wrap64 (by omega) (by omega), tmod4 (by omega)]; omega
  · rw [tmod4_neg h, wrap64 (by omega) (by omega), tmod4 (by omega)]; omega
theorem G11_is (k : Nat) (t : Int) (h0 : 0 ≤ t) (h : t ≤ 18446744073709551615) : ∃ z, G11 k (t, ()) = some (z, ()) ∧ isH z (t % 4096).toNat := by
  rw [G11_eq]
  have hw : IntKind.u64.wrap (t.tdiv 64) = t / 64 := by rw [tdiv64 h0]; exact wrapu64 (by omega) (by omega)
  rw [hw, tmod64 h0, tmod64 (by omega)]
  exact ⟨_, rfl, (t / 64 % 64).toNat, (t % 64).toNat, by omega, by omega, by omega, isI_nat (by omega) (by omega), isI_nat (by omega) (by omega)⟩
theorem G20_is (k : Nat) (n : Int) (h0 : 0 ≤ n) (h : n < 4096) : ∃ z, G20 k (n, ()) = some (z, ()) ∧ isH z n.toNat := by
  rw [G20_eq]
  have hw : IntKind.i64.wrap (n.tdiv 64) = n / 64 := by rw [tdiv64 h0]; exact wrap64 (by omega) (by omega)
  rw [hw, tmod64 h0]
  exact ⟨_, rfl, (n / 64).toNat, (n % 64).toNat, by omega, by omega, by omega, isI_nat (by omega) (by omega), isI_nat (by omega) (by omega)⟩
theorem G12_is (k : Nat) (t : Int) (h0 : 0 ≤ t) (h : t ≤ 18446744073709551615) : ∃ z, G12 k (t, ()) = some (z, ()) ∧ isH z (t % 4096).toNat := by
  rw [G12_eq, tmod4 h0, wrap64 (by omega) (by omega)]
  obtain ⟨z, h1, h2⟩ := G20_is k (t % 4096) (by omega) (by omega)
  rw [h1, ocall_some]
  exact ⟨_, rfl, h2⟩
theorem c_addI {x y u v : Nat} {a b c d : Int} (h1 : isI x a) (h2 : isI y b) (h3 : isI u c) (h4 : isI v d) (l1 : (a + c).natAbs < 2 ^ 53) (l2 : (b + d).natAbs < 2 ^ 53) :
    cOK .add x y u v = true ∧ isI (cVal .add x y u v).1 (a + c) ∧ isI (cVal .add x y u v).2 (b + d) := by
  obtain ⟨p, hp, ip⟩ := isI_add h1 h3 l1
  obtain ⟨q, hq, iq⟩ := isI_add h2 h4 l2
  have e : cOp .add x y u v = some (p, q) := by
    show cSumBits .add .f64 x y u v = _
    unfold cSumBits
    rw [show floatBits .add .f64 x u = some p from hp, show floatBits .add .f64 y v = some q from hq]; rfl
  unfold cOK cVal
  rw [e]
  exact ⟨rfl, ip, iq⟩
theorem c_subI {x y u v : Nat} {a b c d : Int} (h1 : isI x a) (h2 : isI y b) (h3 : isI u c) (h4 : isI v d) (l1 : (a - c).natAbs < 2 ^ 53) (l2 : (b - d).natAbs < 2 ^ 53) :
    cOK .sub x y u v = true ∧ isI (cVal .sub x y u v).1 (a - c) ∧ isI (cVal .sub x y u v).2 (b - d) := by
  obtain ⟨p, hp, ip⟩ := isI_sub h1 h3 l1
  obtain ⟨q, hq, iq⟩ := isI_sub h2 h4 l2
  have e : cOp .sub x y u v = some (p, q) := by
    show cSumBits .sub .f64 x y u v = _
    unfold cSumBits
    rw [show floatBits .sub .f64 x u = some p from hp, show floatBits .sub .f64 y v = some q from hq]; rfl
  unfold cOK cVal
  rw [e]
  exact ⟨rfl, ip, iq⟩
theorem isI_z : isI 0 (0 : Int) := isI_zero
theorem G21_is (k : Nat) (x y : Nat) (a b : Nat) (ha : a < 127) (hb : b < 127) (hx : isI x a) (hy : isI y b) : ∃ z, G21 k ((x, y), ()) = some (z, ()) ∧ isH z ((64 * a + b) % 4096) := by
  have c1 := c_addI hx hy i1c im64c (by rw [p53]; omega) (by rw [p53]; omega)
  have c2 := c_subI c1.2.1 c1.2.2 i64c isI_z (by rw [p53]; omega) (by rw [p53]; omega)
  have c3 := c_subI hx hy i64c isI_z (by rw [p53]; omega) (by rw [p53]; omega)
  rw [G21_eq, fGeq hy i64c, fGeq hx i64c, fGeq c1.2.1 i64c, c1.1, c2.1, c3.1]
  simp only [sel_true]
  by_cases h1 : (64 : Int) ≤ b
  · rw [sel_pos h1]
    by_cases h2 : (64 : Int) ≤ (a : Int) + 1
    · rw [sel_pos h2]
      refine ⟨_, rfl, a + 1 - 64, b - 64, by omega, by omega, by omega, ?_, ?_⟩
      · have e : ((a + 1 - 64 : Nat) : Int) = (a : Int) + 1 - 64 := by omega
        rw [e]; exact c2.2.1
      · have e : ((b - 64 : Nat) : Int) = (b : Int) + -64 - 0 := by omega
        rw [e]; exact c2.2.2
    · rw [sel_neg h2]
      refine ⟨_, rfl, a + 1, b - 64, by omega, by omega, by omega, ?_, ?_⟩
      · have e : ((a + 1 : Nat) : Int) = (a : Int) + 1 := by omega
        rw [e]; exact c1.2.1
      · have e : ((b - 64 : Nat) : Int) = (b : Int) + -64 := by omega
        rw [e]; exact c1.2.2
  · rw [sel_neg h1]
    by_cases h2 : (64 : Int) ≤ a
    · rw [sel_pos h2]
      refine ⟨_, rfl, a - 64, b, by omega, by omega, by omega, ?_, ?_⟩
      · have e : ((a - 64 : Nat) : Int) = (a : Int) - 64 := by omega
        rw [e]; exact c3.2.1
      · have e : (b : Int) = (b : Int) - 0 := by omega
        rw [e]; exact c3.2.2
    · rw [sel_neg h2]
      exact ⟨_, rfl, a, b, by omega, by omega, by omega, hx, hy⟩
theorem G13_is (k : Nat) {z w : Nat × Nat} {n m : Nat} (hz : isH z n) (hw : isH w m) : ∃ v, G13 k (z, w, ()) = some (v, ()) ∧ isH v ((n + m) % 4096) := by
  have r1 := right_of (k := k) hz
  have r2 := right_of (k := k) hw
  obtain ⟨x, y⟩ := z
  obtain ⟨u, v⟩ := w
  obtain ⟨a, b, ha, hb, rfl, hx, hy⟩ := hz
  obtain ⟨c, d, hc, hd, rfl, hu, hv⟩ := hw
  have c1 := c_addI hx hy hu hv (by rw [p53]; omega) (by rw [p53]; omega)
  obtain ⟨q, hq, hi⟩ := G21_is k _ _ (a + c) (b + d) (by omega) (by omega) (by rw [Int.natCast_add]; exact c1.2.1) (by rw [Int.natCast_add]; exact c1.2.2)
  rw [G13_eq, r1, ocall_some]
  simp only [Bool.not_true, sel_false]
  rw [r2, ocall_some, c1.1]
  simp only [Bool.not_true, sel_false, sel_true]
  rw [hq, ocall_some]
  refine ⟨_, rfl, ?_⟩
  rw [show 64 * a + b + (64 * c + d) = 64 * (a + c) + (b + d) by omega]
  exact hi
theorem add_not {k : Nat} {z w : Nat × Nat} (h : ¬ ((∃ n, isH z n) ∧ ∃ m, isH w m)) : G13 k (z, w, ()) = some ((0, 0), ()) := by
  obtain ⟨x, y⟩ := z
  obtain ⟨u, v⟩ := w
  rw [G13_eq]
  by_cases h1 : ∃ n, isH (x, y) n
  · obtain ⟨n, hn⟩ := h1
    rw [right_of hn, ocall_some]
    simp only [Bool.not_true, sel_false]
    rw [not_right (fun h2 => h ⟨⟨n, hn⟩, h2⟩), ocall_some]
    rfl
  · rw [not_right h1, ocall_some]
    rfl
theorem G15_is (k : Nat) {z : Nat × Nat} {n : Nat} (hz : isH z n) (t : Int) : ∃ v, G15 k (z, t, ()) = some (v, ()) ∧ isH v (((n : Int) + t) % 4096).toNat := by
  obtain ⟨w, h1, h2⟩ := G11_is k (t % 4096) (by omega) (by omega)
  obtain ⟨v, h3, h4⟩ := G13_is k hz h2
  obtain ⟨x, y⟩ := z
  rw [G15_eq, turn_of, wrapu64 (by omega) (by omega), h1, ocall_some]
  rw [show (w.1, w.2) = w from rfl, h3, ocall_some]
  refine ⟨_, rfl, ?_⟩
  have e : (((n : Int) + t) % 4096).toNat = (n + (t % 4096 % 4096).toNat) % 4096 := by omega
  rw [e]; exact h4
theorem turn_not {k : Nat} {z : Nat × Nat} (h : ¬ ∃ n, isH z n) (t : Int) : G15 k (z, t, ()) = some ((0, 0), ()) := by
  obtain ⟨w, h1, h2⟩ := G11_is k (t % 4096) (by omega) (by omega)
  obtain ⟨x, y⟩ := z
  rw [G15_eq, turn_of, wrapu64 (by omega) (by omega), h1, ocall_some]
  rw [show (w.1, w.2) = w from rfl, add_not (fun h2 => h h2.1), ocall_some]
theorem G17_is (k : Nat) {z w : Nat × Nat} {n m : Nat} (hz : isH z n) (hw : isH w m) : G17 k (z, w, ()) = some (((m : Int) - n) % 4096, ()) := by
  have r1 := right_of (k := k) hz
  have r2 := right_of (k := k) hw
  obtain ⟨x, y⟩ := z
  obtain ⟨u, v⟩ := w
  obtain ⟨a, b, ha, hb, rfl, hx, hy⟩ := hz
  obtain ⟨c, d, hc, hd, rfl, hu, hv⟩ := hw
  have c1 := c_subI hu hv hx hy (by rw [p53]; omega) (by rw [p53]; omega)
  have e1 := isI_int c1.2.1 (by rw [p53]; omega)
  have e2 := isI_int c1.2.2 (by rw [p53]; omega)
  have k1 : iOK .i64 (cVal BinOp.sub u v x y).1 = true := by unfold iOK; rw [e1]; rfl
  have k2 : iOK .i64 (cVal BinOp.sub u v x y).2 = true := by unfold iOK; rw [e2]; rfl
  have v1 : iVal .i64 (cVal BinOp.sub u v x y).1 = (c : Int) - a := by unfold iVal; rw [e1]; rfl
  have v2 : iVal .i64 (cVal BinOp.sub u v x y).2 = (d : Int) - b := by unfold iVal; rw [e2]; rfl
  rw [G17_eq, r1, ocall_some]
  simp only [Bool.not_true, sel_false]
  rw [r2, ocall_some, c1.1, k1, k2, v1, v2]
  simp only [Bool.not_true, sel_false, sel_true]
  rw [wrap64 (n := ((c : Int) - a) * 64) (by omega) (by omega), wrap64 (n := ((c : Int) - a) * 64 + ((d : Int) - b)) (by omega) (by omega), wrap64 (by omega) (by omega), tmod4 (by omega)]
  congr 2
  omega
theorem way_not {k : Nat} {z w : Nat × Nat} (h : ¬ ((∃ n, isH z n) ∧ ∃ m, isH w m)) : G17 k (z, w, ()) = some (-1, ()) := by
  obtain ⟨x, y⟩ := z
  obtain ⟨u, v⟩ := w
  rw [G17_eq]
  by_cases h1 : ∃ n, isH (x, y) n
  · obtain ⟨n, hn⟩ := h1
    rw [right_of hn, ocall_some]
    simp only [Bool.not_true, sel_false]
    rw [not_right (fun h2 => h ⟨⟨n, hn⟩, h2⟩), ocall_some]
    rfl
  · rw [not_right h1, ocall_some]
    rfl
def gap (now : Int) (n : Nat) : Int := if ((n : Int) - now) % 4096 = 0 then 4096 else ((n : Int) - now) % 4096
def nextT (now : Int) (n : Nat) : Int × Int := if now + gap now n ≤ 18446744073709551615 then (now + gap now n, 0) else (0, 10)
theorem G7_is (k : Nat) (now : Int) (h0 : 0 ≤ now) (h : now ≤ 18446744073709551615) {z : Nat × Nat} {n : Nat} (hz : isH z n) : G7 k (now, z, ()) = some ((nextT now n).1, (nextT now n).2, ()) := by
  obtain ⟨w, h1, h2⟩ := G11_is k now h0 h
  have h3 := G17_is k h2 hz
  have hn := isH_lt hz
  obtain ⟨x, y⟩ := z
  rw [G7_eq, h1, ocall_some, show (w.1, w.2) = w from rfl, h3, ocall_some]
  have e : ((n : Int) - ((now % 4096).toNat : Int)) % 4096 = ((n : Int) - now) % 4096 := by omega
  rw [e]
  (try simp only [])
  rw [sel_neg (show ¬ ((n : Int) - now) % 4096 < 0 by omega)]
  unfold nextT gap
  by_cases hg : ((n : Int) - now) % 4096 = 0
  · rw [sel_pos hg, if_pos hg, wrapu64 (n := 4096) (by omega) (by omega), wrapu64 (n := 18446744073709551615 - 4096) (by omega) (by omega)]
    by_cases ho : now + 4096 ≤ 18446744073709551615
    · rw [sel_neg (by omega), wrapu64 (by omega) (by omega), if_pos ho]
    · rw [sel_pos (by omega), if_neg ho]
  · rw [sel_neg hg, if_neg hg]
    generalize hr : ((n : Int) - now) % 4096 = r at *
    rw [wrapu64 (n := r) (by omega) (by omega), wrapu64 (n := 18446744073709551615 - r) (by omega) (by omega)]
    by_cases ho : now + r ≤ 18446744073709551615
    · rw [sel_neg (by omega), wrapu64 (by omega) (by omega), if_pos ho]
    · rw [sel_pos (by omega), if_neg ho]
theorem next_not {k : Nat} (now : Int) (h0 : 0 ≤ now) (h : now ≤ 18446744073709551615) {z : Nat × Nat} (hz : ¬ ∃ n, isH z n) : G7 k (now, z, ()) = some (0, 1, ()) := by
  obtain ⟨w, h1, h2⟩ := G11_is k now h0 h
  obtain ⟨x, y⟩ := z
  rw [G7_eq, h1, ocall_some, show (w.1, w.2) = w from rfl, way_not (fun h => hz h.2), ocall_some]
  rfl
end Go.Proofs.Ytmkgkgamkeeneaa.G
end
section
set_option linter.unusedVariables false
set_option linter.unusedSimpArgs false
set_option maxRecDepth 100000
namespace Go.Proofs.Ytmkgkgamkeeneaa.G
open Go Go.Proofs.Ytmkgkgamkeeneaa Th
theorem fEq_isI {x : Nat} {a : Int} (h0 : 0 ≤ a) (ha : a < 64) (h : fltEq x (fltOf a) = true) : isI x a := by
  have h' : (Ieee.double.order x (fltOf a) == some .eq) = true := h
  exact eq_isI (isI_flt (by rw [p53]; omega)) (by rw [p52]; omega) (eq_of_beq h')
theorem isI_nat' {n : Nat} (h : n < 4096) : isI (fltOf (n : Int)) (n : Int) := isI_flt (by rw [p53, Int.natAbs_natCast]; omega)
theorem tick_in (k : Nat) (x y : Nat) (a b0 : Nat) (ha : a < 64) (hb0 : b0 < 64) (hy : isI y b0) : ∀ (j b : Nat), b + j = 64 → b ≤ b0 → ∀ n, j < n →
    G10_6 k n ((x, y), (a : Int), (b : Int), ()) = some (.inr (((64 * a + b0 : Nat) : Int), ())) := by
  intro j
  induction j with
  | zero => intro b hb hle n hn; exact absurd hle (by omega)
  | succ j ih =>
    intro b hb hle n hn
    obtain ⟨n, rfl⟩ : ∃ m, n = m + 1 := ⟨n - 1, by omega⟩
    rw [G10_6_eq, sel_pos (by omega), fEq hy (isI_nat' (by omega))]
    by_cases c : (b0 : Int) = b
    · rw [sel_pos c, wrap64 (n := 64 * (a : Int)) (by omega) (by omega), wrap64 (by omega) (by omega)]
      congr 3
      omega
    · rw [sel_neg c, wrap64 (by omega) (by omega), show ((b : Int) + 1) = ((b + 1 : Nat) : Int) by omega]
      exact ih (b + 1) (by omega) (by omega) n (by omega)
theorem tick_out (k : Nat) (x y : Nat) (a : Int) (hy : ¬ Wh y) : ∀ (j b : Nat), b + j = 64 → ∀ n, j < n →
    G10_6 k n ((x, y), a, (b : Int), ()) = some (.inl ((x, y), a, ())) := by
  intro j
  induction j with
  | zero =>
    intro b hb n hn
    obtain ⟨n, rfl⟩ : ∃ m, n = m + 1 := ⟨n - 1, by omega⟩
    rw [G10_6_eq, sel_neg (by omega)]
  | succ j ih =>
    intro b hb n hn
    obtain ⟨n, rfl⟩ : ∃ m, n = m + 1 := ⟨n - 1, by omega⟩
    rw [G10_6_eq, sel_pos (by omega)]
    cases c : fltEq y (fltOf (b : Int)) with
    | true => exact absurd ⟨b, by omega, fEq_isI (by omega) (by omega) c⟩ hy
    | false =>
      rw [sel_false, wrap64 (by omega) (by omega), show ((b : Int) + 1) = ((b + 1 : Nat) : Int) by omega]
      exact ih (b + 1) (by omega) n (by omega)
theorem tick_yes (k : Nat) (hk : 100 < k) (x y : Nat) (a0 b0 : Nat) (ha0 : a0 < 64) (hb0 : b0 < 64) (hx : isI x a0) (hy : isI y b0) : ∀ (j a : Nat), a + j = 64 → a ≤ a0 → ∀ n, j < n →
    G10_2 k n ((x, y), (a : Int), ()) = some (.inr (((64 * a0 + b0 : Nat) : Int), ())) := by
  intro j
  induction j with
  | zero => intro b hb hle n hn; exact absurd hle (by omega)
  | succ j ih =>
    intro a hb hle n hn
    obtain ⟨n, rfl⟩ : ∃ m, n = m + 1 := ⟨n - 1, by omega⟩
    rw [G10_2_eq, sel_pos (by omega), fEq hx (isI_nat' (by omega)), sel_not]
    by_cases c : (a0 : Int) = a
    · obtain rfl : a0 = a := by omega
      have := tick_in k x y a0 b0 ha0 hb0 hy 64 0 (by omega) (by omega) k (by omega)
      rw [Int.natCast_zero] at this
      rw [sel_pos c, this, ocall_some, esel_inr]
    · rw [sel_neg c, wrap64 (by omega) (by omega), show ((a : Int) + 1) = ((a + 1 : Nat) : Int) by omega]
      exact ih (a + 1) (by omega) (by omega) n (by omega)
theorem tick_no (k : Nat) (hk : 100 < k) (x y : Nat) (h : ¬ (Wh x ∧ Wh y)) : ∀ (j a : Nat), a + j = 64 → ∀ n, j < n →
    G10_2 k n ((x, y), (a : Int), ()) = some (.inl ()) := by
  intro j
  induction j with
  | zero =>
    intro a hb n hn
    obtain ⟨n, rfl⟩ : ∃ m, n = m + 1 := ⟨n - 1, by omega⟩
    rw [G10_2_eq, sel_neg (by omega)]
  | succ j ih =>
    intro a hb n hn
    obtain ⟨n, rfl⟩ : ∃ m, n = m + 1 := ⟨n - 1, by omega⟩
    have hi := ih (a + 1) (by omega) n (by omega)
    have hw : IntKind.i64.wrap ((a : Int) + 1) = ((a + 1 : Nat) : Int) := by rw [wrap64 (by omega) (by omega)]; omega
    rw [G10_2_eq, sel_pos (by omega), hw]
    cases c : fltEq x (fltOf (a : Int)) with
    | false => exact hi
    | true =>
      have hy : ¬ Wh y := fun hy => h ⟨⟨a, by omega, fEq_isI (by omega) (by omega) c⟩, hy⟩
      have := tick_out k x y (a : Int) hy 64 0 (by omega) k (by omega)
      rw [Int.natCast_zero] at this
      rw [Bool.not_true, sel_false, this, ocall_some, esel_inl]
      simp only [hw]
      exact hi
theorem tick_of {k : Nat} (hk : 100 < k) {z : Nat × Nat} {n : Nat} (h : isH z n) : G10 k (z, ()) = some ((n : Int), ()) := by
  obtain ⟨x, y⟩ := z
  obtain ⟨a, b, ha, hb, rfl, hx, hy⟩ := h
  have := tick_yes k hk x y a b ha hb hx hy 64 0 (by omega) (by omega) k (by omega)
  rw [Int.natCast_zero] at this
  rw [G10_eq, this, ocall_some]
  rfl
theorem tick_not {k : Nat} (hk : 100 < k) {z : Nat × Nat} (h : ¬ ∃ n, isH z n) : G10 k (z, ()) = some (-1, ()) := by
  obtain ⟨x, y⟩ := z
  have := tick_no k hk x y (fun hw => h ((wh_H x y).1 hw)) 64 0 (by omega) k (by omega)
  rw [Int.natCast_zero] at this
  rw [G10_eq, this, ocall_some]
  rfl
theorem radd_of {k : Nat} (hk : 100 < k) {z w : Nat × Nat} {n m : Nat} (hz : isH z n) (hw : isH w m) : ∃ v, G14 k (z, w, ()) = some (v, ()) ∧ isH v ((n + m) % 4096) := by
  have h1 := tick_of hk hz
  have h2 := tick_of hk hw
  have l1 := isH_lt hz
  have l2 := isH_lt hw
  obtain ⟨x, y⟩ := z
  obtain ⟨u, v⟩ := w
  obtain ⟨q, h3, h4⟩ := G20_is k (((n + m) % 4096 : Nat) : Int) (by omega) (by omega)
  rw [G14_eq, h1, ocall_some, h2, ocall_some, sel_neg (by omega), sel_neg (by omega), wrap64 (by omega) (by omega), tmod4 (by omega), show ((n : Int) + m) % 4096 = (((n + m) % 4096 : Nat) : Int) by omega, h3, ocall_some]
  rw [Int.toNat_natCast] at h4
  exact ⟨_, rfl, h4⟩
theorem radd_not {k : Nat} (hk : 100 < k) {z w : Nat × Nat} (h : ¬ ((∃ n, isH z n) ∧ ∃ m, isH w m)) : G14 k (z, w, ()) = some ((0, 0), ()) := by
  obtain ⟨x, y⟩ := z
  obtain ⟨u, v⟩ := w
  rw [G14_eq]
  by_cases h1 : ∃ n, isH (x, y) n
  · obtain ⟨n, hn⟩ := h1
    rw [tick_of hk hn, ocall_some, tick_not hk (fun h2 => h ⟨⟨n, hn⟩, h2⟩), ocall_some, sel_neg (by omega), sel_pos (by omega)]
  · rw [tick_not hk h1, ocall_some]
    by_cases h2 : ∃ n, isH (u, v) n
    · obtain ⟨n, hn⟩ := h2
      rw [tick_of hk hn, ocall_some, sel_pos (by omega)]
    · rw [tick_not hk h2, ocall_some, sel_pos (by omega)]
theorem rturn_of {k : Nat} (hk : 100 < k) {z : Nat × Nat} {n : Nat} (hz : isH z n) (t : Int) : ∃ v, G16 k (z, t, ()) = some (v, ()) ∧ isH v (((n : Int) + t) % 4096).toNat := by
  have h1 := tick_of hk hz
  have l1 := isH_lt hz
  obtain ⟨x, y⟩ := z
  have hb : -4096 < t.tmod 4096 ∧ t.tmod 4096 < 4096 ∧ ((n : Int) + t.tmod 4096 + 4096) % 4096 = ((n : Int) + t) % 4096 := by
    rcases (show 0 ≤ t ∨ t ≤ 0 by omega) with h | h
    · rw [tmod4 h]; omega
    · rw [tmod4_neg h]; omega
  obtain ⟨b1, b2, b3⟩ := hb
  have e : (IntKind.i64.wrap (IntKind.i64.wrap ((n : Int) + t.tmod 4096) + 4096)).tmod 4096 = ((n : Int) + t) % 4096 := by
    rw [wrap64 (n := (n : Int) + t.tmod 4096) (by omega) (by omega), wrap64 (by omega) (by omega), tmod4 (by omega), b3]
  obtain ⟨q, h3, h4⟩ := G20_is k (((n : Int) + t) % 4096) (by omega) (by omega)
  rw [G16_eq, h1, ocall_some, sel_neg (by omega), e, h3, ocall_some]
  exact ⟨_, rfl, h4⟩
theorem rturn_not {k : Nat} (hk : 100 < k) {z : Nat × Nat} (h : ¬ ∃ n, isH z n) (t : Int) : G16 k (z, t, ()) = some ((0, 0), ()) := by
  obtain ⟨x, y⟩ := z
  rw [G16_eq, tick_not hk h, ocall_some, sel_pos (by omega)]
theorem rway_loop (k : Nat) (n m : Nat) (hn : n < 4096) (hm : m < 4096) : ∀ (j i : Nat), (i : Int) + j = ((m : Int) - n) % 4096 → ∀ p, j < p →
    G18_5 k p ((n : Int), (m : Int), (i : Int), ()) = some (.inr (((m : Int) - n) % 4096, ())) := by
  intro j
  induction j with
  | zero =>
    intro i hi p hp
    obtain ⟨p, rfl⟩ : ∃ m, p = m + 1 := ⟨p - 1, by omega⟩
    rw [G18_5_eq, sel_pos (by omega), wrap64 (by omega) (by omega), tmod4 (by omega), sel_pos (by omega)]
    congr 3 <;> omega
  | succ j ih =>
    intro i hi p hp
    obtain ⟨p, rfl⟩ : ∃ m, p = m + 1 := ⟨p - 1, by omega⟩
    rw [G18_5_eq, sel_pos (by omega), wrap64 (n := (n : Int) + i) (by omega) (by omega), tmod4 (by omega), sel_neg (by omega), wrap64 (by omega) (by omega), show ((i : Int) + 1) = ((i + 1 : Nat) : Int) by omega]
    exact ih (i + 1) (by omega) p (by omega)
theorem rway_of {k : Nat} (hk : 5000 ≤ k) {z w : Nat × Nat} {n m : Nat} (hz : isH z n) (hw : isH w m) : G18 k (z, w, ()) = some (((m : Int) - n) % 4096, ()) := by
  have h1 := tick_of (show 100 < k by omega) hz
  have h2 := tick_of (show 100 < k by omega) hw
  have l1 := isH_lt hz
  have l2 := isH_lt hw
  obtain ⟨x, y⟩ := z
  obtain ⟨u, v⟩ := w
  have hl := rway_loop k n m l1 l2 (((m : Int) - n) % 4096).toNat 0 (by omega) k (by omega)
  rw [Int.natCast_zero] at hl
  rw [G18_eq, h1, ocall_some, h2, ocall_some, sel_neg (by omega), sel_neg (by omega), hl, ocall_some]
  rfl
theorem rway_not {k : Nat} (hk : 5000 ≤ k) {z w : Nat × Nat} (h : ¬ ((∃ n, isH z n) ∧ ∃ m, isH w m)) : G18 k (z, w, ()) = some (-1, ()) := by
  have hk' : 100 < k := by omega
  obtain ⟨x, y⟩ := z
  obtain ⟨u, v⟩ := w
  rw [G18_eq]
  by_cases h1 : ∃ n, isH (x, y) n
  · obtain ⟨n, hn⟩ := h1
    rw [tick_of hk' hn, ocall_some, tick_not hk' (fun h2 => h ⟨⟨n, hn⟩, h2⟩), ocall_some, sel_neg (by omega), sel_pos (by omega)]
  · rw [tick_not hk' h1, ocall_some]
    by_cases h2 : ∃ n, isH (u, v) n
    · obtain ⟨n, hn⟩ := h2
      rw [tick_of hk' hn, ocall_some, sel_pos (by omega)]
    · rw [tick_not hk' h2, ocall_some, sel_pos (by omega)]
theorem rnext_loop (k : Nat) (now : Int) (h0 : 0 ≤ now) (h : now ≤ 18446744073709551615) (n : Nat) (hn : n < 4096) : ∀ (j i : Nat), (i : Int) + j + 1 = gap now n → now + i ≤ 18446744073709551615 → ∀ p, j < p →
    G8_5 k p (now + i, (n : Int), (i : Int), ()) = some (.inr ((nextT now n).1, (nextT now n).2, ())) := by
  have hg : 1 ≤ gap now n ∧ gap now n ≤ 4096 ∧ (now + gap now n) % 4096 = n ∧ ∀ d : Int, 1 ≤ d → d < gap now n → (now + d) % 4096 ≠ n := by
    unfold gap
    split
    · refine ⟨by omega, by omega, by omega, fun d h1 h2 => by omega⟩
    · refine ⟨by omega, by omega, by omega, fun d h1 h2 => by omega⟩
  obtain ⟨g1, g2, g3, g4⟩ := hg
  unfold nextT
  generalize gap now n = g at *
  intro j
  induction j with
  | zero =>
    intro i hi hle p hp
    obtain ⟨p, rfl⟩ : ∃ m, p = m + 1 := ⟨p - 1, by omega⟩
    rw [G8_5_eq, sel_pos (by omega)]
    by_cases c : now + i = 18446744073709551615
    · rw [sel_pos c, if_neg (by omega)]
    · have hw : IntKind.u64.wrap (now + i + 1) = now + g := by rw [wrapu64 (by omega) (by omega)]; omega
      rw [sel_neg c, hw, tmod4 (by omega), wrapu64 (n := (n : Int)) (by omega) (by omega), sel_pos g3, if_pos (by omega)]
  | succ j ih =>
    intro i hi hle p hp
    obtain ⟨p, rfl⟩ : ∃ m, p = m + 1 := ⟨p - 1, by omega⟩
    rw [G8_5_eq, sel_pos (by omega)]
    by_cases c : now + i = 18446744073709551615
    · rw [sel_pos c, if_neg (by omega)]
    · have hw : IntKind.u64.wrap (now + i + 1) = now + ((i + 1 : Nat) : Int) := by rw [wrapu64 (by omega) (by omega)]; omega
      have hne := g4 ((i + 1 : Nat) : Int) (by omega) (by omega)
      rw [sel_neg c, hw, tmod4 (by omega), wrapu64 (n := (n : Int)) (by omega) (by omega), sel_neg hne, wrap64 (by omega) (by omega), show ((i : Int) + 1) = ((i + 1 : Nat) : Int) by omega]
      exact ih (i + 1) (by omega) (by omega) p (by omega)
theorem rnext_of {k : Nat} (hk : 5000 ≤ k) (now : Int) (h0 : 0 ≤ now) (h : now ≤ 18446744073709551615) {z : Nat × Nat} {n : Nat} (hz : isH z n) : G8 k (now, z, ()) = some ((nextT now n).1, (nextT now n).2, ()) := by
  have h1 := tick_of (show 100 < k by omega) hz
  have l1 := isH_lt hz
  obtain ⟨x, y⟩ := z
  have hg : 1 ≤ gap now n ∧ gap now n ≤ 4096 := by unfold gap; split <;> omega
  have hl := rnext_loop k now h0 h n l1 (gap now n - 1).toNat 0 (by omega) (by omega) k (by omega)
  rw [Int.natCast_zero, Int.add_zero] at hl
  rw [G8_eq, h1, ocall_some, sel_neg (by omega), hl, ocall_some]
  rfl
theorem rnext_not {k : Nat} (hk : 5000 ≤ k) (now : Int) {z : Nat × Nat} (hz : ¬ ∃ n, isH z n) : G8 k (now, z, ()) = some (0, 1, ()) := by
  obtain ⟨x, y⟩ := z
  rw [G8_eq, tick_not (by omega) hz, ocall_some, sel_pos (by omega)]
theorem same_of {z w : Nat × Nat} {n : Nat} (hz : isH z n) (hw : isH w n) : cSame z.1 z.2 w.1 w.2 = true := by
  obtain ⟨a, b, ha, hb, rfl, hx, hy⟩ := hz
  obtain ⟨c, d, hc, hd, he, hu, hv⟩ := hw
  have e1 := fEq hx hu
  have e2 := fEq hy hv
  rw [decide_eq_true (by omega)] at e1 e2
  unfold cSame
  rw [show Op.floatEq .f64 z.1 w.1 = true from e1, show Op.floatEq .f64 z.2 w.2 = true from e2]; rfl
theorem same_zero : cSame 0 0 0 0 = true := by kernel_rfl
theorem h21 : isH (4611686018427387904, 4607182418800017408) 129 := ⟨2, 1, by omega, by omega, rfl, i2c, i1c⟩
theorem h22 : isH (4611686018427387904, 4611686018427387904) 130 := ⟨2, 2, by omega, by omega, rfl, i2c, i2c⟩
theorem h00 : isH (0, 0) 0 := ⟨0, 0, by omega, by omega, rfl, isI_zero, isI_zero⟩
theorem h163 : isH (4607182418800017408, 4634063279075885056) 127 := ⟨1, 63, by omega, by omega, rfl, i1c, i63c⟩
theorem h02 : isH (0, 4611686018427387904) 2 := ⟨0, 2, by omega, by omega, rfl, isI_zero, i2c⟩
theorem h6363 : isH (4634063279075885056, 4634063279075885056) 4095 := ⟨63, 63, by omega, by omega, rfl, i63c, i63c⟩
theorem h630 : isH (4634063279075885056, 0) 4032 := ⟨63, 0, by omega, by omega, rfl, i63c, isI_zero⟩
theorem h640 : ¬ ∃ n, isH (4634204016564240384, 0) n := by
  rintro ⟨n, a, b, ha, hb, _, hx, _⟩
  have := isI_one hx i64c
  omega
theorem G5_is (k : Nat) : G5 k () = some (true, ()) := by
  obtain ⟨z1, p1, q1⟩ := G11_is k 130 (by omega) (by omega)
  obtain ⟨z2, p2, q2⟩ := G13_is k h163 h02
  obtain ⟨z3, p3, q3⟩ := G15_is k h00 (-1)
  have s1 := same_of q1 h22
  have s2 := same_of q2 h21
  have s3 := same_of q3 h6363
  rw [G5_eq, G7_is k 130 (by omega) (by omega) h21, ocall_some, G7_is k 18446744073709551614 (by omega) (by omega) h00, ocall_some, p1, ocall_some, s1, sel_true, p2, ocall_some, s2, sel_true, p3, ocall_some, s3, sel_true, G17_is k h22 h21, ocall_some]
  rw [show nextT 130 129 = (4225, 0) from by decide, show nextT 18446744073709551614 0 = (0, 10) from by decide]
  rw [sel_pos (by decide), sel_pos (by decide), sel_pos (by decide), sel_pos (by decide), right_of h630, ocall_some, sel_true, not_right h640, ocall_some]
  rfl
end Go.Proofs.Ytmkgkgamkeeneaa.G
end
section
set_option linter.unusedVariables false
set_option linter.unusedSimpArgs false
set_option maxRecDepth 100000
namespace Go.Proofs.Ytmkgkgamkeeneaa.PureHandRight
open Go Go.Proofs.Ytmkgkgamkeeneaa Th G
theorem one (k : Nat) (hk : 5000 ≤ k) (z : Nat × Nat) (tick n : Int) (h0 : 0 ≤ tick) (h : tick ≤ 18446744073709551615) : ∃ (e f : Int) (r : Bool) (x : Int) (u v : Nat × Nat), G7 k (tick, z, ()) = some (e, f, ()) ∧ G8 k (tick, z, ()) = some (e, f, ()) ∧ G9 k (z, ()) = some (r, ()) ∧ G10 k (z, ()) = some (x, ()) ∧ (r == decide (0 ≤ x)) = true ∧
      G15 k (z, n, ()) = some (u, ()) ∧ G16 k (z, n, ()) = some (v, ()) ∧ cSame u.1 u.2 v.1 v.2 = true := by
  by_cases hz : ∃ m, isH z m
  · obtain ⟨m, hm⟩ := hz
    obtain ⟨u, u1, u2⟩ := G15_is k hm n
    obtain ⟨v, v1, v2⟩ := rturn_of (k := k) (by omega) hm n
    have hx : (true == decide ((0 : Int) ≤ (m : Int))) = true := by rw [decide_eq_true (by omega)]; rfl
    exact ⟨_, _, _, _, u, v, G7_is k tick h0 h hm, rnext_of (by omega) tick h0 h hm, right_of hm, tick_of (by omega) hm, hx, u1, v1, same_of u2 v2⟩
  · exact ⟨_, _, _, _, (0, 0), (0, 0), next_not tick h0 h hz, rnext_not (by omega) tick hz, not_right hz, tick_not (by omega) hz, rfl, turn_not hz n, rturn_not (by omega) hz n, same_zero⟩
theorem two (k : Nat) (hk : 5000 ≤ k) (z y : Nat × Nat) : ∃ (u v : Nat × Nat) (e : Int), G13 k (z, y, ()) = some (u, ()) ∧ G14 k (z, y, ()) = some (v, ()) ∧ cSame u.1 u.2 v.1 v.2 = true ∧
      G17 k (z, y, ()) = some (e, ()) ∧ G18 k (z, y, ()) = some (e, ()) := by
  by_cases hz : (∃ m, isH z m) ∧ ∃ m, isH y m
  · obtain ⟨⟨m, hm⟩, m2, hm2⟩ := hz
    obtain ⟨u, u1, u2⟩ := G13_is k hm hm2
    obtain ⟨v, v1, v2⟩ := radd_of (k := k) (by omega) hm hm2
    exact ⟨u, v, _, u1, v1, same_of u2 v2, G17_is k hm hm2, rway_of (by omega) hm hm2⟩
  · exact ⟨(0, 0), (0, 0), _, add_not hz, radd_not (by omega) hz, same_zero, way_not hz, rway_not (by omega) hz⟩
theorem main (k : Nat) (hk : 5000 ≤ k) (a b c d : Nat) (tick n : Int) (h0 : 0 ≤ tick) (h : tick ≤ 18446744073709551615) : G3 k (a, b, c, d, tick, n, ()) = some (true, ()) := by
  obtain ⟨z1, p1, q1⟩ := G11_is k tick h0 h
  obtain ⟨z2, p2, q2⟩ := G12_is k tick h0 h
  have s1 := same_of q1 q2
  obtain ⟨e, f, r, x, u, v, e1, e2, e3, e4, e5, e6, e7, e8⟩ := one k hk (a, b) tick n h0 h
  obtain ⟨u', v', w, f1, f2, f3, f4, f5⟩ := two k hk (a, b) (c, d)
  rw [G3_eq, G5_is, ocall_some]
  rw [show (!(true, ()).1) = false from rfl, sel_false, G6_eq, ocall_some, G6_eq, ocall_some]
  rw [show ((((a, b), ()) : (Nat × Nat) × Unit).1.1, (((a, b), ()) : (Nat × Nat) × Unit).1.2) = (a, b) from rfl, show ((((c, d), ()) : (Nat × Nat) × Unit).1.1, (((c, d), ()) : (Nat × Nat) × Unit).1.2) = (c, d) from rfl]
  rw [e1, ocall_some, e2, ocall_some, e3, ocall_some, e4, ocall_some]
  rw [show ((r, ()) : Bool × Unit).1 = r from rfl, show ((x, ()) : Int × Unit).1 = x from rfl, e5, sel_true, p1, ocall_some, p2, ocall_some]
  rw [show cSame ((z1, ()) : (Nat × Nat) × Unit).1.1 ((z1, ()) : (Nat × Nat) × Unit).1.2 ((z2, ()) : (Nat × Nat) × Unit).1.1 ((z2, ()) : (Nat × Nat) × Unit).1.2 = true from s1, sel_true, f1, ocall_some, f2, ocall_some]
  rw [show cSame ((u', ()) : (Nat × Nat) × Unit).1.1 ((u', ()) : (Nat × Nat) × Unit).1.2 ((v', ()) : (Nat × Nat) × Unit).1.1 ((v', ()) : (Nat × Nat) × Unit).1.2 = true from f3, sel_true, e6, ocall_some, e7, ocall_some]
  rw [show cSame ((u, ()) : (Nat × Nat) × Unit).1.1 ((u, ()) : (Nat × Nat) × Unit).1.2 ((v, ()) : (Nat × Nat) × Unit).1.1 ((v, ()) : (Nat × Nat) × Unit).1.2 = true from e8, sel_true, f4, ocall_some, f5, ocall_some]
  rw [decide_eq_true rfl, decide_eq_true rfl, decide_eq_true rfl, sel_true, sel_true]
theorem pure (x0 : Ty.den .flt) (x1 : Ty.den .flt) (x2 : Ty.den .flt) (x3 : Ty.den .flt) (x4 : Ty.den (.int .u64)) (x5 : Ty.den (.int .i64)) (g0 : Ty.Good .flt x0) (g1 : Ty.Good .flt x1) (g2 : Ty.Good .flt x2) (g3 : Ty.Good .flt x3) (g4 : Ty.Good (.int .u64) x4) (g5 : Ty.Good (.int .i64) x5) : ∃ k, F3 k (x0, (x1, (x2, (x3, (x4, (x5, PUnit.unit)))))) = some (true, PUnit.unit) :=
  ⟨6000, main 6000 (by omega) x0 x1 x2 x3 x4 x5 (good_u64 g4).1 (good_u64 g4).2⟩
end Go.Proofs.Ytmkgkgamkeeneaa.PureHandRight
end
section
set_option linter.unusedVariables false
set_option linter.unusedSimpArgs false
namespace Go.Proofs.Ytmkgkgamkeeneaa.handRight
open Go.ChangeShapes Go.WideShapes Go.ChangeAt Go.RowKit Go.Proofs.Ytmkgkgamkeeneaa Th G
open Go.ChangeMaps (open_string shut_string)
theorem own : ownKnob Try.prog.godebug = none := by kernel_rfl
theorem laidOut : laidOutB Try.prog = true := by kernel_rfl
set_option maxRecDepth 100000 in
theorem lifted (os : Os) (started : os.Started) (H : Type) (enc : TypeId × Value → H) :
    ReturnsInHanded {} Try.checked os 3 .any (Rows.handRightSpec.pre6 enc Try.prog Try.f3 Rows.handRightRow.domain false) (Rows.handRightSpec.post enc Try.prog Try.f3 false true false false) := by
  refine returnsInHanded_of_change_sized (C := Try.checked) own started (by kernel_rfl) Try.func3
    (ChangeSpec.witness6 (enc := enc) (C := Try.checked) false ⟨#[], #[.float .f64 0, .float .f64 0, .float .f64 0, .float .f64 0, .int .u64 0, .int .i64 0], []⟩ 8 (by kernel_rfl) (by kernel_rfl) (by kernel_rfl) (by kernel_rfl)) ?_
  intro W base args ds gs before hval0 hW hcnd hsz0 _
  have hsz : (DataW.weightsEach Try.prog (Try.f3.params.toList ++ Rows.handRightSpec.plain.varTypes Try.prog) (ds ++ gs)).all (· ≤ reachBytes) = true := hsz0
  have hval : ∀ (j : Nat) t v, Try.f3.params[j]? = some t → args[j]? = some v → Value.okWide Try.prog W .any base t v := hval0
  have hW' := hW
  obtain ⟨p, q, hA0, hV, rfl, hfz, hnd⟩ := hW
  have hA : DataW.TrodAll enc Try.prog W 0 (fun _ => true) true Try.f3.params.toList args.toList ds p := hA0
  rw [Try.params3] at hA hval hsz
  obtain ⟨v0, vs0, d0, ds0, p0, q0, hargs, rfl, rfl, h0, r0⟩ := trodAll_cons hA
  obtain ⟨v1, vs1, d1, ds1, p1, q1, rfl, rfl, rfl, h1, r1⟩ := trodAll_cons r0
  obtain ⟨v2, vs2, d2, ds2, p2, q2, rfl, rfl, rfl, h2, r2⟩ := trodAll_cons r1
  obtain ⟨v3, vs3, d3, ds3, p3, q3, rfl, rfl, rfl, h3, r3⟩ := trodAll_cons r2
  obtain ⟨v4, vs4, d4, ds4, p4, q4, rfl, rfl, rfl, h4, r4⟩ := trodAll_cons r3
  obtain ⟨v5, vs5, d5, ds5, p5, q5, rfl, rfl, rfl, h5, r5⟩ := trodAll_cons r4
  obtain ⟨rfl, rfl, rfl⟩ := trodAll_nil r5
  obtain rfl : args = #[v0, v1, v2, v3, v4, v5] := by cases args; simp_all
  obtain ⟨rfl, rfl⟩ := trodVars_none hV
  obtain ⟨x0, a0, g0⟩ := open_arg (T := .flt) (by kernel_rfl) (hval 0 22 v0 rfl rfl) h0 (weights_of hsz (j := 0) (t := 22) rfl rfl)
  have k0 := h0
  have lt0 : ∀ x ∈ p0, x.block < W.heap.size := by obtain ⟨m, hm⟩ := k0; exact DataW.trod_lt m _ _ _ hm
  obtain ⟨x1, a1, g1⟩ := open_arg (T := .flt) (by kernel_rfl) (hval 1 22 v1 rfl rfl) h1 (weights_of hsz (j := 1) (t := 22) rfl rfl)
  have k1 := h1
  have lt1 : ∀ x ∈ p1, x.block < W.heap.size := by obtain ⟨m, hm⟩ := k1; exact DataW.trod_lt m _ _ _ hm
  obtain ⟨x2, a2, g2⟩ := open_arg (T := .flt) (by kernel_rfl) (hval 2 22 v2 rfl rfl) h2 (weights_of hsz (j := 2) (t := 22) rfl rfl)
  have k2 := h2
  have lt2 : ∀ x ∈ p2, x.block < W.heap.size := by obtain ⟨m, hm⟩ := k2; exact DataW.trod_lt m _ _ _ hm
  obtain ⟨x3, a3, g3⟩ := open_arg (T := .flt) (by kernel_rfl) (hval 3 22 v3 rfl rfl) h3 (weights_of hsz (j := 3) (t := 22) rfl rfl)
  have k3 := h3
  have lt3 : ∀ x ∈ p3, x.block < W.heap.size := by obtain ⟨m, hm⟩ := k3; exact DataW.trod_lt m _ _ _ hm
  obtain ⟨x4, a4, g4⟩ := open_arg (T := (.int .u64)) (by kernel_rfl) (hval 4 23 v4 rfl rfl) h4 (weights_of hsz (j := 4) (t := 23) rfl rfl)
  have k4 := h4
  have lt4 : ∀ x ∈ p4, x.block < W.heap.size := by obtain ⟨m, hm⟩ := k4; exact DataW.trod_lt m _ _ _ hm
  obtain ⟨x5, a5, g5⟩ := open_arg (T := (.int .i64)) (by kernel_rfl) (hval 5 3 v5 rfl rfl) h5 (weights_of hsz (j := 5) (t := 3) rfl rfl)
  have k5 := h5
  have lt5 : ∀ x ∈ p5, x.block < W.heap.size := by obtain ⟨m, hm⟩ := k5; exact DataW.trod_lt m _ _ _ hm
  obtain ⟨k, hk⟩ := PureHandRight.pure x0 x1 x2 x3 x4 x5 g0 g1 g2 g3 g4 g5
  clear hA0 hval0 hsz0 hsz
  refine (law_of (fn3 k [Ty.av .flt x0, Ty.av .flt x1, Ty.av .flt x2, Ty.av .flt x3, Ty.av (.int .u64) x4, Ty.av (.int .i64) x5] (x0, (x1, (x2, (x3, (x4, (x5, PUnit.unit)))))) (true, PUnit.unit) rfl rfl hk) (fun _ _ hr => by cases hr) (us := [v0, v1, v2, v3, v4, v5]) ⟨a0, a1, a2, a3, a4, a5, trivial⟩).mono fun e W' ⟨he, bel⟩ => ?_
  subst he
  exact ⟨_, rfl, _, _, _, [], _, [], hW', trodAll_mk1 (shut_bool Try.underlying4 _), (trodAll_cons_mk (Below.trod laidOut (by kernel_rfl) (of_decide_eq_true (by kernel_rfl)) k0 bel lt0) (trodAll_cons_mk (Below.trod laidOut (by kernel_rfl) (of_decide_eq_true (by kernel_rfl)) k1 bel lt1) (trodAll_cons_mk (Below.trod laidOut (by kernel_rfl) (of_decide_eq_true (by kernel_rfl)) k2 bel lt2) (trodAll_cons_mk (Below.trod laidOut (by kernel_rfl) (of_decide_eq_true (by kernel_rfl)) k3 bel lt3) (trodAll_cons_mk (Below.trod laidOut (by kernel_rfl) (of_decide_eq_true (by kernel_rfl)) k4 bel lt4) (trodAll_cons_mk (Below.trod laidOut (by kernel_rfl) (of_decide_eq_true (by kernel_rfl)) k5 bel lt5) trodAll_mk0)))))), rfl, bel.frame _, fun h => by cases h⟩
theorem over : Rows.handRightRow.holds Try.pinned (OpenSpec.ofChange Rows.handRightSpec) :=
  OpenClaim.holds_of_wide 3 Try.f3 rfl rfl rfl rfl rfl rfl rfl ⟨rfl, rfl, rfl, rfl, rfl⟩ rfl rfl rfl rfl rfl (by kernel_rfl) Try.func3 (by kernel_rfl)
    (of_decide_eq_true (by kernel_rfl)) (by unfold Func.isWrapper; first | (rw [if_pos (by decide +kernel)]; kernel_rfl) | (rw [if_neg (by decide +kernel)]; exact ⟨rfl, rfl⟩))
    (fun os started H enc _ => lifted os started H enc)
end Go.Proofs.Ytmkgkgamkeeneaa.handRight
namespace Go.Proofs.Ytmkgkgamkeeneaa
theorem handRight_holds : Rows.HandRightSaid := handRight.over
end Go.Proofs.Ytmkgkgamkeeneaa
end
