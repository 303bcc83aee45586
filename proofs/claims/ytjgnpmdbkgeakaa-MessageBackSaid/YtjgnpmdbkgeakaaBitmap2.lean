/- What the document's answers for bitmaps answer; laws of bitmaps. -/
import Derived.Test.YtjgnpmdbkgeakaaBitmap
set_option linter.unusedVariables false
set_option linter.unusedSimpArgs false
set_option maxRecDepth 100000
namespace Go.Proofs.Ytjgnpmdbkgeakaa.G
open Go Go.Proofs.Ytjgnpmdbkgeakaa Th Bits

theorem half (w : Nat) : IntKind.u64.wrap ((w : Int).tdiv 2) = ((w / 2 : Nat) : Int) ∨ 18446744073709551616 ≤ w := by
  by_cases h : w < 18446744073709551616
  · left
    have : (w : Int).tdiv 2 = ((w / 2 : Nat) : Int) := by rw [show (2 : Int) = ((2 : Nat) : Int) from rfl, ← Int.ofNat_tdiv]
    rw [this]
    exact wrapu64 (by omega) (by omega)
  · right; omega

theorem G60_6_is (k : Nat) : ∀ (j i : Nat), i + j = 64 → ∀ (w : Nat), w < 18446744073709551616 → ∀ n, j < n → G60_6 k n ((w : Int), (i : Int), ()) = some (((w / 2 ^ j : Nat) : Int), ()) := by
  intro j
  induction j with
  | zero =>
    intro i hij w hw n hn
    obtain ⟨n, rfl⟩ : ∃ m, n = m + 1 := ⟨n - 1, by omega⟩
    rw [G60_6_eq, sel_neg (by omega)]
    simp
  | succ j ih =>
    intro i hij w hw n hn
    obtain ⟨n, rfl⟩ : ∃ m, n = m + 1 := ⟨n - 1, by omega⟩
    rw [G60_6_eq, sel_pos (by omega), wrap64 (by omega) (by omega)]
    rcases half w with h | h
    · rw [h]
      have := ih (i + 1) (by omega) (w / 2) (by omega) n (by omega)
      rw [Int.natCast_add, Int.natCast_one] at this
      rw [this, Nat.div_div_eq_div_mul, Nat.pow_succ, Nat.mul_comm]
    · omega

theorem odd_of (w e : Nat) : decide ((((w / 2 ^ e : Nat) : Int)).tmod 2 = 1) = w.testBit e := by
  rw [← test_div]
  refine decide_eq_decide.2 ?_
  rw [show (2 : Int) = ((2 : Nat) : Int) from rfl, ← Int.ofNat_tmod]
  omega

theorem G60_is (k : Nat) (hk : 100 < k) (m : BM) (hg : goodB m) (n : Int) (h1 : 1 ≤ n) (h2 : n ≤ 128) : G60 k (m, n, ()) = some (bitB m n.toNat, ()) := by
  obtain ⟨hi, lo, ⟨⟩⟩ := m
  obtain ⟨hi, rfl, hh⟩ := nat_of hg.1
  obtain ⟨lo, rfl, hl⟩ := nat_of hg.2
  obtain ⟨n, rfl⟩ : ∃ m : Nat, n = m := ⟨n.toNat, by omega⟩
  rw [G60_eq]
  unfold bitB
  simp only [Int.toNat_natCast]
  by_cases c : (64 : Int) < n
  · rw [sel_pos c, if_neg (by omega), wrap64 (by omega) (by omega), show (n : Int) - 64 = ((n - 64 : Nat) : Int) by omega, G60_6_is k (128 - n) (n - 64) (by omega) lo hl k (by omega), ocall_some]
    simp only [odd_of]
  · rw [sel_neg c, if_pos (by omega), G60_6_is k (64 - n) n (by omega) hi hh k (by omega), ocall_some]
    simp only [odd_of]

theorem G58_is (k : Nat) (hk : 100 < k) (m : BM) (hg : goodB m) : G58 k (m, ()) = some (rightB m, ()) := by
  have h65 := G60_is k hk m hg 65 (by omega) (by omega)
  have h1 := G60_is k hk m hg 1 (by omega) (by omega)
  obtain ⟨hi, lo, ⟨⟩⟩ := m
  have hlo : 0 ≤ lo := hg.2.1
  rw [G58_eq, h65, ocall_some, h1]
  unfold rightB
  have e : decide (0 < lo) = !decide (lo = 0) := by by_cases c : lo = 0 <;> simp [c]; omega
  simp only [ocall_some, e]
  show sel (!bitB (hi, lo, ()) 65) _ _ = _
  cases bitB (hi, lo, ()) 65 <;> rfl

theorem G59_is (k : Nat) (n : Int) : G59 k (n, ()) = some (fieldB n, ()) := by
  rw [G59_eq]
  have hiff := @fieldB_iff n
  cases hf : fieldB n with
  | true =>
    obtain ⟨a, b, c⟩ := hiff.1 hf
    rw [sel_pos a]
    by_cases d : n ≤ 64
    · rw [sel_pos d]
    · rw [sel_neg d, sel_pos (by omega), decide_eq_true b]
  | false =>
    have hn : ¬ (2 ≤ n ∧ n ≤ 128 ∧ n ≠ 65) := fun h => by rw [hiff.2 h] at hf; cases hf
    by_cases a : 2 ≤ n
    · rw [sel_pos a, sel_neg (by omega)]
      by_cases d : 66 ≤ n
      · rw [sel_pos d, decide_eq_false (by omega)]
      · rw [sel_neg d]
    · rw [sel_neg a, sel_neg (by omega)]

theorem G48_is (k : Nat) (hk : 100 < k) (m : BM) (hg : goodB m) (n : Int) : G48 k (m, n, ()) = some (hasB m n, ()) := by
  obtain ⟨hi, lo, ⟨⟩⟩ := m
  rw [G48_eq, G59_is, ocall_some]
  unfold hasB
  cases hf : fieldB n with
  | false => rfl
  | true =>
    have := fieldB_iff.1 hf
    rw [G60_is k hk _ hg n (by omega) (by omega)]; rfl

theorem G61_3_is (k : Nat) (m : Nat) (hm : m < 64) : ∀ (j i : Nat), i + j = m → ∀ n, j < n → G61_3 k n ((m : Int), ((2 ^ i : Nat) : Int), (i : Int), ()) = some (((2 ^ m : Nat) : Int), ()) := by
  intro j
  induction j with
  | zero =>
    intro i hij n hn
    obtain ⟨n, rfl⟩ : ∃ m, n = m + 1 := ⟨n - 1, by omega⟩
    rw [G61_3_eq, sel_neg (by omega), show i = m by omega]
  | succ j ih =>
    intro i hij n hn
    obtain ⟨n, rfl⟩ : ∃ m, n = m + 1 := ⟨n - 1, by omega⟩
    have hp := pow_lt (n := i + 1) (by omega)
    rw [G61_3_eq, sel_pos (by omega), wrap64 (by omega) (by omega)]
    have e : (2 : Int) * ((2 ^ i : Nat) : Int) = ((2 ^ (i + 1) : Nat) : Int) := by rw [Nat.pow_succ]; omega
    have key : ∀ z : Nat, z < 18446744073709551616 → IntKind.u64.wrap (z : Int) = z := fun z h => wrapu64 (by omega) (by omega)
    rw [e, key _ hp]
    have := ih (i + 1) (by omega) n (by omega)
    rw [Int.natCast_add, Int.natCast_one] at this
    exact this
theorem G61_is (k : Nat) (hk : 100 < k) (m : Nat) (hm : m < 64) : G61 k ((m : Int), ()) = some (((2 ^ m : Nat) : Int), ()) := by
  have h := G61_3_is k m hm m 0 (by omega) k (by omega)
  rw [Nat.pow_zero, Int.natCast_zero] at h
  rw [G61_eq]
  have e : (((1 : Nat) : Int)) = 1 := rfl
  rw [e] at h
  rw [h, ocall_some]

theorem add_wrap {w k : Nat} (hw : w < 18446744073709551616) (hk : k < 64) (h : w.testBit k = false) : IntKind.u64.wrap ((w : Int) + ((2 ^ k : Nat) : Int)) = ((w ||| 2 ^ k : Nat) : Int) := by
  have := or_lt hw hk
  have e := add_or hw hk h
  rw [← Int.natCast_add, e]
  exact wrapu64 (by omega) (by omega)

theorem G42_is (k : Nat) (hk : 100 < k) (m : BM) (hg : goodB m) (n : Int) : G42 k (m, n, ()) = some ((putB m n).1, (putB m n).2, ()) := by
  have hR := G58_is k hk m hg
  have hB := G60_is k hk m hg n
  obtain ⟨hi, lo, ⟨⟩⟩ := m
  rw [G42_eq, hR, ocall_some]
  unfold putB
  cases hr : rightB (hi, lo, ()) with
  | false => rw [if_neg (by simp)]; rfl
  | true =>
  simp only [Bool.not_true, sel_false]
  rw [G59_is, ocall_some]
  cases hf : fieldB n with
  | false => rw [if_neg (by simp)]; rfl
  | true =>
  rw [if_pos (by simp)]
  simp only [Bool.not_true, sel_false]
  obtain ⟨f1, f2, f3⟩ := fieldB_iff.1 hf
  obtain ⟨n, rfl⟩ : ∃ m : Nat, n = m := ⟨n.toNat, by omega⟩
  obtain ⟨hi, rfl, hh⟩ := nat_of hg.1
  obtain ⟨lo, rfl, hl⟩ := nat_of hg.2
  obtain ⟨r1, r2⟩ := rightB_iff.1 hr
  rw [hB (by omega) (by omega), ocall_some]
  unfold setB
  simp only [Int.toNat_natCast]
  cases hb : bitB ((hi : Int), (lo : Int), ()) n with
  | true =>
    rw [sel_true]
    unfold bitB at hb
    simp only [Int.toNat_natCast] at hb
    by_cases c : n ≤ 64
    · rw [if_pos c] at hb ⊢
      rw [or_self hb]
    · rw [if_neg c] at hb ⊢
      have hz : (lo : Int) ≠ 0 := fun e => by
        have e0 : lo = 0 := by omega
        rw [e0, Nat.zero_testBit] at hb; cases hb
      have h63 : hi.testBit 63 = true := by have := r2.2 hz; simpa [bitB] using this
      rw [or_self hb, or_self h63]
  | false =>
    rw [sel_false]
    unfold bitB at hb
    simp only [Int.toNat_natCast] at hb
    by_cases c : (n : Int) ≤ 64
    · rw [if_pos (by omega)] at hb ⊢
      rw [sel_pos c, wrap64 (by omega) (by omega), show (64 : Int) - n = ((64 - n : Nat) : Int) by omega, G61_is k hk _ (by omega), ocall_some]
      (try simp only [])
      rw [add_wrap hh (by omega) hb]
    · rw [if_neg (by omega)] at hb ⊢
      rw [sel_neg c, wrap64 (by omega) (by omega), show (128 : Int) - n = ((128 - n : Nat) : Int) by omega, G61_is k hk _ (by omega)]
      by_cases hz : (lo : Int) = 0
      · have e63 : (63 : Int) = ((63 : Nat) : Int) := rfl
        rw [sel_pos hz, e63, G61_is k hk _ (by omega), ocall_some, ocall_some]
        have h63 : hi.testBit 63 = false := by
          cases h : hi.testBit 63 with
          | false => rfl
          | true => exact absurd hz (r2.1 (by simpa [bitB] using h))
        (try simp only [])
        rw [add_wrap hh (by omega) h63, add_wrap hl (by omega) hb]
      · rw [sel_neg hz, ocall_some]
        have h63 : hi.testBit 63 = true := by have := r2.2 hz; simpa [bitB] using this
        (try simp only [])
        rw [add_wrap hl (by omega) hb, or_self h63]

theorem u8mod (w : Nat) : IntKind.u8.wrap ((w : Int).tmod 256) = ((w % 256 : Nat) : Int) := by
  rw [show (256 : Int) = ((256 : Nat) : Int) from rfl, ← Int.ofNat_tmod]
  unfold IntKind.wrap
  simp only [IntKind.bits, IntKind.signed]
  simp
theorem div256 {w : Nat} (hw : w < 18446744073709551616) : IntKind.u64.wrap ((w : Int).tdiv 256) = ((w / 256 : Nat) : Int) := by
  rw [show (256 : Int) = ((256 : Nat) : Int) from rfl, ← Int.ofNat_tdiv]
  exact wrapu64 (by omega) (by omega)

theorem G62_3_step (k c : Nat) (w : Nat) (hw : w < 18446744073709551616) (l : List Int) (hl : l.length = 8) (i : Nat) (hi : i < 8) :
    G62_3 k (c + 1) ((w : Int), l, (i : Int), ()) = G62_3 k c (((w / 256 : Nat) : Int), l.set i ((w % 256 : Nat) : Int), (i : Int) - 1, ()) := by
  rw [G62_3_eq, sel_pos (by omega), sel_pos (by omega), sel_pos (by simp only [ofNat_len]; omega), Int.toNat_natCast, sel_pos (by omega), div256 hw, u8mod, wrap64 (by omega) (by omega)]

theorem G62_is (k : Nat) (hk : 20 < k) (w : Nat) (hw : w < 18446744073709551616) : G62 k ((w : Int), ()) = some (be8 w, ()) := by
  obtain ⟨c, rfl⟩ : ∃ c, k = c + 9 := ⟨k - 9, by omega⟩
  rw [G62_eq]
  have e0 : List.replicate (Int.toNat 8) (0 : Int) = [0, 0, 0, 0, 0, 0, 0, 0] := rfl
  have st : ∀ (c w : Nat), w < 18446744073709551616 → ∀ (l : List Int), l.length = 8 → ∀ (i : Nat), i < 8 → ∀ x : Int, x = (i : Int) → ∀ k, G62_3 k (c + 1) ((w : Int), l, x, ()) = G62_3 k c (((w / 256 : Nat) : Int), l.set i ((w % 256 : Nat) : Int), x - 1, ()) := by
    intro c w hw l hl i hi x hx k
    rw [hx]; exact G62_3_step k c w hw l hl i hi
  rw [e0, st (c + 8) w hw _ rfl 7 (by omega) 7 rfl, st (c + 7) _ (by omega) _ rfl 6 (by omega) (7 - 1) rfl, st (c + 6) _ (by omega) _ rfl 5 (by omega) (7 - 1 - 1) rfl, st (c + 5) _ (by omega) _ rfl 4 (by omega) (7 - 1 - 1 - 1) rfl,
    st (c + 4) _ (by omega) _ rfl 3 (by omega) (7 - 1 - 1 - 1 - 1) rfl, st (c + 3) _ (by omega) _ rfl 2 (by omega) (7 - 1 - 1 - 1 - 1 - 1) rfl, st (c + 2) _ (by omega) _ rfl 1 (by omega) (7 - 1 - 1 - 1 - 1 - 1 - 1) rfl, st (c + 1) _ (by omega) _ rfl 0 (by omega) (7 - 1 - 1 - 1 - 1 - 1 - 1 - 1) rfl,
    G62_3_eq, sel_neg (by omega), ocall_some]
  simp only [Nat.div_div_eq_div_mul, List.set_cons_zero, List.set_cons_succ]
  rfl

theorem G43_is (k : Nat) (hk : 20 < k) (m : BM) (hg : goodB m) : G43 k (m, ()) = some (bytesB m, ()) := by
  obtain ⟨hi, lo, ⟨⟩⟩ := m
  obtain ⟨hi, rfl, hh⟩ := nat_of hg.1
  obtain ⟨lo, rfl, hl⟩ := nat_of hg.2
  rw [G43_eq]
  unfold bytesB
  simp only [Int.toNat_natCast]
  by_cases hz : (lo : Int) = 0
  · rw [sel_pos hz, if_pos hz, G62_is k hk hi hh, ocall_some]
  · rw [sel_neg hz, if_neg hz, G62_is k hk hi hh, ocall_some, G62_is k hk lo hl, ocall_some]
    simp only [be8_len]
    rfl

theorem G65_3_is (k : Nat) (l : List Int) (hl : 8 ≤ l.length) (hb : ∀ c ∈ l, byteOK c) : ∀ (j i : Nat), i + j = 8 → ∀ n, j < n →
    G65_3 k n (l, (((l.take i).foldl (fun a c => 256 * a + c.toNat) 0 : Nat) : Int), (i : Int), ()) = some (((num8 (l.take 8) : Nat) : Int), ()) := by
  intro j
  induction j with
  | zero =>
    intro i hij n hn
    obtain ⟨n, rfl⟩ : ∃ m, n = m + 1 := ⟨n - 1, by omega⟩
    rw [G65_3_eq, sel_neg (by omega), show i = 8 by omega]
    rfl
  | succ j ih =>
    intro i hij n hn
    obtain ⟨n, rfl⟩ : ∃ m, n = m + 1 := ⟨n - 1, by omega⟩
    have hlt : i < l.length := by omega
    have ht := take_lt l hb i (by omega)
    have hp : 256 ^ i ≤ 256 ^ 7 := Nat.pow_le_pow_right (by omega) (by omega)
    have h7 : (256 : Nat) ^ 7 = 72057594037927936 := by rfl
    have hc := hb l[i] (List.getElem_mem _)
    unfold byteOK at hc
    rw [G65_3_eq, sel_pos (by omega), sel_pos (by omega), sel_pos (by simp only [ofNat_len]; omega), Int.toNat_natCast, getD_of hlt, wrap64 (by omega) (by omega), wrapu64 (n := l[i]) (by omega) (by omega)]
    obtain ⟨c, hce⟩ := Int.eq_ofNat_of_zero_le hc.1
    rw [hce, wrapu64 (n := 256 * _) (by omega) (by omega), wrapu64 (by omega) (by omega)]
    have := ih (i + 1) (by omega) n (by omega)
    rw [List.take_succ_eq_append_getElem (by omega), List.foldl_append] at this
    simp only [List.foldl_cons, List.foldl_nil, hce, Int.toNat_natCast, Int.natCast_add, Int.natCast_one, Int.natCast_mul] at this ⊢
    exact this
theorem G65_is (k : Nat) (hk : 20 < k) (l : List Int) (hl : 8 ≤ l.length) (hb : ∀ c ∈ l, byteOK c) : G65 k (l, ()) = some (((num8 (l.take 8) : Nat) : Int), ()) := by
  have h := G65_3_is k l hl hb 8 0 (by omega) k (by omega)
  simp only [List.take_zero, List.foldl_nil, Int.natCast_zero] at h
  rw [G65_eq, h, ocall_some]

theorem G47_is (k : Nat) (hk : 100 < k) (b : List Int) (hb : ∀ c ∈ b, byteOK c) : G47 k (b, ()) = some ((readB b).1, (readB b).2.1, (readB b).2.2, ()) := by
  rw [G47_eq]
  unfold readB
  by_cases c8 : b.length < 8
  · rw [sel_pos (by simp only [ofNat_len]; omega), if_pos c8]
  have n1 := num8_good (l := b) (by omega) hb
  have g0 : goodB (((num8 (b.take 8) : Nat) : Int), 0, ()) := ⟨⟨by (try simp only []); omega, by (try simp only []); omega⟩, Int.le_refl 0, by show (0 : Int) < _; decide⟩
  have ht := num8_top (l := b.take 8) (by rw [List.length_take]; omega) (fun c hc => hb c (List.mem_of_mem_take hc))
  have e0 : (b.take 8).getD 0 0 = b.getD 0 0 := by
    cases b with
    | nil => rfl
    | cons x b => rfl
  rw [e0] at ht
  rw [sel_neg (by simp only [ofNat_len]; omega), if_neg c8, ht]
  simp only [ofNat_len, G65_is k (by omega) b (by omega) hb, ocall_some, G58_is k hk _ g0]
  have hp : (0 : Int) < b.length := by omega
  by_cases c : 128 ≤ b.getD 0 0
  · have c' : (128 : Int) ≤ b.getD (Int.toNat 0) 0 := c
    rw [sel_pos hp, sel_pos c', if_pos (decide_eq_true c)]
    by_cases c16 : b.length < 16
    · rw [sel_pos (by omega), if_pos c16]
    have e : List.drop (Int.toNat 8) (List.take ((b.length : Int)).toNat b) = b.drop 8 := by
      rw [Int.toNat_natCast, List.take_of_length_le (Nat.le_refl _)]; rfl
    have hb2 : ∀ c ∈ b.drop 8, byteOK c := fun c hc => hb c (List.mem_of_mem_drop hc)
    have hl2 : 8 ≤ (b.drop 8).length := by rw [List.length_drop]; omega
    have n2 := num8_good hl2 hb2
    have g1 : goodB (((num8 (b.take 8) : Nat) : Int), ((num8 ((b.drop 8).take 8) : Nat) : Int), ()) := ⟨⟨by (try simp only []); omega, by (try simp only []); omega⟩, by (try simp only []); omega, by (try simp only []); omega⟩
    rw [sel_neg (by omega), if_neg c16, sel_pos hp, sel_pos c', sel_pos (by omega), sel_pos (Int.le_refl _), sel_pos (Int.le_refl _), e, G65_is k (by omega) _ hl2 hb2, ocall_some]
    (try simp only [])
    rw [G58_is k hk _ g1, ocall_some]
    cases rightB (((num8 (b.take 8) : Nat) : Int), ((num8 ((b.drop 8).take 8) : Nat) : Int), ()) with
    | false => rw [if_neg (by simp)]; rfl
    | true => rw [if_pos rfl]; rfl
  · have c' : ¬ (128 : Int) ≤ b.getD (Int.toNat 0) 0 := c
    rw [sel_pos hp, sel_neg c', if_neg (by rw [decide_eq_false c]; simp), sel_pos hp, sel_neg c']
    cases rightB (((num8 (b.take 8) : Nat) : Int), 0, ()) with
    | false => rw [if_neg (by simp)]; rfl
    | true => rw [if_pos rfl]; rfl
end Go.Proofs.Ytjgnpmdbkgeakaa.G
