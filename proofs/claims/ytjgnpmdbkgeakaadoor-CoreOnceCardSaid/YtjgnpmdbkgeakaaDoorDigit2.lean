/- What the functions of the digits' laws answer: sums, check digits. -/
import Derived.Test.YtjgnpmdbkgeakaaDoorDigit
set_option linter.unusedVariables false
set_option linter.unusedSimpArgs false
namespace Go.Proofs.YtjgnpmdbkgeakaaDoor.G
open Go Go.Proofs.YtjgnpmdbkgeakaaDoor Th

def gd (tw : Bool) (d : Nat) : Nat := if tw = true then 2 * d - d / 5 * 9 else d
def fs (tw : Bool) : List UInt8 → Nat
  | [] => 0
  | c :: t => gd (tw != decide (t.length % 2 = 1)) (c.toNat - 48) + fs tw t

theorem gd_le {tw : Bool} {d : Nat} (h : d ≤ 9) : gd tw d ≤ 9 := by
  unfold gd; split <;> omega

theorem fs_le (tw : Bool) : ∀ (s : List UInt8), s.all dgt = true → fs tw s ≤ 9 * s.length
  | [], _ => by simp [fs]
  | c :: t, h => by
    simp only [List.all_cons, Bool.and_eq_true, dgt_iff] at h
    have := fs_le tw t h.2
    have := gd_le (tw := tw != decide (t.length % 2 = 1)) (d := c.toNat - 48) (by omega)
    simp only [fs, List.length_cons]; omega

theorem par_flip (tw : Bool) (n : Nat) : (tw != decide ((n + 1) % 2 = 1)) = ((!tw) != decide (n % 2 = 1)) := by
  rcases Nat.mod_two_eq_zero_or_one n with h | h
  · have : (n + 1) % 2 = 1 := by omega
    cases tw <;> simp [h, this]
  · have : (n + 1) % 2 = 0 := by omega
    cases tw <;> simp [h, this]

theorem fs_snoc (tw : Bool) (x : UInt8) : ∀ (s : List UInt8), fs tw (s ++ [x]) = fs (!tw) s + gd tw (x.toNat - 48)
  | [] => by simp [fs]
  | c :: t => by
    simp only [List.cons_append, fs, List.length_append, List.length_cons, List.length_nil, Nat.zero_add]
    rw [par_flip, fs_snoc tw x t]
    omega

theorem sum_fold (l : List (Int × Int)) (tw : Bool) : Sum.sumOf l tw = (l.map (·.2)).foldl Sum.step (0, tw) := by
  unfold Sum.sumOf
  rw [List.foldl_map]

theorem backs_snd (l : List Int) : (Sum.backs l).map (·.2) = l.reverse := by
  unfold Sum.backs
  rw [List.map_reverse, List.map_map]
  congr 1
  apply List.ext_getElem
  · simp
  · intro i h1 h2
    simp at h1 h2
    simp [h2]

theorem toBytes_cons (c : UInt8) (t : List UInt8) : toBytes (c :: t) = (c.toNat : Int) :: toBytes t := rfl

theorem rwrap {n : Int} (h1 : -9223372036854775808 ≤ n) (h2 : n ≤ 9223372036854775807) : RowKit.wrap64 n = n := by
  unfold RowKit.wrap64; omega

theorem sum_is (tw : Bool) : ∀ (s : List UInt8), s.all dgt = true → s.length ≤ 1000000000 → (toBytes s).reverse.foldl Sum.step (0, tw) = ((fs tw s : Int), tw != decide (s.length % 2 = 1))
  | [], _, _ => by simp [toBytes, fs]
  | c :: t, h, hl => by
    have h' := h
    simp only [List.all_cons, Bool.and_eq_true, dgt_iff] at h
    simp only [List.length_cons] at hl
    have hle := fs_le tw t h.2
    rw [toBytes_cons, List.reverse_cons, List.foldl_append, sum_is tw t h.2 (by omega)]
    simp only [List.foldl_cons, List.foldl_nil, Sum.step, fs, List.length_cons]
    have e1 : ((c.toNat : Int) - 48) % 256 = ((c.toNat - 48 : Nat) : Int) := by omega
    have hg := gd_le (tw := tw != decide (t.length % 2 = 1)) (d := c.toNat - 48) (by omega)
    rw [e1]
    refine Prod.ext ?_ ?_
    · (try simp only [])
      have e2 : (bif (tw != decide (t.length % 2 = 1)) then ((c.toNat - 48 : Nat) : Int) * 2 - ((c.toNat - 48 : Nat) : Int) / 5 * 9 else ((c.toNat - 48 : Nat) : Int)) = ((gd (tw != decide (t.length % 2 = 1)) (c.toNat - 48) : Nat) : Int) := by
        unfold gd
        cases (tw != decide (t.length % 2 = 1))
        · simp
        · simp only [cond_true, if_true]; omega
      rw [e2, rwrap (by omega) (by omega)]
      omega
    · (try simp only [])
      rw [par_flip]
      cases tw <;> simp

theorem G170_is (k : Nat) (s : List UInt8) (tw : Bool) (h : s.all dgt = true) (hl : s.length ≤ 1000000000) : G170 k (s, tw, ()) = some ((fs tw s : Int), ()) := by
  rw [G170_eq, sel_pos (by (try simp only []); omega), sum_fold, backs_snd, sum_is tw s h hl]

def isFine (s : List UInt8) : Bool := isDig s && decide (fs false s % 10 = 0)

theorem all_of_isDig {s : List UInt8} (h : isDig s = true) : s.all dgt = true := by simp [isDig] at h; simpa using h.2

theorem tmod10 (n : Nat) : ((n : Int)).tmod 10 = ((n % 10 : Nat) : Int) := by simp [Int.tmod_eq_emod_of_nonneg]

theorem G107_is (k : Nat) (s : List UInt8) (hl : s.length ≤ 1000000000) (hk : s.length < k) : G107 k (s, ()) = some (isFine s, ()) := by
  rw [G107_eq, G169_is k s (by rw [maxLen_eq]; omega) hk, ocall_some]
  unfold isFine
  cases hd : isDig s with
  | false => rfl
  | true =>
    simp only [sel_true]
    rw [G170_is k s false (all_of_isDig hd) hl, ocall_some, tmod10]
    simp only [Bool.true_and]
    have : decide (((fs false s % 10 : Nat) : Int) = 0) = decide (fs false s % 10 = 0) := decide_eq_decide.2 (by omega)
    rw [this]

theorem G110_5_is (k : Nat) (s : List UInt8) (hs : s.length ≤ 1000000000) (hd : s.all dgt = true) : ∀ (j i a : Nat), i + j = s.length → a ≤ 9 * i → ∀ n, j < n →
    G110_5 k n (s, (a : Int), (i : Int), ()) = some (((a + fs false (s.drop i) : Nat) : Int), ()) := by
  intro j
  induction j with
  | zero =>
    intro i a hij ha n hn
    obtain ⟨n, rfl⟩ : ∃ m, n = m + 1 := ⟨n - 1, by omega⟩
    rw [G110_5_eq, sel_neg (by simp only [ofNat_len]; omega), List.drop_eq_nil_of_le (by omega)]
    rfl
  | succ j ih =>
    intro i a hij ha n hn
    obtain ⟨n, rfl⟩ : ∃ m, n = m + 1 := ⟨n - 1, by omega⟩
    have hlt : i < s.length := by omega
    have hc := List.all_eq_true.1 hd s[i] (List.getElem_mem _)
    rw [dgt_iff] at hc
    rw [G110_5_eq]
    simp only [Int.toNat_natCast, getD_of hlt, ofNat_len, Int.ofNat_eq_natCast]
    rw [sel_pos (by omega), sel_pos (by omega), sel_pos (by omega)]
    have w1 : IntKind.i64.wrap ((s.length : Int) - (i : Int)) = ((s.length - i : Nat) : Int) := by rw [wrap64 (by omega) (by omega)]; omega
    have w2 : IntKind.i64.wrap (((s[i]).toNat : Nat) : Int) = (((s[i]).toNat : Nat) : Int) := wrap64 (by omega) (by omega)
    have w3 : IntKind.i64.wrap ((((s[i]).toNat : Nat) : Int) - 48) = (((s[i]).toNat - 48 : Nat) : Int) := by rw [wrap64 (by omega) (by omega)]; omega
    have w4 : IntKind.i64.wrap (2 * (((s[i]).toNat - 48 : Nat) : Int)) = 2 * (((s[i]).toNat - 48 : Nat) : Int) := wrap64 (by omega) (by omega)
    have w5 : IntKind.i64.wrap (2 * (((s[i]).toNat - 48 : Nat) : Int) - 9) = 2 * (((s[i]).toNat - 48 : Nat) : Int) - 9 := wrap64 (by omega) (by omega)
    have e1 : (((s.length - i : Nat) : Int)).tmod 2 = (((s.length - i) % 2 : Nat) : Int) := by simp [Int.tmod_eq_emod_of_nonneg]
    simp only [w1, w2, w3, w4, w5, e1]
    rw [drop_at hlt]
    simp only [fs]
    have hl : (s.drop (i + 1)).length = s.length - (i + 1) := by simp
    rw [hl]
    generalize hd9 : (s[i]).toNat - 48 = d at *
    have fin : ∀ q : Nat, q ≤ 9 → gd (false != decide ((s.length - (i + 1)) % 2 = 1)) d = q → ∀ z : Int, z = (q : Int) → G110_5 k n (s, IntKind.i64.wrap ((a : Int) + z), IntKind.i64.wrap ((i : Int) + 1), ()) = some (((a + (gd (false != decide ((s.length - (i + 1)) % 2 = 1)) d + fs false (s.drop (i + 1))) : Nat) : Int), ()) := by
      intro q hq hqe z hz
      subst hz
      rw [wrap64 (by omega) (by omega), wrap64 (by omega) (by omega), hqe]
      have := ih (i + 1) (a + q) (by omega) (by omega) n (by omega)
      rw [Nat.add_assoc] at this
      exact this
    by_cases c1 : (s.length - i) % 2 = 0
    · rw [sel_pos (by omega)]
      have e2 : (s.length - (i + 1)) % 2 = 1 := by omega
      by_cases c2 : (9 : Int) < 2 * (d : Int)
      · rw [sel_pos c2]
        exact fin (2 * d - 9) (by omega) (by simp [gd, e2]; omega) _ (by omega)
      · rw [sel_neg c2]
        exact fin (2 * d) (by omega) (by simp [gd, e2]; omega) _ (by omega)
    · rw [sel_neg (by omega)]
      have e2 : (s.length - (i + 1)) % 2 = 0 := by omega
      exact fin d (by omega) (by simp [gd, e2]) _ rfl

theorem G110_is (k : Nat) (s : List UInt8) (hl : s.length ≤ 1000000000) (hk : s.length < k) : G110 k (s, ()) = some (isFine s, ()) := by
  rw [G110_eq, G171_is k s (by rw [maxLen_eq]; omega) hk, ocall_some]
  unfold isFine
  cases hd : isDig s with
  | false => rfl
  | true =>
    simp only [Bool.not_true, sel_false]
    have := G110_5_is k s hl (all_of_isDig hd) s.length 0 0 (by omega) (by omega) k hk
    simp only [Int.natCast_zero, List.drop_zero, Nat.zero_add] at this
    rw [this, ocall_some, tmod10]
    simp only [Bool.true_and]
    have : decide (((fs false s % 10 : Nat) : Int) = 0) = decide (fs false s % 10 = 0) := decide_eq_decide.2 (by omega)
    rw [this]

end Go.Proofs.YtjgnpmdbkgeakaaDoor.G
