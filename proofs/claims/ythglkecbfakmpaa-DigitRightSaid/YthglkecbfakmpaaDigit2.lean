/- What the functions of the digits' laws answer: sums, check digits. -/
import Derived.Test.YthglkecbfakmpaaDigit
set_option linter.unusedVariables false
set_option linter.unusedSimpArgs false
namespace Go.Proofs.Ythglkecbfakmpaa.G
open Go Go.Proofs.Ythglkecbfakmpaa Th

def gd (tw : Bool) (d : Nat) : Nat := if tw = true then 2 * d - d / 5 * 9 else d
def fs (tw : Bool) : List UInt8 → Nat
  | [] => 0
  | c :: t => gd (tw != decide (t.length % 2 = 1)) (c.toNat - 48) + fs tw t

theorem gd_le {tw : Bool} {d : Nat} (h : d ≤ 9) : gd tw d ≤ 9 := by
  unfold gd; split <;> omega

theorem fs_le (tw : Bool) : ∀ (s : List UInt8), s.all dgt = true → fs tw s ≤ 9 * s.length
  | [], _ => by simp [fs]
  | c :: t, h => by
    simp only [List.all_cons, Bool.and_eq_true, dgt_iff] at h
    have := fs_le tw t h.2
    have := gd_le (tw := tw != decide (t.length % 2 = 1)) (d := c.toNat - 48) (by omega)
    simp only [fs, List.length_cons]; omega

theorem par_flip (tw : Bool) (n : Nat) : (tw != decide ((n + 1) % 2 = 1)) = ((!tw) != decide (n % 2 = 1)) := by
  rcases Nat.mod_two_eq_zero_or_one n with h | h
  · have : (n + 1) % 2 = 1 := by omega
    cases tw <;> simp [h, this]
  · have : (n + 1) % 2 = 0 := by omega
    cases tw <;> simp [h, this]

theorem fs_snoc (tw : Bool) (x : UInt8) : ∀ (s : List UInt8), fs tw (s ++ [x]) = fs (!tw) s + gd tw (x.toNat - 48)
  | [] => by simp [fs]
  | c :: t => by
    simp only [List.cons_append, fs, List.length_append, List.length_cons, List.length_nil, Nat.zero_add]
    rw [par_flip, fs_snoc tw x t]
    omega

theorem sum_fold (l : List (Int × Int)) (tw : Bool) : Sum.sumOf l tw = (l.map (·.2)).foldl Sum.step (0, tw) := by
  unfold Sum.sumOf
  rw [List.foldl_map]

theorem backs_snd (l : List Int) : (Sum.backs l).map (·.2) = l.reverse := by
  unfold Sum.backs
  rw [List.map_reverse, List.map_map]
  congr 1
  apply List.ext_getElem
  · simp
  · intro i h1 h2
    simp at h1 h2
    simp [h2]

theorem toBytes_cons (c : UInt8) (t : List UInt8) : toBytes (c :: t) = (c.toNat : Int) :: toBytes t := rfl

theorem rwrap {n : Int} (h1 : -9223372036854775808 ≤ n) (h2 : n ≤ 9223372036854775807) : RowKit.wrap64 n = n := by
  unfold RowKit.wrap64; omega

theorem sum_is (tw : Bool) : ∀ (s : List UInt8), s.all dgt = true → s.length ≤ 1000000000 → (toBytes s).reverse.foldl Sum.step (0, tw) = ((fs tw s : Int), tw != decide (s.length % 2 = 1))
  | [], _, _ => by simp [toBytes, fs]
  | c :: t, h, hl => by
    have h' := h
    simp only [List.all_cons, Bool.and_eq_true, dgt_iff] at h
    simp only [List.length_cons] at hl
    have hle := fs_le tw t h.2
    rw [toBytes_cons, List.reverse_cons, List.foldl_append, sum_is tw t h.2 (by omega)]
    simp only [List.foldl_cons, List.foldl_nil, Sum.step, fs, List.length_cons]
    have e1 : ((c.toNat : Int) - 48) % 256 = ((c.toNat - 48 : Nat) : Int) := by omega
    have hg := gd_le (tw := tw != decide (t.length % 2 = 1)) (d := c.toNat - 48) (by omega)
    rw [e1]
    refine Prod.ext ?_ ?_
    · simp only []
      have e2 : (bif (tw != decide (t.length % 2 = 1)) then ((c.toNat - 48 : Nat) : Int) * 2 - ((c.toNat - 48 : Nat) : Int) / 5 * 9 else ((c.toNat - 48 : Nat) : Int)) = ((gd (tw != decide (t.length % 2 = 1)) (c.toNat - 48) : Nat) : Int) := by
        unfold gd
        cases (tw != decide (t.length % 2 = 1))
        · simp
        · simp only [cond_true, if_true]; omega
      rw [e2, rwrap (by omega) (by omega)]
      omega
    · simp only []
      rw [par_flip]
      cases tw <;> simp

theorem G77_is (k : Nat) (s : List UInt8) (tw : Bool) (h : s.all dgt = true) (hl : s.length ≤ 1000000000) : G77 k (s, tw, ()) = some ((fs tw s : Int), ()) := by
  rw [G77_eq, sel_pos (by simp only []; omega), sum_fold, backs_snd, sum_is tw s h hl]

def isFine (s : List UInt8) : Bool := isDig s && decide (fs false s % 10 = 0)

theorem all_of_isDig {s : List UInt8} (h : isDig s = true) : s.all dgt = true := by simp [isDig] at h; simpa using h.2

theorem tmod10 (n : Nat) : ((n : Int)).tmod 10 = ((n % 10 : Nat) : Int) := by simp [Int.tmod_eq_emod_of_nonneg]

theorem G46_is (k : Nat) (s : List UInt8) (hl : s.length ≤ 1000000000) (hk : s.length < k) : G46 k (s, ()) = some (isFine s, ()) := by
  rw [G46_eq, G44_is k s (by rw [maxLen_eq]; omega) hk, ocall_some]
  unfold isFine
  cases hd : isDig s with
  | false => rfl
  | true =>
    simp only [sel_true]
    rw [G77_is k s false (all_of_isDig hd) hl, ocall_some, tmod10]
    simp only [Bool.true_and]
    have : decide (((fs false s % 10 : Nat) : Int) = 0) = decide (fs false s % 10 = 0) := decide_eq_decide.2 (by omega)
    rw [this]

theorem G47_5_is (k : Nat) (s : List UInt8) (hs : s.length ≤ 1000000000) (hd : s.all dgt = true) : ∀ (j i a : Nat), i + j = s.length → a ≤ 9 * i → ∀ n, j < n →
    G47_5 k n (s, (a : Int), (i : Int), ()) = some (((a + fs false (s.drop i) : Nat) : Int), ()) := by
  intro j
  induction j with
  | zero =>
    intro i a hij ha n hn
    obtain ⟨n, rfl⟩ : ∃ m, n = m + 1 := ⟨n - 1, by omega⟩
    rw [G47_5_eq, sel_neg (by simp only [ofNat_len]; omega), List.drop_eq_nil_of_le (by omega)]
    rfl
  | succ j ih =>
    intro i a hij ha n hn
    obtain ⟨n, rfl⟩ : ∃ m, n = m + 1 := ⟨n - 1, by omega⟩
    have hlt : i < s.length := by omega
    have hc := List.all_eq_true.1 hd s[i] (List.getElem_mem _)
    rw [dgt_iff] at hc
    rw [G47_5_eq]
    simp only [Int.toNat_natCast, getD_of hlt, ofNat_len, Int.ofNat_eq_natCast]
    rw [sel_pos (by omega), sel_pos (by omega), sel_pos (by omega)]
    have w1 : IntKind.i64.wrap ((s.length : Int) - (i : Int)) = ((s.length - i : Nat) : Int) := by rw [wrap64 (by omega) (by omega)]; omega
    have w2 : IntKind.i64.wrap (((s[i]).toNat : Nat) : Int) = (((s[i]).toNat : Nat) : Int) := wrap64 (by omega) (by omega)
    have w3 : IntKind.i64.wrap ((((s[i]).toNat : Nat) : Int) - 48) = (((s[i]).toNat - 48 : Nat) : Int) := by rw [wrap64 (by omega) (by omega)]; omega
    have w4 : IntKind.i64.wrap (2 * (((s[i]).toNat - 48 : Nat) : Int)) = 2 * (((s[i]).toNat - 48 : Nat) : Int) := wrap64 (by omega) (by omega)
    have w5 : IntKind.i64.wrap (2 * (((s[i]).toNat - 48 : Nat) : Int) - 9) = 2 * (((s[i]).toNat - 48 : Nat) : Int) - 9 := wrap64 (by omega) (by omega)
    have e1 : (((s.length - i : Nat) : Int)).tmod 2 = (((s.length - i) % 2 : Nat) : Int) := by simp [Int.tmod_eq_emod_of_nonneg]
    simp only [w1, w2, w3, w4, w5, e1]
    rw [drop_at hlt]
    simp only [fs]
    have hl : (s.drop (i + 1)).length = s.length - (i + 1) := by simp
    rw [hl]
    generalize hd9 : (s[i]).toNat - 48 = d at *
    have fin : ∀ q : Nat, q ≤ 9 → gd (false != decide ((s.length - (i + 1)) % 2 = 1)) d = q → ∀ z : Int, z = (q : Int) → G47_5 k n (s, IntKind.i64.wrap ((a : Int) + z), IntKind.i64.wrap ((i : Int) + 1), ()) = some (((a + (gd (false != decide ((s.length - (i + 1)) % 2 = 1)) d + fs false (s.drop (i + 1))) : Nat) : Int), ()) := by
      intro q hq hqe z hz
      subst hz
      rw [wrap64 (by omega) (by omega), wrap64 (by omega) (by omega), hqe]
      have := ih (i + 1) (a + q) (by omega) (by omega) n (by omega)
      rw [Nat.add_assoc] at this
      exact this
    by_cases c1 : (s.length - i) % 2 = 0
    · rw [sel_pos (by omega)]
      have e2 : (s.length - (i + 1)) % 2 = 1 := by omega
      by_cases c2 : (9 : Int) < 2 * (d : Int)
      · rw [sel_pos c2]
        exact fin (2 * d - 9) (by omega) (by simp [gd, e2]; omega) _ (by omega)
      · rw [sel_neg c2]
        exact fin (2 * d) (by omega) (by simp [gd, e2]; omega) _ (by omega)
    · rw [sel_neg (by omega)]
      have e2 : (s.length - (i + 1)) % 2 = 0 := by omega
      exact fin d (by omega) (by simp [gd, e2]) _ rfl

theorem G47_is (k : Nat) (s : List UInt8) (hl : s.length ≤ 1000000000) (hk : s.length < k) : G47 k (s, ()) = some (isFine s, ()) := by
  rw [G47_eq, G45_is k s (by rw [maxLen_eq]; omega) hk, ocall_some]
  unfold isFine
  cases hd : isDig s with
  | false => rfl
  | true =>
    simp only [Bool.not_true, sel_false]
    have := G47_5_is k s hl (all_of_isDig hd) s.length 0 0 (by omega) (by omega) k hk
    simp only [Int.natCast_zero, List.drop_zero, Nat.zero_add] at this
    rw [this, ocall_some, tmod10]
    simp only [Bool.true_and]
    have : decide (((fs false s % 10 : Nat) : Int) = 0) = decide (fs false s % 10 = 0) := decide_eq_decide.2 (by omega)
    rw [this]

/-- the check digit -/
def chk (s : List UInt8) : Nat := (10 - fs true s % 10) % 10
def chkOK (s : List UInt8) : List UInt8 × Int := if isDig s = true then ([UInt8.ofNat (48 + chk s)], 0) else ([], 3)

theorem chk_lt (s : List UInt8) : chk s < 10 := Nat.mod_lt _ (by omega)

theorem putOK_one (c : Nat) (h : c < 10) : putOK c 1 = ([UInt8.ofNat (48 + c)], 0) := by
  unfold putOK
  rw [if_neg (by omega), if_pos]
  · show (digs c 1, (0 : Int)) = _
    simp [digs, Nat.mod_eq_of_lt h]
  · show c / 10 ^ 1 = 0
    omega

theorem G42_is (k : Nat) (s : List UInt8) (hl : s.length ≤ 1000000000) (hk : s.length < k) (hk2 : 20 < k) : G42 k (s, ()) = some ((chkOK s).1, (chkOK s).2, ()) := by
  rw [G42_eq, G44_is k s (by rw [maxLen_eq]; omega) hk, ocall_some]
  unfold chkOK
  cases hd : isDig s with
  | false => rfl
  | true =>
    simp only [Bool.not_true, sel_false]
    rw [G77_is k s true (all_of_isDig hd) hl, ocall_some, tmod10]
    have h10 : fs true s % 10 < 10 := Nat.mod_lt _ (by omega)
    have e1 : IntKind.i64.wrap (10 - ((fs true s % 10 : Nat) : Int)) = ((10 - fs true s % 10 : Nat) : Int) := by rw [wrap64 (by omega) (by omega)]; omega
    have e2 : IntKind.u64.wrap ((chk s : Nat) : Int) = ((chk s : Nat) : Int) := wrapu64 (by omega) (by have := chk_lt s; omega)
    rw [e1, tmod10]
    show (ocall (G38 k (IntKind.u64.wrap ((chk s : Nat) : Int), 1, ())) fun r => some (r.fst, r.snd.fst, ())) = _
    rw [e2, G38_is k hk2 (chk s) 1 (by have := chk_lt s; omega), ocall_some, putOK_one _ (chk_lt s), if_pos trivial]

theorem isDig_snoc (s : List UInt8) (x : UInt8) (h : isDig s = true) (hx : dgt x = true) : isDig (s ++ [x]) = true := by
  have := all_of_isDig h
  simp only [isDig, List.length_append, List.all_append, this, Bool.true_and, List.all_cons, hx, List.all_nil, Bool.and_true]
  simp

theorem chr_dig {e : Nat} (h : e ≤ 9) : (UInt8.ofNat (48 + e)).toNat = 48 + e := chr_toNat (by omega)
theorem chr_dgt {e : Nat} (h : e ≤ 9) : dgt (UInt8.ofNat (48 + e)) = true := by rw [dgt_iff, chr_dig h]; omega

theorem isFine_snoc (s : List UInt8) (e : Nat) (h : isDig s = true) (he : e ≤ 9) : isFine (s ++ [UInt8.ofNat (48 + e)]) = decide (e = chk s) := by
  unfold isFine
  rw [isDig_snoc s _ h (chr_dgt he), Bool.true_and, fs_snoc, chr_dig he]
  have : gd false (48 + e - 48) = e := by simp [gd]
  rw [this]
  refine decide_eq_decide.2 ?_
  show (fs (!false) s + e) % 10 = 0 ↔ e = (10 - fs true s % 10) % 10
  simp only [Bool.not_false]
  omega

theorem ofBytes_one (e : Nat) : ofBytes [((48 + e : Nat) : Int)] = [UInt8.ofNat (48 + e)] := rfl

theorem G43_4_is (k : Nat) (s : List UInt8) (hl : s.length ≤ 1000000) (hk : s.length + 1 < k) (h : isDig s = true) : ∀ (j e : Nat), e + j = 9 → e ≤ chk s → ∀ n, j < n →
    G43_4 k n (s, ((48 + e : Nat) : Int), ()) = some (if chk s = 9 then .inl () else .inr ([UInt8.ofNat (48 + chk s)], 0, ())) := by
  have hc := chk_lt s
  intro j
  induction j with
  | zero =>
    intro e hej he n hn
    obtain ⟨n, rfl⟩ : ∃ m, n = m + 1 := ⟨n - 1, by omega⟩
    rw [G43_4_eq, sel_neg (by simp only []; omega), if_pos (by omega)]
  | succ j ih =>
    intro e hej he n hn
    obtain ⟨n, rfl⟩ : ∃ m, n = m + 1 := ⟨n - 1, by omega⟩
    rw [G43_4_eq]
    have hone := ofBytes_one e
    simp only [hone]
    rw [sel_pos (by omega), sel_pos (by simp; omega)]
    show (ocall (G47 k (s ++ [UInt8.ofNat (48 + e)], ())) fun r => sel r.fst _ _) = _
    rw [G47_is k _ (by simp; omega) (by simp; omega), isFine_snoc s e h (by omega), ocall_some]
    by_cases c : e = chk s
    · rw [sel_pos c, if_neg (by omega), c]
    · rw [sel_neg c, wrapu8 (by omega) (by omega)]
      exact ih (e + 1) (by omega) (by omega) n (by omega)

theorem G43_is (k : Nat) (s : List UInt8) (hl : s.length ≤ 1000000) (hk : s.length + 1 < k) (hk2 : 20 < k) : G43 k (s, ()) = some ((chkOK s).1, (chkOK s).2, ()) := by
  rw [G43_eq, G45_is k s (by rw [maxLen_eq]; omega) (by omega), ocall_some]
  unfold chkOK
  cases hd : isDig s with
  | false => rfl
  | true =>
    simp only [Bool.not_true, sel_false]
    have := G43_4_is k s hl hk hd 9 0 (by omega) (by omega) k (by omega)
    rw [show (((48 + 0 : Nat) : Int)) = 48 from rfl] at this
    rw [this, ocall_some, if_pos trivial]
    by_cases c : chk s = 9
    · rw [if_pos c, esel_inl, c]; rfl
    · rw [if_neg c, esel_inr]

theorem G37_is (k : Nat) (hk : 20 < k) : G37 k () = some (true, ()) := by
  rw [G37_eq]
  have a1 := G38_is k hk 42 5 (by omega)
  have a2 := G38_is k hk 100 2 (by omega)
  rw [show ((42 : Nat) : Int) = 42 from rfl] at a1
  rw [show ((100 : Nat) : Int) = 100 from rfl] at a2
  rw [a1, a2, G40_is k _ hk, G42_is k _ (by simp) (by simp; omega) hk, G46_is k _ (by simp) (by simp; omega), G46_is k _ (by simp) (by simp; omega), G44_is k _ (by simp [maxLen]) (by simp; omega)]
  simp only [ocall_some]
  rfl

end Go.Proofs.Ythglkecbfakmpaa.G
