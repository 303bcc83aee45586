/- What the document's functions of the fields answer: the same. -/
import Derived.Test.YtjgnpmdbkgeakaaField2
set_option linter.unusedVariables false
set_option linter.unusedSimpArgs false
namespace Go.Proofs.Ytjgnpmdbkgeakaa.G
open Go Go.Proofs.Ytjgnpmdbkgeakaa Th

def okc (kind : Int) (c : UInt8) : Bool := if kind = 1 ∨ kind = 3 then dgt c else Signs.plain c

theorem plain_iff {c : UInt8} : Signs.plain c = true ↔ 32 ≤ c.toNat ∧ c.toNat ≤ 126 := by simp [Signs.plain]

theorem okc_dgt {kind : Int} (h : kind = 1 ∨ kind = 3) (c : UInt8) : okc kind c = dgt c := by unfold okc; rw [if_pos h]
theorem okc_plain {kind : Int} (h : ¬ (kind = 1 ∨ kind = 3)) (c : UInt8) : okc kind c = Signs.plain c := by unfold okc; rw [if_neg h]

theorem G32_2_is (k : Nat) (kind : Int) (s : List UInt8) (hs : s.length ≤ maxLen) : ∀ (j i : Nat), i + j = s.length → ∀ n, j < n → G32_2 k n (kind, s, (i : Int), ()) = some (if (s.drop i).all (okc kind) = true then .inl () else .inr (false, ())) := by
  rw [maxLen_eq] at hs
  intro j
  induction j with
  | zero =>
    intro i hij n hn
    obtain ⟨n, rfl⟩ : ∃ m, n = m + 1 := ⟨n - 1, by omega⟩
    rw [G32_2_eq, sel_neg (by simp only [ofNat_len]; omega), List.drop_eq_nil_of_le (by omega)]
    rfl
  | succ j ih =>
    intro i hij n hn
    obtain ⟨n, rfl⟩ : ∃ m, n = m + 1 := ⟨n - 1, by omega⟩
    have hlt : i < s.length := by omega
    have next : okc kind s[i] = true → G32_2 k n (kind, s, IntKind.i64.wrap ((i : Int) + 1), ()) = some (if (okc kind s[i] && (s.drop (i + 1)).all (okc kind)) = true then .inl () else .inr (false, ())) := by
      intro h
      rw [h, Bool.true_and, wrap64 (by omega) (by omega)]
      exact ih (i + 1) (by omega) n (by omega)
    have stop : okc kind s[i] = false → (some (Sum.inr (false, ())) : Option (Unit ⊕ Bool × Unit)) = some (if (okc kind s[i] && (s.drop (i + 1)).all (okc kind)) = true then .inl () else .inr (false, ())) := by
      intro h; rw [h]; rfl
    rw [G32_2_eq]
    simp only [ofNat_len, Int.toNat_natCast, getD_of hlt, Int.ofNat_eq_natCast]
    rw [sel_pos (by omega), drop_at hlt, List.all_cons]
    by_cases k1 : kind = 1
    · have hk : kind = 1 ∨ kind = 3 := .inl k1
      rw [sel_pos k1, sel_pos (by omega), sel_pos (by omega)]
      by_cases c1 : ((s[i]).toNat : Int) < 48
      · rw [sel_pos c1]; exact stop (by rw [okc_dgt hk, Bool.eq_false_iff, Ne, dgt_iff]; omega)
      · rw [sel_neg c1, sel_pos (by omega), sel_pos (by omega)]
        by_cases c2 : (57 : Int) < ((s[i]).toNat : Int)
        · rw [sel_pos c2]; exact stop (by rw [okc_dgt hk, Bool.eq_false_iff, Ne, dgt_iff]; omega)
        · rw [sel_neg c2]; exact next (by rw [okc_dgt hk, dgt_iff]; omega)
    · rw [sel_neg k1]
      by_cases k3 : kind = 3
      · have hk : kind = 1 ∨ kind = 3 := .inr k3
        rw [sel_pos k3, sel_pos (by omega), sel_pos (by omega)]
        by_cases c1 : ((s[i]).toNat : Int) < 48
        · rw [sel_pos c1]; exact stop (by rw [okc_dgt hk, Bool.eq_false_iff, Ne, dgt_iff]; omega)
        · rw [sel_neg c1, sel_pos (by omega), sel_pos (by omega)]
          by_cases c2 : (57 : Int) < ((s[i]).toNat : Int)
          · rw [sel_pos c2]; exact stop (by rw [okc_dgt hk, Bool.eq_false_iff, Ne, dgt_iff]; omega)
          · rw [sel_neg c2]; exact next (by rw [okc_dgt hk, dgt_iff]; omega)
      · have hk : ¬ (kind = 1 ∨ kind = 3) := by omega
        rw [sel_neg k3, sel_pos (by omega), sel_pos (by omega)]
        by_cases c1 : ((s[i]).toNat : Int) < 32
        · rw [sel_pos c1]; exact stop (by rw [okc_plain hk, Bool.eq_false_iff, Ne, plain_iff]; omega)
        · rw [sel_neg c1, sel_pos (by omega), sel_pos (by omega)]
          by_cases c2 : (126 : Int) < ((s[i]).toNat : Int)
          · rw [sel_pos c2]; exact stop (by rw [okc_plain hk, Bool.eq_false_iff, Ne, plain_iff]; omega)
          · rw [sel_neg c2]; exact next (by rw [okc_plain hk, plain_iff]; omega)

theorem G32_is (k : Nat) (kind : Int) (s : List UInt8) (hs : s.length ≤ maxLen) (hk : s.length < k) : G32 k (kind, s, ()) = some (s.all (okc kind), ()) := by
  rw [G32_eq]
  have := G32_2_is k kind s hs s.length 0 (by omega) k hk
  rw [List.drop_zero] at this
  simp only [Int.natCast_zero] at this
  rw [this, ocall_some]
  cases s.all (okc kind) <;> rfl

theorem signs_ok (d : Def) (s : List UInt8) (h : 0 < s.length) : signs d s = s.all (okc d.2.1) := by
  unfold signs Signs.signsOf
  by_cases hk : d.2.1 = 1 ∨ d.2.1 = 3
  · rw [if_pos hk]
    have : okc d.2.1 = dgt := funext (okc_dgt hk)
    rw [this]; simp [isDig, h]
  · rw [if_neg hk]
    have : okc d.2.1 = Signs.plain := funext (okc_plain hk)
    rw [this]

theorem ahead_zero {kind : Int} (h1 : 1 ≤ kind) (h5 : kind ≤ 5) : ahead kind = 0 ↔ kind < 3 := by
  unfold ahead
  split
  · constructor
    · intro h; cases h
    · intro h; omega
  · split
    · constructor
      · intro h; cases h
      · intro h; omega
    · constructor
      · intro _; omega
      · intro _; rfl

theorem G34_is (k : Nat) {kind : Int} (h1 : 1 ≤ kind) (h5 : kind ≤ 5) : G34 k (kind, ()) = some (((ahead kind : Nat) : Int), ()) := by
  rw [G34_eq]
  by_cases c : kind < 3
  · rw [sel_pos c, (ahead_zero h1 h5).2 c]; rfl
  · rw [sel_neg c]
    by_cases c5 : kind = 5
    · rw [sel_pos c5]; subst c5; rfl
    · rw [sel_neg c5]
      have : ahead kind = 2 := by unfold ahead; rw [if_pos (by omega)]
      rw [this]; rfl

theorem G13_is (k : Nat) (hk : 20 < k) (n : Int) (s : List UInt8) (hs : s.length ≤ maxLen) (hks : s.length < k) : G13 k (n, s, ()) = some (rightF n s, ()) := by
  have hs' := hs
  rw [maxLen_eq] at hs'
  rw [G13_eq, G11_is k hk, ocall_some]
  unfold rightF defR
  cases hd : defOf n with
  | none => rfl
  | some d =>
    obtain ⟨hm, _⟩ := defOf_mem hd
    obtain ⟨_, _, k1, k5, z1, z2, z3⟩ := D_all d hm
    simp only [Bool.not_true, sel_false, ofNat_len]
    have ha := ahead_zero k1 k5
    by_cases c0 : (s.length : Int) = 0
    · rw [sel_pos c0]
      have : sized d s.length = false := by rw [Bool.eq_false_iff]; intro h; have := sized_le hm h; omega
      rw [this]; rfl
    · rw [sel_neg c0]
      by_cases c1 : d.2.2.1 < (s.length : Int)
      · rw [sel_pos c1]
        have : sized d s.length = false := by
          rw [Bool.eq_false_iff]; intro h
          unfold sized at h
          split at h
          · simp only [decide_eq_true_eq] at h; omega
          · simp only [Bool.and_eq_true, decide_eq_true_eq] at h; omega
        rw [this]; rfl
      · rw [sel_neg c1, G32_is k d.2.1 s hs hks, signs_ok d s (by omega)]
        by_cases c2 : d.2.1 < 3
        · rw [sel_pos c2]
          have ha0 := ha.2 c2
          unfold sized
          rw [if_pos ha0]
          by_cases c3 : (s.length : Int) < d.2.2.1
          · rw [sel_pos c3, decide_eq_false (by omega)]; rfl
          · rw [sel_neg c3, decide_eq_true (by omega), ocall_some, Bool.true_and]
        · rw [sel_neg c2, ocall_some]
          unfold sized
          rw [if_neg (fun h => c2 (ha.1 h)), decide_eq_true (by omega), decide_eq_true (by omega)]
          rfl

theorem G15_is (k : Nat) (hk : 20 < k) (n : Int) (d : Def) (hd : defOf n = some d) (s : List UInt8) (hr : rightF n s = true) : G15 k (n, s, ()) = some (toBytes (writeF d s), ()) := by
  obtain ⟨hm, _⟩ := defOf_mem hd
  obtain ⟨_, _, k1, k5, _⟩ := D_all d hm
  rw [rightF_some hd] at hr
  simp only [Bool.and_eq_true] at hr
  have hsz := sized_le hm hr.1
  rw [G15_eq, G11_is k hk, ocall_some]
  have e : defR n = (d, true) := by unfold defR; rw [hd]
  rw [e]
  (try simp only [])
  rw [G34_is k k1 k5, ocall_some]
  unfold writeF
  by_cases ha : ahead d.2.1 = 0
  · rw [if_pos ha, sel_pos (by simp only [ha]; rfl)]
  · rw [if_neg ha, sel_neg (by (try simp only []); omega)]
    simp only [ofNat_len]
    rw [wrapu64 (by omega) (by omega), G35_eq, G51_is k hk s.length _ (by omega), put_len hm hr.1 ha]
    simp only [ocall_some]
    rw [sel_pos (by rw [digs_len]; rcases ahead_cases (kind := d.2.1) with e | e | e <;> omega)]
    try rfl

theorem val_lt : ∀ (s : List UInt8) (a : Nat), s.all dgt = true → val a s < (a + 1) * 10 ^ s.length
  | [], a, _ => by simp [val]
  | c :: t, a, h => by
    simp only [List.all_cons, Bool.and_eq_true, dgt_iff] at h
    have := val_lt t (10 * a + (c.toNat - 48)) h.2
    rw [val_cons]
    have h2 : (10 * a + (c.toNat - 48) + 1) * 10 ^ t.length ≤ ((a + 1) * 10) * 10 ^ t.length := Nat.mul_le_mul_right _ (by omega)
    rw [List.length_cons, Nat.pow_succ, Nat.mul_comm (10 ^ t.length) 10, ← Nat.mul_assoc]
    omega

theorem get_lt (s : List UInt8) (h : s.length ≤ 3) : (getOK s).1 < 1000 := by
  unfold getOK
  split
  · simp
  · split
    · simp
    · split
      · rename_i hd
        have h1 := val_lt s 0 (by simp [isDig] at hd; simpa using hd.2)
        have h2 : 10 ^ s.length ≤ 10 ^ 3 := Nat.pow_le_pow_right (by omega) h
        (try simp only [])
        omega
      · simp

theorem G17_none (k : Nat) (hk : 20 < k) (n : Int) (l : List Int) (h : defOf n = none) : G17 k (n, l, ()) = some ([], 0, 5, ()) := by
  rw [G17_eq, G11_is k hk, ocall_some]
  unfold defR
  rw [h]; rfl

theorem G17_is (k : Nat) (hk : 1100 < k) (n : Int) (d : Def) (hd : defOf n = some d) (b : List Int) (hb : b.length ≤ 9223372036854775807) :
    G17 k (n, b, ()) = some ((readF d (ofBytes b)).1, (readF d (ofBytes b)).2.1, (readF d (ofBytes b)).2.2, ()) := by
  obtain ⟨hm, _⟩ := defOf_mem hd
  obtain ⟨_, _, k1, k5, z1, z2, z3⟩ := D_all d hm
  have ha3 := ahead_cases (kind := d.2.1)
  rw [G17_eq, G11_is k (by omega), ocall_some]
  have e : defR n = (d, true) := by unfold defR; rw [hd]
  rw [e]
  simp only [Bool.not_true, sel_false]
  rw [G34_is k k1 k5, ocall_some]
  have fin : ∀ (m : Int), 1 ≤ m → m ≤ 999 → ∀ a : Nat, a = ahead d.2.1 → ¬ (b.length : Int) < (a : Int) + m →
      (ocall (G32 k (d.2.1, ofBytes (List.drop a (List.take ((a : Int) + m).toNat b)), ())) fun (r : Bool × Unit) => sel (!r.fst) (some (([] : List UInt8), (0 : Int), (3 : Int), ()))
        (some (ofBytes (List.drop a (List.take ((a : Int) + m).toNat b)), (a : Int) + m, (0 : Int), ()))) =
      some ((if signs d (((ofBytes b).take ((a : Int) + m).toNat).drop a) = true then (((ofBytes b).take ((a : Int) + m).toNat).drop a, (a : Int) + m, (0 : Int)) else ([], 0, 3)).1,
        (if signs d (((ofBytes b).take ((a : Int) + m).toNat).drop a) = true then (((ofBytes b).take ((a : Int) + m).toNat).drop a, (a : Int) + m, (0 : Int)) else ([], 0, 3)).2.1,
        (if signs d (((ofBytes b).take ((a : Int) + m).toNat).drop a) = true then (((ofBytes b).take ((a : Int) + m).toNat).drop a, (a : Int) + m, (0 : Int)) else ([], 0, 3)).2.2, ()) := by
    intro m m1 m2 a hae hlen
    have hl : (((ofBytes b).take ((a : Int) + m).toNat).drop a).length = m.toNat := by rw [List.length_drop, List.length_take, ofBytes_len]; omega
    rw [ofBytes_drop, ofBytes_take, G32_is k _ _ (by rw [hl, maxLen_eq]; omega) (by rw [hl]; omega), ocall_some, signs_ok d _ (by rw [hl]; omega)]
    cases (((ofBytes b).take ((a : Int) + m).toNat).drop a).all (okc d.2.1) <;> rfl
  unfold readF lenF
  simp only [Int.ofNat_eq_natCast, ofBytes_len]
  by_cases ha : ahead d.2.1 = 0
  · rw [sel_neg (by omega)]
    simp only [ha, if_true]
    have w1 : IntKind.i64.wrap ((b.length : Int) - ((0 : Nat) : Int)) = (b.length : Int) := by rw [wrap64 (by omega) (by omega)]; omega
    have w2 : IntKind.i64.wrap (((0 : Nat) : Int) + d.2.2.1) = ((0 : Nat) : Int) + d.2.2.1 := wrap64 (by omega) (by omega)
    simp only [w1, w2, Int.toNat_natCast]
    by_cases c1 : (b.length : Int) < d.2.2.1
    · rw [sel_pos c1, if_pos (by omega)]
    · rw [sel_neg c1, if_neg (by omega), sel_pos (by omega), sel_pos (by omega), sel_pos (by omega), sel_pos (by omega)]
      exact fin d.2.2.1 z1 z2 0 ha.symm (by omega)
  · rw [sel_pos (by omega)]
    simp only [ha, if_false]
    by_cases hl : b.length < ahead d.2.1
    · rw [sel_pos (by omega), if_pos hl]
      rfl
    · rw [sel_neg (by omega), if_neg hl, sel_pos (by omega), sel_pos (by omega), sel_pos (by omega)]
      simp only [Int.toNat_natCast]
      rw [List.drop_zero, ofBytes_take, G37_is k _ (by rw [maxLen_eq, List.length_take, ofBytes_len]; omega) (by omega), ocall_some]
      have hg := get_lt ((ofBytes b).take (ahead d.2.1)) (by rw [List.length_take]; omega)
      generalize getOK ((ofBytes b).take (ahead d.2.1)) = g at hg ⊢
      obtain ⟨g1, g2⟩ := g
      (try simp only [] at hg ⊢)
      by_cases c1 : g2 = 0
      · subst c1
        simp only [decide_true, Bool.not_true, sel_false, true_and]
        by_cases c2 : g1 = 0
        · subst c2
          rw [sel_pos (by rfl), if_neg (by simp)]
          rfl
        · rw [if_pos c2, sel_neg (by omega)]
          have w1 : IntKind.i64.wrap (g1 : Int) = (g1 : Int) := wrap64 (by omega) (by omega)
          have w2 : IntKind.i64.wrap ((b.length : Int) - ((ahead d.2.1 : Nat) : Int)) = (b.length : Int) - ((ahead d.2.1 : Nat) : Int) := wrap64 (by omega) (by omega)
          have w3 : IntKind.i64.wrap (((ahead d.2.1 : Nat) : Int) + (g1 : Int)) = ((ahead d.2.1 : Nat) : Int) + (g1 : Int) := wrap64 (by omega) (by omega)
          simp only [w1, w2, w3]
          by_cases c3 : d.2.2.1 < (g1 : Int)
          · rw [sel_pos c3, if_pos c3]
            rfl
          · rw [sel_neg c3, if_neg c3]
            simp only [if_true]
            by_cases c4 : (b.length : Int) - ((ahead d.2.1 : Nat) : Int) < (g1 : Int)
            · rw [sel_pos c4, if_pos (by omega)]
            · rw [sel_neg c4, if_neg (by omega), sel_pos (by omega), sel_pos (by omega), sel_pos (by omega), sel_pos (by omega)]
              exact fin g1 (by omega) (by omega) _ rfl (by omega)
      · simp only [c1, decide_false, Bool.not_false, sel_true, false_and, if_false]
        rfl

end Go.Proofs.Ytjgnpmdbkgeakaa.G
