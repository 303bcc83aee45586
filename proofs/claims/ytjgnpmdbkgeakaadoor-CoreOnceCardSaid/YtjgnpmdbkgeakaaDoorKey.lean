/- What the functions of keys answer. -/
import Derived.Test.YtjgnpmdbkgeakaaDoorDeal
set_option linter.unusedVariables false
set_option linter.unusedSimpArgs false
set_option maxRecDepth 100000
namespace Go.Proofs.YtjgnpmdbkgeakaaDoor.G
open Go Go.Proofs.YtjgnpmdbkgeakaaDoor Th

/-! the order of texts -/
theorem bl_eq : ∀ (x y : Txt), Go.Op.bytesLess x y = decide (x < y)
  | [], [] => by simp [Go.Op.bytesLess]
  | [], b :: t => by simp [Go.Op.bytesLess]
  | a :: s, [] => by simp [Go.Op.bytesLess]
  | a :: s, b :: t => by
    simp only [Go.Op.bytesLess, List.cons_lt_cons_iff, bl_eq s t]
    by_cases h : a = b
    · subst h; simp
    · by_cases h2 : a < b
      · simp [h, h2]
      · simp [h, h2]

theorem bl_irrefl (s : Txt) : Go.Op.bytesLess s s = false := by rw [bl_eq, decide_eq_false]; exact List.lt_irrefl s
theorem bl_trans {s t u : Txt} (h1 : Go.Op.bytesLess s t = true) (h2 : Go.Op.bytesLess t u = true) : Go.Op.bytesLess s u = true := by
  rw [bl_eq, decide_eq_true_eq] at h1 h2 ⊢
  exact List.lt_trans h1 h2
theorem bl_asymm {s t : Txt} (h : Go.Op.bytesLess s t = true) : Go.Op.bytesLess t s = false := by
  cases h2 : Go.Op.bytesLess t s with
  | false => rfl
  | true => have := bl_trans h h2; rw [bl_irrefl] at this; cases this
theorem bl_tri {s t : Txt} (h : Go.Op.bytesLess s t = false) (hne : s ≠ t) : Go.Op.bytesLess t s = true := by
  rw [bl_eq, decide_eq_false_iff_not] at h
  rw [bl_eq, decide_eq_true_eq]
  have := List.not_lt.1 h
  rcases List.le_iff_lt_or_eq.1 this with h2 | h2
  · exact h2
  · exact absurd h2.symm hne

/-! the order of keys -/
def ordS (s t : Txt) : Int := if Go.Op.bytesLess s t = true then -1 else if s = t then 0 else 1
def ordK (a b : Key) : Int := if a.1 < b.1 then -1 else if b.1 < a.1 then 1 else ordS a.2.1 b.2.1

theorem G103_is (k : Nat) (a b : Int) : G103 k (a, b, ()) = some (if a < b then -1 else if b < a then 1 else 0, ()) := by
  rw [G103_eq, G166_eq, ocall_some, G166_eq, ocall_some]
  simp only [decide_true, Bool.not_true, sel_false, sel_dec]
  by_cases h : a < b
  · simp [h]
  · by_cases h2 : b < a <;> simp [h, h2]

theorem G104_is (k : Nat) (a b : Txt) : G104 k (a, b, ()) = some (ordS a b, ()) := by
  rw [G104_eq, G167_eq, ocall_some, G167_eq, ocall_some]
  simp only [decide_true, Bool.not_true, sel_false]
  unfold ordS
  cases Go.Op.bytesLess a b with
  | true => rfl
  | false =>
    simp only [Bool.false_or, sel_false, Bool.false_eq_true, if_false]
    by_cases h : a = b
    · rw [decide_eq_true h, if_pos h]; rfl
    · rw [decide_eq_false h, if_neg h]; rfl

theorem G102_is (k : Nat) (hk : 2 < k) (a b : Int) : G102 k ([a, b], ()) = some (if a = 0 then b else a, ()) := by
  obtain ⟨k, rfl⟩ : ∃ m, k = m + 3 := ⟨k - 3, by omega⟩
  rw [G102_eq]
  have e2 : Int.ofNat ([a, b] : List Int).length = 2 := rfl
  simp only [e2]
  rw [show k + 3 = (k + 2) + 1 by omega, G102_3_eq]
  (try simp only [])
  have e3 : Int.ofNat ([a, b] : List Int).length = 2 := rfl
  rw [e3, sel_pos (by omega), sel_pos (by omega), sel_pos (by omega)]
  have g0 : ([a, b] : List Int).getD (Int.toNat 0) (OfNat.ofNat 0) = a := rfl
  rw [g0]
  by_cases h : a = 0
  · subst h
    have ed : (!decide ((0 : Int) = 0)) = false := rfl
    rw [ed, sel_false, if_pos rfl, wrap64 (by omega) (by omega), show k + 2 = (k + 1) + 1 by omega, G102_3_eq]
    (try simp only [])
    rw [e3, sel_pos (by omega), sel_pos (by omega), sel_pos (by omega)]
    have g1 : ([0, b] : List Int).getD (Int.toNat (0 + 1)) (OfNat.ofNat 0) = b := rfl
    rw [g1]
    by_cases h2 : b = 0
    · subst h2
      rw [ed, sel_false, wrap64 (by omega) (by omega), G102_3_eq]
      (try simp only [])
      rw [e3, sel_neg (by omega), ocall_some]
      rfl
    · rw [decide_eq_false h2]; rfl
  · rw [decide_eq_false h, if_neg h]; rfl

theorem G29_is (k : Nat) (hk : 2 < k) (a b : Key) : G29 k (a, b, ()) = some (ordK a b, ()) := by
  obtain ⟨a1, a2, ⟨⟩⟩ := a
  obtain ⟨b1, b2, ⟨⟩⟩ := b
  rw [G29_eq]
  (try simp only [])
  rw [G103_is, ocall_some, G104_is, ocall_some, G102_is k hk, ocall_some]
  unfold ordK
  (try simp only [])
  by_cases h : a1 < b1
  · simp [h]
  · by_cases h2 : b1 < a1 <;> simp [h, h2]

theorem sameK (a b : Key) : (sameI a.1 b.1 && (sameS a.2.1 b.2.1 && true)) = decide (a = b) := by
  obtain ⟨a1, a2, ⟨⟩⟩ := a
  obtain ⟨b1, b2, ⟨⟩⟩ := b
  simp [sameI, sameS]

theorem ordK_zero {a b : Key} : ordK a b = 0 ↔ a = b := by
  obtain ⟨a1, a2, ⟨⟩⟩ := a
  obtain ⟨b1, b2, ⟨⟩⟩ := b
  unfold ordK ordS
  simp only [Prod.mk.injEq, and_true]
  constructor
  · intro h
    split at h
    · cases h
    · split at h
      · cases h
      · split at h
        · cases h
        · split at h
          · rename_i e; exact ⟨by omega, e⟩
          · cases h
  · rintro ⟨rfl, rfl⟩
    rw [if_neg (by omega), if_neg (by omega), bl_irrefl]; simp
theorem ordS_flip (s t : Txt) : ordS t s = - ordS s t := by
  unfold ordS
  cases h : Go.Op.bytesLess s t with
  | true =>
    rw [bl_asymm h]
    by_cases e : t = s
    · subst e; rw [bl_irrefl] at h; cases h
    · simp [e]
  | false =>
    by_cases e : s = t
    · subst e; simp [h]
    · rw [bl_tri h e]; simp [e]
theorem ordK_flip (a b : Key) : ordK b a = - ordK a b := by
  unfold ordK
  by_cases h : a.1 < b.1
  · rw [if_pos h, if_neg (by omega), if_pos h]; rfl
  · by_cases h2 : b.1 < a.1
    · rw [if_pos h2, if_neg h, if_pos h2]
    · rw [if_neg h2, if_neg h, if_neg h, if_neg h2]; exact ordS_flip _ _
theorem ordK_cases (a b : Key) : ordK a b = -1 ∨ ordK a b = 0 ∨ ordK a b = 1 := by
  unfold ordK ordS
  repeat' split
  all_goals simp
theorem ordK_neg {a b : Key} : ordK a b = -1 ↔ a.1 < b.1 ∨ (a.1 = b.1 ∧ Go.Op.bytesLess a.2.1 b.2.1 = true) := by
  unfold ordK ordS
  constructor
  · intro h
    split at h
    · exact .inl (by assumption)
    · split at h
      · cases h
      · split at h
        · exact .inr ⟨by omega, by assumption⟩
        · split at h <;> cases h
  · rintro (h | ⟨h, h2⟩)
    · rw [if_pos h]
    · rw [if_neg (by omega), if_neg (by omega), if_pos h2]
theorem ordK_trans {a b c : Key} (h1 : ordK a b = -1) (h2 : ordK b c = -1) : ordK a c = -1 := by
  rw [ordK_neg] at h1 h2 ⊢
  rcases h1 with h1 | ⟨h1, h3⟩
  · rcases h2 with h2 | ⟨h2, _⟩ <;> exact .inl (by omega)
  · rcases h2 with h2 | ⟨h2, h4⟩
    · exact .inl (by omega)
    · exact .inr ⟨by omega, bl_trans h3 h4⟩

theorem G30_is (k : Nat) (a b : Key) : G30 k (a, b, ()) = some (ordK a b, ()) := by
  rw [G30_eq]
  simp only [sameK]
  by_cases h : a = b
  · rw [sel_pos h, ordK_zero.2 h]
  · rw [sel_neg h]
    have hne := fun e => h (ordK_zero.1 e)
    unfold ordK ordS at hne ⊢
    by_cases h1 : a.1 < b.1
    · rw [sel_pos h1, if_pos h1]
    · rw [sel_neg h1, if_neg h1]
      by_cases h2 : b.1 < a.1
      · rw [sel_neg (by omega), if_pos h2]
      · rw [sel_pos (by omega), if_neg h2]
        rw [if_neg h1, if_neg h2] at hne
        cases hb : Go.Op.bytesLess a.2.1 b.2.1 with
        | true => rfl
        | false =>
          rw [hb] at hne
          simp only [Bool.false_eq_true, if_false] at hne
          by_cases e : a.2.1 = b.2.1
          · rw [if_pos e] at hne; exact absurd rfl hne
          · simp [e]

/-! which keys are right -/
def keyOK (a : Key) : Bool := decide (a.1 ≤ 999999) && rightF 37 a.2.1
theorem ack_ok (a : Key) : dealOK (7, [], 0, a.1, a.2.1, [48, 48], ()) = keyOK a := by
  unfold dealOK keyOK
  have h1 : asksK 7 = false := rfl
  have h2 : rightF 39 [48, 48] = true := by decide
  simp only [h1, h2]
  simp
theorem G27_is (k L : Nat) (hL : L ≤ 1000000) (hk : L + 100 < k) (a : Key) (hl : a.2.1.length ≤ L) (h2 : 2 ≤ L) (hg : 0 ≤ a.1 ∧ a.1 ≤ 4294967295) : G27 k (a, ()) = some (keyOK a, ()) := by
  rw [G27_eq]
  (try simp only [])
  rw [G33_is k L hL hk (7, [], 0, a.1, a.2.1, [48, 48], ()) ⟨Nat.zero_le _, hl, h2⟩ ⟨⟨Int.le_refl 0, show (0 : Int) ≤ 18446744073709551615 by decide⟩, hg⟩, ocall_some, ack_ok]
theorem G28_is (k : Nat) (hk : 100 < k) (a : Key) (hl : a.2.1.length ≤ 1000000) (hlk : a.2.1.length < k) : G28 k (a, ()) = some (keyOK a, ()) := by
  rw [G28_eq]
  unfold keyOK
  (try simp only [])
  by_cases h : a.1 ≤ 999999
  · rw [sel_pos h, G101_is k (by omega) 37 _ (by rw [maxLen_eq]; omega) hlk, ocall_some, decide_eq_true h]; rfl
  · rw [sel_neg h, decide_eq_false h]; rfl

/-! shards -/
def hstep (h : Nat) (c : UInt8) : Nat := (h ^^^ c.toNat) * 16777619 % 4294967296
def hsh (s : Txt) : Nat := s.foldl hstep 2166136261

theorem bits32 {x y : Nat} (hx : x < 4294967296) (hy : y < 4294967296) : bits .xor .u32 (x : Int) (y : Int) = ((x ^^^ y : Nat) : Int) := by
  have hb : (x ^^^ y) < 2 ^ 32 := Nat.xor_lt_two_pow (by omega) (by omega)
  have e : (BitVec.ofInt 32 (x : Int) ^^^ BitVec.ofInt 32 (y : Int)).toNat = x ^^^ y := by
    rw [BitVec.toNat_xor, BitVec.ofInt_natCast, BitVec.ofInt_natCast, BitVec.toNat_ofNat, BitVec.toNat_ofNat, Nat.mod_eq_of_lt (by omega), Nat.mod_eq_of_lt (by omega)]
  show IntKind.u32.wrap (((BitVec.ofInt 32 (x : Int) ^^^ BitVec.ofInt 32 (y : Int)).toNat : Nat) : Int) = _
  rw [e]
  exact wrapu32 (by omega) (by omega)
theorem bits64 {x y : Nat} (hx : x < 4294967296) (hy : y < 4294967296) : bits .xor .u64 (x : Int) (y : Int) = ((x ^^^ y : Nat) : Int) := by
  have hb : (x ^^^ y) < 2 ^ 32 := Nat.xor_lt_two_pow (by omega) (by omega)
  have e : (BitVec.ofInt 64 (x : Int) ^^^ BitVec.ofInt 64 (y : Int)).toNat = x ^^^ y := by
    rw [BitVec.toNat_xor, BitVec.ofInt_natCast, BitVec.ofInt_natCast, BitVec.toNat_ofNat, BitVec.toNat_ofNat, Nat.mod_eq_of_lt (by omega), Nat.mod_eq_of_lt (by omega)]
  show IntKind.u64.wrap (((BitVec.ofInt 64 (x : Int) ^^^ BitVec.ofInt 64 (y : Int)).toNat : Nat) : Int) = _
  rw [e]
  exact wrapu64 (by omega) (by omega)

theorem hstep_lt (h : Nat) (c : UInt8) : hstep h c < 4294967296 := Nat.mod_lt _ (by omega)
theorem c_lt (c : UInt8) : c.toNat < 256 := c.toNat_lt
theorem xor_le {h : Nat} (hh : h < 4294967296) (c : UInt8) : (h ^^^ c.toNat) < 4294967296 := by
  have := c_lt c
  exact Nat.xor_lt_two_pow (n := 32) (by omega) (by omega)
theorem step32 {h : Nat} (hh : h < 4294967296) (c : UInt8) : IntKind.u32.wrap (bits .xor .u32 (h : Int) (IntKind.u32.wrap ((c.toNat : Nat) : Int)) * 16777619) = ((hstep h c : Nat) : Int) := by
  have := c_lt c
  have hx := xor_le hh c
  rw [wrapu32 (n := ((c.toNat : Nat) : Int)) (by omega) (by omega), bits32 hh (by omega)]
  unfold hstep IntKind.wrap
  simp only [IntKind.bits, IntKind.signed]
  simp
theorem step64 {h : Nat} (hh : h < 4294967296) (c : UInt8) : (IntKind.u64.wrap (bits .xor .u64 (h : Int) (IntKind.u64.wrap ((c.toNat : Nat) : Int)) * 16777619)).tmod 4294967296 = ((hstep h c : Nat) : Int) := by
  have := c_lt c
  have hx := xor_le hh c
  rw [wrapu64 (show (0 : Int) ≤ ((c.toNat : Nat) : Int) by omega) (by omega), bits64 hh (by omega), wrapu64 (by omega) (by omega)]
  unfold hstep
  rw [show ((h ^^^ c.toNat : Nat) : Int) * 16777619 = (((h ^^^ c.toNat) * 16777619 : Nat) : Int) by omega]
  exact (Int.ofNat_tmod ((h ^^^ c.toNat) * 16777619) 4294967296).symm

theorem foldl_lt (s : Txt) : ∀ h : Nat, h < 4294967296 → s.foldl hstep h < 4294967296 := by
  induction s with
  | nil => intro h hh; exact hh
  | cons c s ih => intro h _; exact ih _ (hstep_lt h c)

theorem toBytes_get {s : Txt} {i : Nat} (h : i < s.length) (d : Int) : (toBytes s).getD i d = ((s[i].toNat : Nat) : Int) := by
  have h2 : i < (toBytes s).length := by simpa [toBytes] using h
  rw [getD_of h2]; simp [toBytes]

theorem G31_6_is (k : Nat) (m : Int) (s : Txt) (hs : s.length ≤ 1000000000) : ∀ (j i h : Nat), i + j = s.length → h < 4294967296 → ∀ n, j < n →
    G31_6 k n (m, (h : Int), toBytes s, (s.length : Int), (i : Int), ()) = some (m, (((s.drop i).foldl hstep h : Nat) : Int), ()) := by
  intro j
  induction j with
  | zero =>
    intro i h hij hh n hn
    obtain ⟨n, rfl⟩ : ∃ m, n = m + 1 := ⟨n - 1, by omega⟩
    rw [G31_6_eq, sel_neg (by (try simp only []); omega), List.drop_eq_nil_of_le (by omega)]
    rfl
  | succ j ih =>
    intro i h hij hh n hn
    obtain ⟨n, rfl⟩ : ∃ m, n = m + 1 := ⟨n - 1, by omega⟩
    have hlt : i < s.length := by omega
    have hl : (toBytes s).length = s.length := by simp [toBytes]
    rw [G31_6_eq]
    simp only [ofNat_len, Int.toNat_natCast, hl, toBytes_get hlt]
    rw [sel_pos (by omega), sel_pos (by omega), sel_pos (by omega), sel_pos hlt, drop_at hlt, List.foldl_cons, step32 hh, wrap64 (by omega) (by omega)]
    exact ih (i + 1) (hstep h s[i]) (by omega) (hstep_lt _ _) n (by omega)

theorem G32_6_is (k : Nat) (m : Int) (s : Txt) (hs : s.length ≤ 1000000000) : ∀ (j i h : Nat), i + j = s.length → h < 4294967296 → ∀ n, j < n →
    G32_6 k n (m, s, (h : Int), (i : Int), ()) = some (m, (((s.drop i).foldl hstep h : Nat) : Int), ()) := by
  intro j
  induction j with
  | zero =>
    intro i h hij hh n hn
    obtain ⟨n, rfl⟩ : ∃ m, n = m + 1 := ⟨n - 1, by omega⟩
    rw [G32_6_eq, sel_neg (by simp only [ofNat_len]; omega), List.drop_eq_nil_of_le (by omega)]
    rfl
  | succ j ih =>
    intro i h hij hh n hn
    obtain ⟨n, rfl⟩ : ∃ m, n = m + 1 := ⟨n - 1, by omega⟩
    have hlt : i < s.length := by omega
    rw [G32_6_eq]
    simp only [ofNat_len, Int.toNat_natCast, getD_of hlt, Int.ofNat_eq_natCast]
    rw [sel_pos (by omega), sel_pos (by omega), sel_pos (by omega), drop_at hlt, List.foldl_cons, step64 hh, wrap64 (by omega) (by omega)]
    exact ih (i + 1) (hstep h s[i]) (by omega) (hstep_lt _ _) n (by omega)

def shardK (a : Key) (many : Int) : Int := if keyOK a = true ∧ 1 ≤ many ∧ many ≤ 16 then ((hsh (stanT a.1 ++ a.2.1) : Nat) : Int) % many else -1

theorem tmod_nat (h : Nat) {m : Int} (hm : 0 < m) : ((h : Nat) : Int).tmod m = ((h : Nat) : Int) % m := Int.tmod_eq_emod_of_nonneg (by omega)

theorem stanT_len (x : Int) : (stanT x).length ≤ 19 := putOK_le _ _

theorem G31_is (k L : Nat) (hL : L ≤ 1000000) (hk : L + 100 < k) (h2 : 2 ≤ L) (a : Key) (many : Int) (hl : a.2.1.length ≤ L) (hg : 0 ≤ a.1 ∧ a.1 ≤ 4294967295) : G31 k (a, many, ()) = some (shardK a many, ()) := by
  obtain ⟨st, rrn, ⟨⟩⟩ := a
  (try simp only [] at hl hg)
  rw [G31_eq]
  (try simp only [])
  rw [G27_is k L hL hk (st, rrn, ()) hl h2 hg, ocall_some]
  unfold shardK
  (try simp only [])
  cases hok : keyOK (st, rrn, ()) with
  | false => simp
  | true =>
    simp only [Bool.not_true, sel_false]
    by_cases c1 : many < 1
    · rw [sel_pos c1, if_neg (by rintro ⟨_, h, _⟩; omega)]
    rw [sel_neg c1]
    by_cases c2 : 16 < many
    · rw [sel_pos c2, if_neg (by rintro ⟨_, _, h⟩; omega)]
    have hst := stanT_len st
    have hln : (stanT st ++ rrn).length ≤ L + 19 := by simp; omega
    have hlb : (toBytes (stanT st ++ rrn)).length = (stanT st ++ rrn).length := by simp [toBytes]
    rw [sel_neg c2, wrapu64 (by omega) (by omega), put_is k (by omega) st 6 (by omega) (by omega), ocall_some, if_pos ⟨trivial, by omega, by omega⟩]
    show sel (decide ((stanT st).length + rrn.length ≤ 140737488355328)) _ _ = _
    rw [sel_pos (by omega)]
    have := G31_6_is k many (stanT st ++ rrn) (by omega) (stanT st ++ rrn).length 0 2166136261 (by omega) (by omega) k (by omega)
    unfold stanT at hlb this
    simp only [ofNat_len, hlb, List.drop_zero, Int.natCast_zero] at this ⊢
    rw [show ((2166136261 : Nat) : Int) = 2166136261 from rfl] at this
    rw [this, ocall_some]
    (try simp only [])
    rw [wrapu32 (by omega) (by omega), decide_eq_false (by omega)]
    simp only [Bool.not_false, sel_true]
    rw [tmod_nat _ (by omega)]
    have hb := foldl_lt ((putOK st.toNat 6).1 ++ rrn) 2166136261 (by omega)
    have hm : (((((putOK st.toNat 6).1 ++ rrn).foldl hstep 2166136261 : Nat) : Int) % many) < 16 := by
      have := Int.emod_lt_of_pos (((((putOK st.toNat 6).1 ++ rrn).foldl hstep 2166136261 : Nat) : Int)) (show 0 < many by omega)
      omega
    have hm0 := Int.emod_nonneg (((((putOK st.toNat 6).1 ++ rrn).foldl hstep 2166136261 : Nat) : Int)) (show many ≠ 0 by omega)
    rw [wrap64 (by omega) (by omega)]
    rfl

theorem G32_is (k : Nat) (hk : 100 < k) (a : Key) (many : Int) (hl : a.2.1.length ≤ 1000000) (hlk : a.2.1.length + 100 < k) (hg : 0 ≤ a.1 ∧ a.1 ≤ 4294967295) : G32 k (a, many, ()) = some (shardK a many, ()) := by
  obtain ⟨st, rrn, ⟨⟩⟩ := a
  (try simp only [] at hl hg hlk)
  rw [G32_eq]
  (try simp only [])
  rw [G28_is k hk (st, rrn, ()) hl (by (try simp only []); omega), ocall_some]
  unfold shardK
  (try simp only [])
  cases hok : keyOK (st, rrn, ()) with
  | false => simp
  | true =>
    simp only [Bool.not_true, sel_false]
    by_cases c1 : many < 1
    · rw [sel_pos c1, if_neg (by rintro ⟨_, h, _⟩; omega)]
    rw [sel_neg c1]
    by_cases c2 : 16 < many
    · rw [sel_pos c2, if_neg (by rintro ⟨_, _, h⟩; omega)]
    have hst := stanT_len st
    have hln : (stanT st ++ rrn).length = (stanT st).length + rrn.length := by simp
    have hp : G106 k (st, 6, ()) = some (stanT st, ()) := by
      rw [G106_eq]
      have := G168_is k (by omega) st.toNat 6 (by omega)
      rw [show ((st.toNat : Nat) : Int) = st by omega] at this
      (try simp only [])
      rw [this, ocall_some]; rfl
    rw [sel_neg c2, wrapu64 (by omega) (by omega), hp, ocall_some, if_pos ⟨trivial, by omega, by omega⟩]
    rw [sel_pos (by (try simp only []); omega)]
    have := G32_6_is k many (stanT st ++ rrn) (by omega) (stanT st ++ rrn).length 0 2166136261 (by omega) (by omega) k (by omega)
    simp only [List.drop_zero, Int.natCast_zero] at this ⊢
    rw [show ((2166136261 : Nat) : Int) = 2166136261 from rfl] at this
    rw [this, ocall_some]
    (try simp only [])
    rw [wrapu64 (by omega) (by omega), decide_eq_false (by omega)]
    simp only [Bool.not_false, sel_true]
    rw [tmod_nat _ (by omega)]
    have hm : ((((stanT st ++ rrn).foldl hstep 2166136261 : Nat) : Int) % many) < 16 := by
      have := Int.emod_lt_of_pos ((((stanT st ++ rrn).foldl hstep 2166136261 : Nat) : Int)) (show 0 < many by omega)
      omega
    have hm0 := Int.emod_nonneg ((((stanT st ++ rrn).foldl hstep 2166136261 : Nat) : Int)) (show many ≠ 0 by omega)
    rw [wrap64 (by omega) (by omega)]
    rfl

theorem G26_is (k : Nat) (d : Deal) : G26 k (d, ()) = some ((d.2.2.2.1, d.2.2.2.2.1, ()), ()) := by rw [G26_eq]
end Go.Proofs.YtjgnpmdbkgeakaaDoor.G
