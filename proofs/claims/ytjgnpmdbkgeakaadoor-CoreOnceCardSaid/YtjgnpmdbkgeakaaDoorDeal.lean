/- What the functions of deals and their messages' fields answer. -/
import Derived.Test.YtjgnpmdbkgeakaaDoorField3
import Derived.Test.YtjgnpmdbkgeakaaDoorDigit2
set_option linter.unusedVariables false
set_option linter.unusedSimpArgs false
set_option maxRecDepth 100000
namespace Go.Proofs.YtjgnpmdbkgeakaaDoor.G
open Go Go.Proofs.YtjgnpmdbkgeakaaDoor Th

abbrev Txt := List UInt8
abbrev Item := Int × Txt × Unit
abbrev Msg := Txt × List Item × Unit
abbrev Deal := Int × Txt × Int × Int × Txt × Txt × Unit
abbrev Key := Int × Txt × Unit

def TY : List Txt := [[], [48, 49, 48, 48], [48, 49, 49, 48], [48, 52, 48, 48], [48, 52, 49, 48], [48, 52, 50, 48], [48, 52, 50, 49], [48, 52, 51, 48]]
def typeK (kind : Int) : Txt := if kind < 0 ∨ 8 ≤ kind then [] else TY.getD kind.toNat []

theorem G108_is (k : Nat) (kind : Int) : G108 k (kind, ()) = some (typeK kind, ()) := by
  rw [G108_eq]
  unfold typeK
  by_cases c1 : kind < 0
  · rw [sel_pos c1, if_pos (.inl c1)]
  by_cases c2 : 8 ≤ kind
  · rw [sel_neg c1, sel_pos c2, if_pos (.inr c2)]
  rw [sel_neg c1, sel_neg c2, sel_pos (by omega), sel_pos (show (kind, ()).fst < Int.ofNat 8 by simp only [Int.ofNat_eq_natCast]; omega), if_neg (by omega)]
  rfl

def asksK (kind : Int) : Bool := decide (kind = 1 ∨ kind = 3 ∨ kind = 5 ∨ kind = 6)
theorem G42_is (k : Nat) (kind : Int) : G42 k (kind, ()) = some (asksK kind, ()) := by
  rw [G42_eq]
  unfold asksK
  simp only [sel_dec]
  by_cases h1 : kind = 1
  · simp [h1]
  by_cases h3 : kind = 3
  · simp [h3]
  by_cases h5 : kind = 5
  · simp [h5]
  by_cases h6 : kind = 6 <;> simp [h1, h3, h5, h6]
theorem G43_is (k : Nat) (kind : Int) : G43 k (kind, ()) = some (asksK kind, ()) := by
  rw [G43_eq]
  unfold asksK
  simp only [sel_dec]
  by_cases h1 : kind = 1
  · simp [h1]
  by_cases h3 : kind = 3
  · simp [h3]
  by_cases h5 : kind = 5
  · simp [h5]
  by_cases h6 : kind = 6 <;> simp [h1, h3, h5, h6]

def zeros : Txt := List.replicate 32 48
def stanT (stan : Int) : Txt := (putOK stan.toNat 6).1
def amtT (amt : Int) : Txt := (putOK amt.toNat 12).1
def originT (stan : Int) : Txt := [48, 49, 48, 48] ++ stanT stan ++ zeros
def itemsK (d : Deal) : List Item :=
  if asksK d.1 = true then [(2, d.2.1, ()), (4, amtT d.2.2.1, ()), (11, stanT d.2.2.2.1, ()), (37, d.2.2.2.2.1, ())] ++ (if 5 ≤ d.1 then [(90, originT d.2.2.2.1, ())] else [])
  else [(11, stanT d.2.2.2.1, ()), (37, d.2.2.2.2.1, ()), (39, d.2.2.2.2.2.1, ())]

theorem putOK_le (v : Nat) (n : Int) : (putOK v n).1.length ≤ 19 := by
  unfold putOK
  split
  · simp
  · split
    · simp only [digs_len]; omega
    · simp

theorem put_is (k : Nat) (hk : 20 < k) (v n : Int) (h0 : 0 ≤ v) (h1 : v ≤ 18446744073709551615) : G105 k (v, n, ()) = some ((putOK v.toNat n).1, (putOK v.toNat n).2, ()) := by
  have := G105_is k hk v.toNat n (by omega)
  rwa [show ((v.toNat : Nat) : Int) = v by omega] at this

theorem G109_is (k : Nat) (hk : 20 < k) (kind : Int) (pan : Txt) (amt stan : Int) (rrn code : Txt) (ha : 0 ≤ amt ∧ amt ≤ 18446744073709551615) (hs : 0 ≤ stan ∧ stan ≤ 4294967295) :
    G109 k ((kind, pan, amt, stan, rrn, code, ()), ()) = some (itemsK (kind, pan, amt, stan, rrn, code, ()), ()) := by
  rw [G109_eq]
  (try simp only [])
  rw [wrapu64 (by omega) (by omega), put_is k hk stan 6 (by omega) (by omega), ocall_some, G42_is, ocall_some]
  unfold itemsK
  (try simp only [])
  cases asksK kind with
  | false => rfl
  | true =>
    simp only [Bool.not_true, sel_false, if_true]
    rw [put_is k hk amt 12 (by omega) (by omega), ocall_some, G108_is, ocall_some]
    have hl := putOK_le stan.toNat 6
    have ht : typeK 1 = [48, 49, 48, 48] := rfl
    rw [ht]
    by_cases c : 5 ≤ kind
    · rw [sel_pos c, sel_pos (by simp only [List.length_cons, List.length_nil]; omega), sel_pos (by simp only [List.length_append, List.length_cons, List.length_nil]; omega), if_pos c]
      rfl
    · rw [sel_neg c, if_neg c]
      rfl

def KT : List Txt := [[48, 49, 48, 48], [48, 49, 49, 48], [48, 52, 48, 48], [48, 52, 49, 48], [48, 52, 50, 48], [48, 52, 50, 49], [48, 52, 51, 48]]
def knownT (s : Txt) : Bool := KT.contains s
theorem G121_is (k : Nat) (s : Txt) : G121 k (s, ()) = some (knownT s, ()) := by
  rw [G121_eq]
  unfold knownT KT
  simp only [sel_dec, List.contains_cons, List.contains_nil, Bool.or_false]
  by_cases h1 : s = [48, 49, 48, 48]
  · simp [h1]
  by_cases h2 : s = [48, 49, 49, 48]
  · simp [h2]
  by_cases h3 : s = [48, 52, 48, 48]
  · simp [h3]
  by_cases h4 : s = [48, 52, 49, 48]
  · simp [h4]
  by_cases h5 : s = [48, 52, 50, 48]
  · simp [h5]
  by_cases h6 : s = [48, 52, 50, 49]
  · simp [h6]
  by_cases h7 : s = [48, 52, 51, 48] <;> simp [h1, h2, h3, h4, h5, h6, h7]

def itemsOK : Int → List Item → Bool
  | _, [] => true
  | last, x :: l => decide (last < x.1) && rightF x.1 x.2.1 && itemsOK x.1 l
def msgRight (m : Msg) : Bool := itemsOK 0 m.2.1 && knownT m.1 && decide (0 < m.2.1.length)

theorem G44_3_is (k : Nat) (hk : 20 < k) (l l0 : List Item) (typ : Txt) (hl : l.length ≤ 1000000000) (hx : ∀ x ∈ l, x.2.1.length ≤ maxLen ∧ x.2.1.length < k) :
    ∀ (j i : Nat) (last : Int), i + j = l.length → ∀ n, j < n → G44_3 k n (last, l, (l.length : Int), (i : Int), typ, l0, ()) = some (sel (itemsOK last (l.drop i)) (.inl (typ, l0, ())) (.inr (false, ()))) := by
  intro j
  induction j with
  | zero =>
    intro i last hij n hn
    obtain ⟨n, rfl⟩ : ∃ m, n = m + 1 := ⟨n - 1, by omega⟩
    rw [G44_3_eq, sel_neg (by (try simp only []); omega), List.drop_eq_nil_of_le (by omega)]
    rfl
  | succ j ih =>
    intro i last hij n hn
    obtain ⟨n, rfl⟩ : ∃ m, n = m + 1 := ⟨n - 1, by omega⟩
    have hlt : i < l.length := by omega
    rw [G44_3_eq]
    simp only [ofNat_len, Int.toNat_natCast, getD_of hlt]
    rw [sel_pos (by omega), sel_pos (by omega), sel_pos (by omega), drop_at hlt]
    simp only [itemsOK]
    obtain ⟨h1, h2⟩ := hx l[i] (List.getElem_mem _)
    by_cases c : l[i].1 ≤ last
    · rw [sel_pos c, decide_eq_false (by omega)]; rfl
    · rw [sel_neg c, G117_is k hk _ _ h1 h2, ocall_some, decide_eq_true (by omega)]
      cases hr : rightF l[i].1 l[i].2.1 with
      | false => rfl
      | true =>
        simp only [Bool.not_true, sel_false, Bool.true_and]
        rw [wrap64 (by omega) (by omega)]
        exact ih (i + 1) l[i].1 (by omega) n (by omega)

theorem G44_is (k : Nat) (hk : 20 < k) (typ : Txt) (l : List Item) (hl : l.length ≤ 1000000000) (hlk : l.length < k) (hx : ∀ x ∈ l, x.2.1.length ≤ maxLen ∧ x.2.1.length < k) :
    G44 k ((typ, l, ()), ()) = some (msgRight (typ, l, ()), ()) := by
  rw [G44_eq]
  have := G44_3_is k hk l l typ hl hx l.length 0 0 (by omega) k hlk
  simp only [ofNat_len, List.drop_zero, Int.natCast_zero] at this ⊢
  rw [this, ocall_some]
  unfold msgRight
  (try simp only [])
  cases itemsOK 0 l with
  | false => rfl
  | true =>
    simp only [sel_true, esel_inl, G121_is, ocall_some, Bool.true_and]
    cases knownT typ with
    | false => rfl
    | true =>
      simp only [sel_true, Bool.true_and]
      have : decide ((0 : Int) < (l.length : Int)) = decide (0 < l.length) := decide_eq_decide.2 (by omega)
      rw [this]

/-! which deals are right -/
def dealOK (d : Deal) : Bool := decide (1 ≤ d.1) && decide (d.1 ≤ 7) && decide (d.2.2.2.1 ≤ 999999) && rightF 37 d.2.2.2.2.1 &&
  (if asksK d.1 = true then isFine d.2.1 && decide (d.2.1.length < 20) && decide (d.2.2.1 < 1000000000000) && decide (d.2.2.2.2.2.1 = []) else rightF 39 d.2.2.2.2.2.1 && decide (d.2.1 = []) && decide (d.2.2.1 = 0))

theorem rf11 (s : Txt) : rightF 11 s = (decide (s.length = 6) && isDig s) := by
  have : defOf 11 = some (11, 1, 6, ()) := rfl
  unfold rightF; rw [this]
  simp [sized, ahead, signs, Signs.signsOf]
  by_cases h : s.length = 6 <;> simp [h]; omega
theorem rf4 (s : Txt) : rightF 4 s = (decide (s.length = 12) && isDig s) := by
  have : defOf 4 = some (4, 1, 12, ()) := rfl
  unfold rightF; rw [this]
  simp [sized, ahead, signs, Signs.signsOf]
  by_cases h : s.length = 12 <;> simp [h]; omega
theorem rf90 (s : Txt) : rightF 90 s = (decide (s.length = 42) && isDig s) := by
  have : defOf 90 = some (90, 1, 42, ()) := rfl
  unfold rightF; rw [this]
  simp [sized, ahead, signs, Signs.signsOf]
  by_cases h : s.length = 42 <;> simp [h]; omega
theorem rf2 (s : Txt) : rightF 2 s = (decide (1 ≤ s.length) && decide (s.length ≤ 19) && isDig s) := by
  have : defOf 2 = some (2, 3, 19, ()) := rfl
  unfold rightF; rw [this]
  simp [sized, ahead, signs, Signs.signsOf]
  have : decide ((s.length : Int) ≤ 19) = decide (s.length ≤ 19) := decide_eq_decide.2 (by omega)
  rw [this]

theorem stanT_of {stan : Int} (h0 : 0 ≤ stan) (h : stan ≤ 999999) : stanT stan = digs stan.toNat 6 := by
  unfold stanT putOK
  rw [if_neg (by omega), if_pos (show stan.toNat / 10 ^ (6 : Int).toNat = 0 from Nat.div_eq_of_lt (by show stan.toNat < 10 ^ 6; omega))]
  rfl
theorem stanT_no {stan : Int} (h : ¬ stan ≤ 999999) : stanT stan = [] := by
  unfold stanT putOK
  rw [if_neg (by omega), if_neg]
  show ¬ stan.toNat / 10 ^ 6 = 0
  intro e
  have := (Nat.div_eq_zero_iff).1 e
  omega
theorem amtT_of {amt : Int} (h0 : 0 ≤ amt) (h : amt < 1000000000000) : amtT amt = digs amt.toNat 12 := by
  unfold amtT putOK
  rw [if_neg (by omega), if_pos (show amt.toNat / 10 ^ (12 : Int).toNat = 0 from Nat.div_eq_of_lt (by show amt.toNat < 10 ^ 12; omega))]
  rfl
theorem amtT_no {amt : Int} (h : ¬ amt < 1000000000000) : amtT amt = [] := by
  unfold amtT putOK
  rw [if_neg (by omega), if_neg]
  show ¬ amt.toNat / 10 ^ 12 = 0
  intro e
  have := (Nat.div_eq_zero_iff).1 e
  omega

theorem digs_all : ∀ (n v : Nat), (digs v n).all dgt = true := by
  intro n
  induction n with
  | zero => intro v; rfl
  | succ n ih =>
    intro v
    simp only [digs, List.all_append, ih, List.all_cons, List.all_nil, Bool.and_true, Bool.true_and]
    rw [dgt_iff, chr_toNat (by omega)]
    omega
theorem isDig_of {n v : Nat} (h : 0 < n) : isDig (digs v n) = true := by
  unfold isDig
  rw [digs_all, digs_len, decide_eq_true h]; rfl

theorem rf11_stan {stan : Int} (h0 : 0 ≤ stan) : rightF 11 (stanT stan) = decide (stan ≤ 999999) := by
  by_cases h : stan ≤ 999999
  · rw [rf11, stanT_of h0 h, digs_len, isDig_of (by omega), decide_eq_true h]; rfl
  · rw [rf11, stanT_no h, decide_eq_false h]; rfl
theorem rf4_amt {amt : Int} (h0 : 0 ≤ amt) : rightF 4 (amtT amt) = decide (amt < 1000000000000) := by
  by_cases h : amt < 1000000000000
  · rw [rf4, amtT_of h0 h, digs_len, isDig_of (by omega), decide_eq_true h]; rfl
  · rw [rf4, amtT_no h, decide_eq_false h]; rfl
theorem rf90_origin {stan : Int} (h0 : 0 ≤ stan) (h : stan ≤ 999999) : rightF 90 (originT stan) = true := by
  rw [rf90]
  unfold originT zeros
  rw [stanT_of h0 h]
  have hl : ([48, 49, 48, 48] ++ digs stan.toNat 6 ++ List.replicate 32 (48 : UInt8)).length = 42 := by simp [digs_len]
  have ha : ([48, 49, 48, 48] ++ digs stan.toNat 6 ++ List.replicate 32 (48 : UInt8)).all dgt = true := by
    rw [List.all_append, List.all_append, digs_all]; rfl
  unfold isDig
  rw [hl, ha]; rfl
theorem rf2_fine {pan : Txt} (h : isFine pan = true) : rightF 2 pan = decide (pan.length < 20) := by
  have hd : isDig pan = true := by unfold isFine at h; simp at h; exact h.1
  have hp : 0 < pan.length := by unfold isDig at hd; simp at hd; exact hd.1
  rw [rf2, hd, decide_eq_true (show 1 ≤ pan.length by omega)]
  have : decide (pan.length ≤ 19) = decide (pan.length < 20) := decide_eq_decide.2 (by omega)
  rw [this]; simp

theorem known_type (kind : Int) : knownT (typeK kind) = (decide (1 ≤ kind) && decide (kind ≤ 7)) := by
  by_cases h : kind < 0 ∨ 8 ≤ kind
  · have : typeK kind = [] := by unfold typeK; rw [if_pos h]
    rw [this]
    rcases h with h | h
    · rw [decide_eq_false (show ¬ 1 ≤ kind by omega)]; rfl
    · rw [decide_eq_false (show ¬ kind ≤ 7 by omega), Bool.and_false]; rfl
  · have : kind = 0 ∨ kind = 1 ∨ kind = 2 ∨ kind = 3 ∨ kind = 4 ∨ kind = 5 ∨ kind = 6 ∨ kind = 7 := by omega
    rcases this with rfl | rfl | rfl | rfl | rfl | rfl | rfl | rfl <;> rfl

theorem asks_kind {kind : Int} (h : asksK kind = true) : 1 ≤ kind ∧ kind ≤ 7 := by
  simp [asksK] at h; omega

/-- the code's test says what the document says -/
theorem right_eq (kind : Int) (pan : Txt) (amt stan : Int) (rrn code : Txt) (ha : 0 ≤ amt) (hs : 0 ≤ stan) :
    (if asksK kind = true then decide (code = []) && isFine pan && msgRight (typeK kind, itemsK (kind, pan, amt, stan, rrn, code, ()), ())
     else decide (pan = []) && decide (amt = 0) && msgRight (typeK kind, itemsK (kind, pan, amt, stan, rrn, code, ()), ())) = dealOK (kind, pan, amt, stan, rrn, code, ()) := by
  unfold dealOK msgRight itemsK
  (try simp only [])
  cases hk : asksK kind with
  | true =>
    obtain ⟨k1, k7⟩ := asks_kind hk
    simp only [if_true, known_type, decide_eq_true k1, decide_eq_true k7]
    by_cases hf : isFine pan = true
    · by_cases c : 5 ≤ kind
      · simp only [if_pos c, List.cons_append, List.nil_append, itemsOK, rf2_fine hf, rf4_amt ha, rf11_stan hs]
        by_cases hst : stan ≤ 999999
        · simp only [rf90_origin hs hst, decide_eq_true hst, hf]
          cases rightF 37 rrn <;> by_cases h1 : pan.length < 20 <;> by_cases h2 : amt < 1000000000000 <;> by_cases h3 : code = [] <;> simp [h1, h2, h3]
        · simp [hst]
      · simp only [if_neg c, List.append_nil, itemsOK, rf2_fine hf, rf4_amt ha, rf11_stan hs, hf]
        cases rightF 37 rrn <;> by_cases h0 : stan ≤ 999999 <;> by_cases h1 : pan.length < 20 <;> by_cases h2 : amt < 1000000000000 <;> by_cases h3 : code = [] <;> simp [h0, h1, h2, h3]
    · have hf : isFine pan = false := by simpa using hf
      simp [hf]
  | false =>
    simp only [Bool.false_eq_true, if_false, known_type, itemsOK, rf11_stan hs]
    cases rightF 37 rrn <;> cases rightF 39 code <;> by_cases h0 : stan ≤ 999999 <;> by_cases h1 : pan = [] <;> by_cases h2 : amt = 0 <;> by_cases h3 : 1 ≤ kind <;> by_cases h4 : kind ≤ 7 <;> simp [h0, h1, h2, h3, h4]

theorem itemsK_len (d : Deal) : (itemsK d).length ≤ 5 := by
  unfold itemsK; split
  · split <;> simp
  · simp
theorem itemsK_txt (d : Deal) (L : Nat) (h1 : d.2.1.length ≤ L) (h2 : d.2.2.2.2.1.length ≤ L) (h3 : d.2.2.2.2.2.1.length ≤ L) : ∀ x ∈ itemsK d, x.2.1.length ≤ L + 60 := by
  have a1 : (amtT d.2.2.1).length ≤ 19 := putOK_le _ _
  have a2 : (stanT d.2.2.2.1).length ≤ 19 := putOK_le _ _
  have a3 : (originT d.2.2.2.1).length ≤ 60 := by unfold originT zeros; simp; omega
  intro x hx
  unfold itemsK at hx
  split at hx
  · split at hx
    · simp at hx
      rcases hx with rfl | rfl | rfl | rfl | rfl <;> (try simp only []) <;> omega
    · simp at hx
      rcases hx with rfl | rfl | rfl | rfl <;> (try simp only []) <;> omega
  · simp at hx
    rcases hx with rfl | rfl | rfl <;> (try simp only []) <;> omega

/-- texts of a deal that aren't too long -/
def lens (L : Nat) (d : Deal) : Prop := d.2.1.length ≤ L ∧ d.2.2.2.2.1.length ≤ L ∧ d.2.2.2.2.2.1.length ≤ L
instance (L : Nat) (d : Deal) : Decidable (lens L d) := by unfold lens; infer_instance
def goodD (d : Deal) : Prop := (0 ≤ d.2.2.1 ∧ d.2.2.1 ≤ 18446744073709551615) ∧ 0 ≤ d.2.2.2.1 ∧ d.2.2.2.1 ≤ 4294967295

theorem G33_is (k L : Nat) (hL : L ≤ 1000000) (hk : L + 100 < k) (d : Deal) (hl : lens L d) (hg : goodD d) : G33 k (d, ()) = some (dealOK d, ()) := by
  obtain ⟨kind, pan, amt, stan, rrn, code, ⟨⟩⟩ := d
  obtain ⟨l1, l2, l3⟩ := hl
  obtain ⟨ha, hs⟩ := hg
  (try simp only [] at l1 l2 l3 ha hs)
  rw [← right_eq kind pan amt stan rrn code ha.1 hs.1, G33_eq]
  (try simp only [])
  have hm : G44 k ((typeK kind, itemsK (kind, pan, amt, stan, rrn, code, ()), ()), ()) = some (msgRight (typeK kind, itemsK (kind, pan, amt, stan, rrn, code, ()), ()), ()) := by
    have h5 := itemsK_len (kind, pan, amt, stan, rrn, code, ())
    refine G44_is k (by omega) _ _ (by omega) (by omega) fun x hx => ?_
    have := itemsK_txt (kind, pan, amt, stan, rrn, code, ()) L l1 l2 l3 x hx
    rw [maxLen_eq]; omega
  rw [G42_is, ocall_some, G107_is k pan (by omega) (by omega), ocall_some, G108_is, ocall_some, G109_is k (by omega) kind pan amt stan rrn code ha hs, ocall_some, hm, ocall_some]
  cases asksK kind with
  | true =>
    simp only [sel_true, if_true]
    by_cases c : code = []
    · cases isFine pan <;> simp [c]
    · rw [sel_eq]; simp [c]
  | false =>
    simp only [sel_false, Bool.false_eq_true, if_false]
    by_cases c : pan = []
    · by_cases c2 : amt = 0 <;> simp [c, c2]
    · rw [sel_eq]; simp [c]

theorem G36_is (k L : Nat) (hL : L ≤ 1000000) (hk : L + 100 < k) (d : Deal) (hl : lens L d) (hg : goodD d) : G36 k (d, ()) = some (dealOK d, ()) := by
  obtain ⟨kind, pan, amt, stan, rrn, code, ⟨⟩⟩ := d
  obtain ⟨l1, l2, l3⟩ := hl
  obtain ⟨ha, hs⟩ := hg
  (try simp only [] at l1 l2 l3 ha hs)
  rw [G36_eq]
  unfold dealOK
  simp only [ofNat_len]
  have r37 := G101_is k (by omega) 37 rrn (by rw [maxLen_eq]; omega) (by omega)
  have r39 := G101_is k (by omega) 39 code (by rw [maxLen_eq]; omega) (by omega)
  have rf := G110_is k pan (by omega) (by omega)
  by_cases h1 : kind < 1
  · rw [sel_pos h1, decide_eq_false (show ¬ 1 ≤ kind by omega)]; rfl
  rw [sel_neg h1, decide_eq_true (show 1 ≤ kind by omega)]
  by_cases h2 : 7 < kind
  · rw [sel_pos h2, decide_eq_false (show ¬ kind ≤ 7 by omega)]; rfl
  rw [sel_neg h2, decide_eq_true (show kind ≤ 7 by omega)]
  by_cases h3 : (999999 : Int) < stan
  · rw [sel_pos h3, decide_eq_false (show ¬ stan ≤ 999999 by omega)]; rfl
  rw [sel_neg h3, decide_eq_true (show stan ≤ 999999 by omega), r37, ocall_some]
  generalize rightF 37 rrn = b37
  cases b37 with
  | false => rfl
  | true =>
    simp only [Bool.not_true, sel_false, Bool.and_true, Bool.true_and]
    rw [G43_is, ocall_some]
    generalize asksK kind = bk
    cases bk with
    | true =>
      simp only [sel_true, if_true]
      rw [rf, ocall_some]
      generalize isFine pan = bf
      cases bf with
      | false => rfl
      | true =>
        simp only [sel_true, Bool.true_and]
        by_cases c : pan.length < 20
        · rw [sel_pos (show (pan.length : Int) < 20 by omega), decide_eq_true c]
          by_cases c2 : amt < 1000000000000
          · rw [sel_pos c2, decide_eq_true c2]; rfl
          · rw [sel_neg c2, decide_eq_false c2]; rfl
        · rw [sel_neg (show ¬ (pan.length : Int) < 20 by omega), decide_eq_false c]; rfl
    | false =>
      simp only [sel_false, Bool.false_eq_true, if_false]
      rw [r39, ocall_some]
      generalize rightF 39 code = bf
      cases bf with
      | false => rfl
      | true =>
        simp only [sel_true, Bool.true_and]
        by_cases c : pan = []
        · rw [sel_pos c, decide_eq_true c]; rfl
        · rw [sel_neg c, decide_eq_false c]; rfl
end Go.Proofs.YtjgnpmdbkgeakaaDoor.G
