/- The statement TableHolds, out of what its function answers. No condition. -/
import Derived.Test.YtcgnmecbdleehaaDoorQTableHolds3
import Derived.Test.YtcgnmecbdleehaaDoorRows
import Derived.JoinedOf
import Derived.LaidMore
import Derived.FnData
import Derived.ChangeBears2
import Derived.Stop.Joined
import Derived.Carry
import Derived.Test.YtcgnmecbdleehaaDoorCards
import Derived.Test.YtcgnmecbdleehaaDoorTie
import Derived.SevenTiedAt
section
set_option linter.unusedVariables false
set_option linter.unusedSimpArgs false
set_option maxRecDepth 100000
namespace Go.Proofs.YtcgnmecbdleehaaDoor.G
open Go Go.Proofs.YtcgnmecbdleehaaDoor Th
def KT : List Txt := [[48, 49, 48, 48], [48, 49, 49, 48], [48, 52, 48, 48], [48, 52, 49, 48], [48, 52, 50, 48], [48, 52, 50, 49], [48, 52, 51, 48]]
def knownT (s : Txt) : Bool := KT.contains s
theorem G110_is (k : Nat) (s : Txt) : G110 k (s, ()) = some (knownT s, ()) := by
  rw [G110_eq]
  unfold knownT KT
  simp only [sel_dec, List.contains_cons, List.contains_nil, Bool.or_false]
  by_cases h1 : s = [48, 49, 48, 48]
  · simp [h1]
  by_cases h2 : s = [48, 49, 49, 48]
  · simp [h2]
  by_cases h3 : s = [48, 52, 48, 48]
  · simp [h3]
  by_cases h4 : s = [48, 52, 49, 48]
  · simp [h4]
  by_cases h5 : s = [48, 52, 50, 48]
  · simp [h5]
  by_cases h6 : s = [48, 52, 50, 49]
  · simp [h6]
  by_cases h7 : s = [48, 52, 51, 48] <;> simp [h1, h2, h3, h4, h5, h6, h7]
def itemsOK : Int → List Item → Bool
  | _, [] => true
  | last, x :: l => decide (last < x.1) && rightF x.1 x.2.1 && itemsOK x.1 l
def msgRight (m : Msg) : Bool := itemsOK 0 m.2.1 && knownT m.1 && decide (0 < m.2.1.length)
theorem G84_3_is (k : Nat) (hk : 20 < k) (l l0 : List Item) (typ : Txt) (hl : l.length ≤ 1000000000) (hx : ∀ x ∈ l, x.2.1.length ≤ maxLen ∧ x.2.1.length < k) :
    ∀ (j i : Nat) (last : Int), i + j = l.length → ∀ n, j < n → G84_3 k n (last, l, (l.length : Int), (i : Int), typ, l0, ()) = some (sel (itemsOK last (l.drop i)) (.inl (typ, l0, ())) (.inr (false, ()))) := by
  intro j
  induction j with
  | zero =>
    intro i last hij n hn
    obtain ⟨n, rfl⟩ : ∃ m, n = m + 1 := ⟨n - 1, by omega⟩
    rw [G84_3_eq, sel_neg (by (try simp only []); omega), List.drop_eq_nil_of_le (by omega)]
    rfl
  | succ j ih =>
    intro i last hij n hn
    obtain ⟨n, rfl⟩ : ∃ m, n = m + 1 := ⟨n - 1, by omega⟩
    have hlt : i < l.length := by omega
    rw [G84_3_eq]
    simp only [ofNat_len, Int.toNat_natCast, getD_of hlt]
    rw [sel_pos (by omega), sel_pos (by omega), sel_pos (by omega), drop_at hlt]
    simp only [itemsOK]
    obtain ⟨h1, h2⟩ := hx l[i] (List.getElem_mem _)
    by_cases c : l[i].1 ≤ last
    · rw [sel_pos c, decide_eq_false (by omega)]; rfl
    · rw [sel_neg c, G40_is k hk _ _ h1 h2, ocall_some, decide_eq_true (by omega)]
      cases hr : rightF l[i].1 l[i].2.1 with
      | false => rfl
      | true =>
        simp only [Bool.not_true, sel_false, Bool.true_and]
        rw [wrap64 (by omega) (by omega)]
        exact ih (i + 1) l[i].1 (by omega) n (by omega)
theorem G84_is (k : Nat) (hk : 20 < k) (typ : Txt) (l : List Item) (hl : l.length ≤ 1000000000) (hlk : l.length < k) (hx : ∀ x ∈ l, x.2.1.length ≤ maxLen ∧ x.2.1.length < k) :
    G84 k ((typ, l, ()), ()) = some (msgRight (typ, l, ()), ()) := by
  rw [G84_eq]
  have := G84_3_is k hk l l typ hl hx l.length 0 0 (by omega) k hlk
  simp only [ofNat_len, List.drop_zero, Int.natCast_zero] at this ⊢
  rw [this, ocall_some]
  unfold msgRight
  (try simp only [])
  cases itemsOK 0 l with
  | false => rfl
  | true =>
    simp only [sel_true, esel_inl, G110_is, ocall_some, Bool.true_and]
    cases knownT typ with
    | false => rfl
    | true =>
      simp only [sel_true, Bool.true_and]
      have : decide ((0 : Int) < (l.length : Int)) = decide (0 < l.length) := decide_eq_decide.2 (by omega)
      rw [this]
end Go.Proofs.YtcgnmecbdleehaaDoor.G
end
section
set_option linter.unusedVariables false
set_option linter.unusedSimpArgs false
namespace Go.Proofs.YtcgnmecbdleehaaDoor.G
open Go Go.Proofs.YtcgnmecbdleehaaDoor Th
def gd (tw : Bool) (d : Nat) : Nat := if tw = true then 2 * d - d / 5 * 9 else d
def fs (tw : Bool) : List UInt8 → Nat
  | [] => 0
  | c :: t => gd (tw != decide (t.length % 2 = 1)) (c.toNat - 48) + fs tw t
theorem gd_le {tw : Bool} {d : Nat} (h : d ≤ 9) : gd tw d ≤ 9 := by
  unfold gd; split <;> omega
theorem fs_le (tw : Bool) : ∀ (s : List UInt8), s.all dgt = true → fs tw s ≤ 9 * s.length
  | [], _ => by simp [fs]
  | c :: t, h => by
    simp only [List.all_cons, Bool.and_eq_true, dgt_iff] at h
    have := fs_le tw t h.2
    have := gd_le (tw := tw != decide (t.length % 2 = 1)) (d := c.toNat - 48) (by omega)
    simp only [fs, List.length_cons]; omega
theorem par_flip (tw : Bool) (n : Nat) : (tw != decide ((n + 1) % 2 = 1)) = ((!tw) != decide (n % 2 = 1)) := by
  rcases Nat.mod_two_eq_zero_or_one n with h | h
  · have : (n + 1) % 2 = 1 := by omega
    cases tw <;> simp [h, this]
  · have : (n + 1) % 2 = 0 := by omega
    cases tw <;> simp [h, this]
theorem sum_fold (l : List (Int × Int)) (tw : Bool) : Sum.sumOf l tw = (l.map (·.2)).foldl Sum.step (0, tw) := by
  unfold Sum.sumOf
  rw [List.foldl_map]
theorem backs_snd (l : List Int) : (Sum.backs l).map (·.2) = l.reverse := by
  unfold Sum.backs
  rw [List.map_reverse, List.map_map]
  congr 1
  apply List.ext_getElem
  · simp
  · intro i h1 h2
    simp at h1 h2
    simp [h2]
theorem toBytes_cons (c : UInt8) (t : List UInt8) : toBytes (c :: t) = (c.toNat : Int) :: toBytes t := rfl
theorem rwrap {n : Int} (h1 : -9223372036854775808 ≤ n) (h2 : n ≤ 9223372036854775807) : RowKit.wrap64 n = n := by
  unfold RowKit.wrap64; omega
theorem sum_is (tw : Bool) : ∀ (s : List UInt8), s.all dgt = true → s.length ≤ 1000000000 → (toBytes s).reverse.foldl Sum.step (0, tw) = ((fs tw s : Int), tw != decide (s.length % 2 = 1))
  | [], _, _ => by simp [toBytes, fs]
  | c :: t, h, hl => by
    have h' := h
    simp only [List.all_cons, Bool.and_eq_true, dgt_iff] at h
    simp only [List.length_cons] at hl
    have hle := fs_le tw t h.2
    rw [toBytes_cons, List.reverse_cons, List.foldl_append, sum_is tw t h.2 (by omega)]
    simp only [List.foldl_cons, List.foldl_nil, Sum.step, fs, List.length_cons]
    have e1 : ((c.toNat : Int) - 48) % 256 = ((c.toNat - 48 : Nat) : Int) := by omega
    have hg := gd_le (tw := tw != decide (t.length % 2 = 1)) (d := c.toNat - 48) (by omega)
    rw [e1]
    refine Prod.ext ?_ ?_
    · (try simp only [])
      have e2 : (bif (tw != decide (t.length % 2 = 1)) then ((c.toNat - 48 : Nat) : Int) * 2 - ((c.toNat - 48 : Nat) : Int) / 5 * 9 else ((c.toNat - 48 : Nat) : Int)) = ((gd (tw != decide (t.length % 2 = 1)) (c.toNat - 48) : Nat) : Int) := by
        unfold gd
        cases (tw != decide (t.length % 2 = 1))
        · simp
        · simp only [cond_true, if_true]; omega
      rw [e2, rwrap (by omega) (by omega)]
      omega
    · (try simp only [])
      rw [par_flip]
      cases tw <;> simp
theorem G73_is (k : Nat) (s : List UInt8) (tw : Bool) (h : s.all dgt = true) (hl : s.length ≤ 1000000000) : G73 k (s, tw, ()) = some ((fs tw s : Int), ()) := by
  rw [G73_eq, sel_pos (by (try simp only []); omega), sum_fold, backs_snd, sum_is tw s h hl]
def isFine (s : List UInt8) : Bool := isDig s && decide (fs false s % 10 = 0)
theorem all_of_isDig {s : List UInt8} (h : isDig s = true) : s.all dgt = true := by simp [isDig] at h; simpa using h.2
theorem tmod10 (n : Nat) : ((n : Int)).tmod 10 = ((n % 10 : Nat) : Int) := by simp [Int.tmod_eq_emod_of_nonneg]
theorem G39_is (k : Nat) (s : List UInt8) (hl : s.length ≤ 1000000000) (hk : s.length < k) : G39 k (s, ()) = some (isFine s, ()) := by
  rw [G39_eq, G72_is k s (by rw [maxLen_eq]; omega) hk, ocall_some]
  unfold isFine
  cases hd : isDig s with
  | false => rfl
  | true =>
    simp only [sel_true]
    rw [G73_is k s false (all_of_isDig hd) hl, ocall_some, tmod10]
    simp only [Bool.true_and]
    have : decide (((fs false s % 10 : Nat) : Int) = 0) = decide (fs false s % 10 = 0) := decide_eq_decide.2 (by omega)
    rw [this]
end Go.Proofs.YtcgnmecbdleehaaDoor.G
end
section
set_option linter.unusedVariables false
set_option linter.unusedSimpArgs false
set_option maxRecDepth 100000
namespace Go.Proofs.YtcgnmecbdleehaaDoor.G
open Go Go.Proofs.YtcgnmecbdleehaaDoor Th
abbrev Deal := Int × Txt × Int × Int × Txt × Txt × Unit
abbrev Key := Int × Txt × Unit
def TY : List Txt := [[], [48, 49, 48, 48], [48, 49, 49, 48], [48, 52, 48, 48], [48, 52, 49, 48], [48, 52, 50, 48], [48, 52, 50, 49], [48, 52, 51, 48]]
def typeK (kind : Int) : Txt := if kind < 0 ∨ 8 ≤ kind then [] else TY.getD kind.toNat []
theorem G82_is (k : Nat) (kind : Int) : G82 k (kind, ()) = some (typeK kind, ()) := by
  rw [G82_eq]
  unfold typeK
  by_cases c1 : kind < 0
  · rw [sel_pos c1, if_pos (.inl c1)]
  by_cases c2 : 8 ≤ kind
  · rw [sel_neg c1, sel_pos c2, if_pos (.inr c2)]
  rw [sel_neg c1, sel_neg c2, sel_pos (by omega), sel_pos (show (kind, ()).fst < Int.ofNat 8 by simp only [Int.ofNat_eq_natCast]; omega), if_neg (by omega)]
  rfl
def asksK (kind : Int) : Bool := decide (kind = 1 ∨ kind = 3 ∨ kind = 5 ∨ kind = 6)
theorem G105_is (k : Nat) (kind : Int) : G105 k (kind, ()) = some (asksK kind, ()) := by
  rw [G105_eq]
  unfold asksK
  simp only [sel_dec]
  by_cases h1 : kind = 1
  · simp [h1]
  by_cases h3 : kind = 3
  · simp [h3]
  by_cases h5 : kind = 5
  · simp [h5]
  by_cases h6 : kind = 6 <;> simp [h1, h3, h5, h6]
def zeros : Txt := List.replicate 32 48
def stanT (stan : Int) : Txt := (putOK stan.toNat 6).1
def amtT (amt : Int) : Txt := (putOK amt.toNat 12).1
def originT (stan : Int) : Txt := [48, 49, 48, 48] ++ stanT stan ++ zeros
def itemsK (d : Deal) : List Item :=
  if asksK d.1 = true then [(2, d.2.1, ()), (4, amtT d.2.2.1, ()), (11, stanT d.2.2.2.1, ()), (37, d.2.2.2.2.1, ())] ++ (if 5 ≤ d.1 then [(90, originT d.2.2.2.1, ())] else [])
  else [(11, stanT d.2.2.2.1, ()), (37, d.2.2.2.2.1, ()), (39, d.2.2.2.2.2.1, ())]
theorem putOK_le (v : Nat) (n : Int) : (putOK v n).1.length ≤ 19 := by
  unfold putOK
  split
  · simp
  · split
    · simp only [digs_len]; omega
    · simp
theorem put_is (k : Nat) (hk : 20 < k) (v n : Int) (h0 : 0 ≤ v) (h1 : v ≤ 18446744073709551615) : G77 k (v, n, ()) = some ((putOK v.toNat n).1, (putOK v.toNat n).2, ()) := by
  have := G77_is k hk v.toNat n (by omega)
  rwa [show ((v.toNat : Nat) : Int) = v by omega] at this
theorem G83_is (k : Nat) (hk : 20 < k) (kind : Int) (pan : Txt) (amt stan : Int) (rrn code : Txt) (ha : 0 ≤ amt ∧ amt ≤ 18446744073709551615) (hs : 0 ≤ stan ∧ stan ≤ 4294967295) :
    G83 k ((kind, pan, amt, stan, rrn, code, ()), ()) = some (itemsK (kind, pan, amt, stan, rrn, code, ()), ()) := by
  rw [G83_eq]
  (try simp only [])
  rw [wrapu64 (by omega) (by omega), put_is k hk stan 6 (by omega) (by omega), ocall_some, G105_is, ocall_some]
  unfold itemsK
  (try simp only [])
  cases asksK kind with
  | false => rfl
  | true =>
    simp only [Bool.not_true, sel_false, if_true]
    rw [put_is k hk amt 12 (by omega) (by omega), ocall_some, G82_is, ocall_some]
    have hl := putOK_le stan.toNat 6
    have ht : typeK 1 = [48, 49, 48, 48] := rfl
    rw [ht]
    by_cases c : 5 ≤ kind
    · rw [sel_pos c, sel_pos (by simp only [List.length_cons, List.length_nil]; omega), sel_pos (by simp only [List.length_append, List.length_cons, List.length_nil]; omega), if_pos c]
      rfl
    · rw [sel_neg c, if_neg c]
      rfl
def dealOK (d : Deal) : Bool := decide (1 ≤ d.1) && decide (d.1 ≤ 7) && decide (d.2.2.2.1 ≤ 999999) && rightF 37 d.2.2.2.2.1 &&
  (if asksK d.1 = true then isFine d.2.1 && decide (d.2.1.length < 20) && decide (d.2.2.1 < 1000000000000) && decide (d.2.2.2.2.2.1 = []) else rightF 39 d.2.2.2.2.2.1 && decide (d.2.1 = []) && decide (d.2.2.1 = 0))
theorem rf11 (s : Txt) : rightF 11 s = (decide (s.length = 6) && isDig s) := by
  have : defOf 11 = some (11, 1, 6, ()) := rfl
  unfold rightF; rw [this]
  simp [sized, ahead, signs, Signs.signsOf]
  by_cases h : s.length = 6 <;> simp [h]; omega
theorem rf4 (s : Txt) : rightF 4 s = (decide (s.length = 12) && isDig s) := by
  have : defOf 4 = some (4, 1, 12, ()) := rfl
  unfold rightF; rw [this]
  simp [sized, ahead, signs, Signs.signsOf]
  by_cases h : s.length = 12 <;> simp [h]; omega
theorem rf90 (s : Txt) : rightF 90 s = (decide (s.length = 42) && isDig s) := by
  have : defOf 90 = some (90, 1, 42, ()) := rfl
  unfold rightF; rw [this]
  simp [sized, ahead, signs, Signs.signsOf]
  by_cases h : s.length = 42 <;> simp [h]; omega
theorem rf2 (s : Txt) : rightF 2 s = (decide (1 ≤ s.length) && decide (s.length ≤ 19) && isDig s) := by
  have : defOf 2 = some (2, 3, 19, ()) := rfl
  unfold rightF; rw [this]
  simp [sized, ahead, signs, Signs.signsOf]
  have : decide ((s.length : Int) ≤ 19) = decide (s.length ≤ 19) := decide_eq_decide.2 (by omega)
  rw [this]
theorem stanT_of {stan : Int} (h0 : 0 ≤ stan) (h : stan ≤ 999999) : stanT stan = digs stan.toNat 6 := by
  unfold stanT putOK
  rw [if_neg (by omega), if_pos (show stan.toNat / 10 ^ (6 : Int).toNat = 0 from Nat.div_eq_of_lt (by show stan.toNat < 10 ^ 6; omega))]
  rfl
theorem stanT_no {stan : Int} (h : ¬ stan ≤ 999999) : stanT stan = [] := by
  unfold stanT putOK
  rw [if_neg (by omega), if_neg]
  show ¬ stan.toNat / 10 ^ 6 = 0
  intro e
  have := (Nat.div_eq_zero_iff).1 e
  omega
theorem amtT_of {amt : Int} (h0 : 0 ≤ amt) (h : amt < 1000000000000) : amtT amt = digs amt.toNat 12 := by
  unfold amtT putOK
  rw [if_neg (by omega), if_pos (show amt.toNat / 10 ^ (12 : Int).toNat = 0 from Nat.div_eq_of_lt (by show amt.toNat < 10 ^ 12; omega))]
  rfl
theorem amtT_no {amt : Int} (h : ¬ amt < 1000000000000) : amtT amt = [] := by
  unfold amtT putOK
  rw [if_neg (by omega), if_neg]
  show ¬ amt.toNat / 10 ^ 12 = 0
  intro e
  have := (Nat.div_eq_zero_iff).1 e
  omega
theorem digs_all : ∀ (n v : Nat), (digs v n).all dgt = true := by
  intro n
  induction n with
  | zero => intro v; rfl
  | succ n ih =>
    intro v
    simp only [digs, List.all_append, ih, List.all_cons, List.all_nil, Bool.and_true, Bool.true_and]
    rw [dgt_iff, chr_toNat (by omega)]
    omega
theorem isDig_of {n v : Nat} (h : 0 < n) : isDig (digs v n) = true := by
  unfold isDig
  rw [digs_all, digs_len, decide_eq_true h]; rfl
theorem rf11_stan {stan : Int} (h0 : 0 ≤ stan) : rightF 11 (stanT stan) = decide (stan ≤ 999999) := by
  by_cases h : stan ≤ 999999
  · rw [rf11, stanT_of h0 h, digs_len, isDig_of (by omega), decide_eq_true h]; rfl
  · rw [rf11, stanT_no h, decide_eq_false h]; rfl
theorem rf4_amt {amt : Int} (h0 : 0 ≤ amt) : rightF 4 (amtT amt) = decide (amt < 1000000000000) := by
  by_cases h : amt < 1000000000000
  · rw [rf4, amtT_of h0 h, digs_len, isDig_of (by omega), decide_eq_true h]; rfl
  · rw [rf4, amtT_no h, decide_eq_false h]; rfl
theorem rf90_origin {stan : Int} (h0 : 0 ≤ stan) (h : stan ≤ 999999) : rightF 90 (originT stan) = true := by
  rw [rf90]
  unfold originT zeros
  rw [stanT_of h0 h]
  have hl : ([48, 49, 48, 48] ++ digs stan.toNat 6 ++ List.replicate 32 (48 : UInt8)).length = 42 := by simp [digs_len]
  have ha : ([48, 49, 48, 48] ++ digs stan.toNat 6 ++ List.replicate 32 (48 : UInt8)).all dgt = true := by
    rw [List.all_append, List.all_append, digs_all]; rfl
  unfold isDig
  rw [hl, ha]; rfl
theorem rf2_fine {pan : Txt} (h : isFine pan = true) : rightF 2 pan = decide (pan.length < 20) := by
  have hd : isDig pan = true := by unfold isFine at h; simp at h; exact h.1
  have hp : 0 < pan.length := by unfold isDig at hd; simp at hd; exact hd.1
  rw [rf2, hd, decide_eq_true (show 1 ≤ pan.length by omega)]
  have : decide (pan.length ≤ 19) = decide (pan.length < 20) := decide_eq_decide.2 (by omega)
  rw [this]; simp
theorem known_type (kind : Int) : knownT (typeK kind) = (decide (1 ≤ kind) && decide (kind ≤ 7)) := by
  by_cases h : kind < 0 ∨ 8 ≤ kind
  · have : typeK kind = [] := by unfold typeK; rw [if_pos h]
    rw [this]
    rcases h with h | h
    · rw [decide_eq_false (show ¬ 1 ≤ kind by omega)]; rfl
    · rw [decide_eq_false (show ¬ kind ≤ 7 by omega), Bool.and_false]; rfl
  · have : kind = 0 ∨ kind = 1 ∨ kind = 2 ∨ kind = 3 ∨ kind = 4 ∨ kind = 5 ∨ kind = 6 ∨ kind = 7 := by omega
    rcases this with rfl | rfl | rfl | rfl | rfl | rfl | rfl | rfl <;> rfl
theorem asks_kind {kind : Int} (h : asksK kind = true) : 1 ≤ kind ∧ kind ≤ 7 := by
  simp [asksK] at h; omega
theorem right_eq (kind : Int) (pan : Txt) (amt stan : Int) (rrn code : Txt) (ha : 0 ≤ amt) (hs : 0 ≤ stan) :
    (if asksK kind = true then decide (code = []) && isFine pan && msgRight (typeK kind, itemsK (kind, pan, amt, stan, rrn, code, ()), ())
     else decide (pan = []) && decide (amt = 0) && msgRight (typeK kind, itemsK (kind, pan, amt, stan, rrn, code, ()), ())) = dealOK (kind, pan, amt, stan, rrn, code, ()) := by
  unfold dealOK msgRight itemsK
  (try simp only [])
  cases hk : asksK kind with
  | true =>
    obtain ⟨k1, k7⟩ := asks_kind hk
    simp only [if_true, known_type, decide_eq_true k1, decide_eq_true k7]
    by_cases hf : isFine pan = true
    · by_cases c : 5 ≤ kind
      · simp only [if_pos c, List.cons_append, List.nil_append, itemsOK, rf2_fine hf, rf4_amt ha, rf11_stan hs]
        by_cases hst : stan ≤ 999999
        · simp only [rf90_origin hs hst, decide_eq_true hst, hf]
          cases rightF 37 rrn <;> by_cases h1 : pan.length < 20 <;> by_cases h2 : amt < 1000000000000 <;> by_cases h3 : code = [] <;> simp [h1, h2, h3]
        · simp [hst]
      · simp only [if_neg c, List.append_nil, itemsOK, rf2_fine hf, rf4_amt ha, rf11_stan hs, hf]
        cases rightF 37 rrn <;> by_cases h0 : stan ≤ 999999 <;> by_cases h1 : pan.length < 20 <;> by_cases h2 : amt < 1000000000000 <;> by_cases h3 : code = [] <;> simp [h0, h1, h2, h3]
    · have hf : isFine pan = false := by simpa using hf
      simp [hf]
  | false =>
    simp only [Bool.false_eq_true, if_false, known_type, itemsOK, rf11_stan hs]
    cases rightF 37 rrn <;> cases rightF 39 code <;> by_cases h0 : stan ≤ 999999 <;> by_cases h1 : pan = [] <;> by_cases h2 : amt = 0 <;> by_cases h3 : 1 ≤ kind <;> by_cases h4 : kind ≤ 7 <;> simp [h0, h1, h2, h3, h4]
theorem itemsK_len (d : Deal) : (itemsK d).length ≤ 5 := by
  unfold itemsK; split
  · split <;> simp
  · simp
theorem itemsK_txt (d : Deal) (L : Nat) (h1 : d.2.1.length ≤ L) (h2 : d.2.2.2.2.1.length ≤ L) (h3 : d.2.2.2.2.2.1.length ≤ L) : ∀ x ∈ itemsK d, x.2.1.length ≤ L + 60 := by
  have a1 : (amtT d.2.2.1).length ≤ 19 := putOK_le _ _
  have a2 : (stanT d.2.2.2.1).length ≤ 19 := putOK_le _ _
  have a3 : (originT d.2.2.2.1).length ≤ 60 := by unfold originT zeros; simp; omega
  intro x hx
  unfold itemsK at hx
  split at hx
  · split at hx
    · simp at hx
      rcases hx with rfl | rfl | rfl | rfl | rfl <;> (try simp only []) <;> omega
    · simp at hx
      rcases hx with rfl | rfl | rfl | rfl <;> (try simp only []) <;> omega
  · simp at hx
    rcases hx with rfl | rfl | rfl <;> (try simp only []) <;> omega
def lens (L : Nat) (d : Deal) : Prop := d.2.1.length ≤ L ∧ d.2.2.2.2.1.length ≤ L ∧ d.2.2.2.2.2.1.length ≤ L
instance (L : Nat) (d : Deal) : Decidable (lens L d) := by unfold lens; infer_instance
def goodD (d : Deal) : Prop := (0 ≤ d.2.2.1 ∧ d.2.2.1 ≤ 18446744073709551615) ∧ 0 ≤ d.2.2.2.1 ∧ d.2.2.2.1 ≤ 4294967295
theorem G71_is (k L : Nat) (hL : L ≤ 1000000) (hk : L + 100 < k) (d : Deal) (hl : lens L d) (hg : goodD d) : G71 k (d, ()) = some (dealOK d, ()) := by
  obtain ⟨kind, pan, amt, stan, rrn, code, ⟨⟩⟩ := d
  obtain ⟨l1, l2, l3⟩ := hl
  obtain ⟨ha, hs⟩ := hg
  (try simp only [] at l1 l2 l3 ha hs)
  rw [← right_eq kind pan amt stan rrn code ha.1 hs.1, G71_eq]
  (try simp only [])
  have hm : G84 k ((typeK kind, itemsK (kind, pan, amt, stan, rrn, code, ()), ()), ()) = some (msgRight (typeK kind, itemsK (kind, pan, amt, stan, rrn, code, ()), ()), ()) := by
    have h5 := itemsK_len (kind, pan, amt, stan, rrn, code, ())
    refine G84_is k (by omega) _ _ (by omega) (by omega) fun x hx => ?_
    have := itemsK_txt (kind, pan, amt, stan, rrn, code, ()) L l1 l2 l3 x hx
    rw [maxLen_eq]; omega
  rw [G105_is, ocall_some, G39_is k pan (by omega) (by omega), ocall_some, G82_is, ocall_some, G83_is k (by omega) kind pan amt stan rrn code ha hs, ocall_some, hm, ocall_some]
  cases asksK kind with
  | true =>
    simp only [sel_true, if_true]
    by_cases c : code = []
    · cases isFine pan <;> simp [c]
    · rw [sel_eq]; simp [c]
  | false =>
    simp only [sel_false, Bool.false_eq_true, if_false]
    by_cases c : pan = []
    · by_cases c2 : amt = 0 <;> simp [c, c2]
    · rw [sel_eq]; simp [c]
end Go.Proofs.YtcgnmecbdleehaaDoor.G
end
section
set_option linter.unusedVariables false
set_option linter.unusedSimpArgs false
namespace Go.Proofs.YtcgnmecbdleehaaDoor.G
open Go Go.Proofs.YtcgnmecbdleehaaDoor Th
end Go.Proofs.YtcgnmecbdleehaaDoor.G
end
section
set_option linter.unusedVariables false
set_option linter.unusedSimpArgs false
set_option maxRecDepth 100000
namespace Go.Proofs.YtcgnmecbdleehaaDoor.G
open Go Go.Proofs.YtcgnmecbdleehaaDoor Th
def upd (q : Txt × Int × Int × Txt × Txt × Unit) (x : Item) : Txt × Int × Int × Txt × Txt × Unit :=
  if x.1 = 2 then (x.2.1, q.2) else if x.1 = 4 then (q.1, (((getOK x.2.1).1 : Nat) : Int), q.2.2) else if x.1 = 11 then (q.1, q.2.1, IntKind.u32.wrap (((getOK x.2.1).1 : Nat) : Int), q.2.2.2)
  else if x.1 = 37 then (q.1, q.2.1, q.2.2.1, x.2.1, q.2.2.2.2) else if x.1 = 39 then (q.1, q.2.1, q.2.2.1, q.2.2.2.1, x.2.1, ()) else q
set_option synthInstance.maxSize 2000 in
set_option synthInstance.maxHeartbeats 200000 in
instance decD : DecidableEq Deal := fun a b => inferInstanceAs (Decidable ((a : Int × Txt × Int × Int × Txt × Txt × Unit) = b))
end Go.Proofs.YtcgnmecbdleehaaDoor.G
end
section
set_option maxRecDepth 1000000
set_option linter.unusedVariables false
set_option linter.unusedSimpArgs false
namespace Go.Proofs.YtcgnmecbdleehaaDoor.G
open Go Go.Proofs.YtcgnmecbdleehaaDoor Th
noncomputable def G35_3 (k : Nat) (j : Nat) (v : Int × List (List ((Int × List UInt8 × Unit) × Int × List UInt8 × Int × List UInt8 × Int × Int × Unit)) × Int × Int × Unit) : Option (Int × Unit) := F35_3 k j v
theorem G35_3_eq (k : Nat) (j : Nat) (v0 : Int) (v1 : List (List ((Int × List UInt8 × Unit) × Int × List UInt8 × Int × List UInt8 × Int × Int × Unit))) (v2 v3 : Int) : G35_3 k (j + 1) (v0, v1, v2, v3, ()) = sel (decide (v3 < v2)) (sel (decide (0 ≤ v3)) (sel (decide (v3 < Int.ofNat
 v1.length)) (G35_3 k j (IntKind.i64.wrap (v0 + Int.ofNat (List.length (v1.getD v3.toNat []))), v1, v2, IntKind.i64.wrap (v3 + 1), ())) none) none) (some (v0, ())) := by kernel_rfl
noncomputable def G35 (k : Nat) (v : (Int × List (List ((Int × List UInt8 × Unit) × Int × List UInt8 × Int × List UInt8 × Int × Int × Unit)) × Unit) × Unit) : Option (Int × Unit) := F35 k v
theorem G35_eq (k : Nat) (v0 : Int) (v1 : List (List ((Int × List UInt8 × Unit) × Int × List UInt8 × Int × List UInt8 × Int × Int × Unit))) : G35 k ((v0, v1, ()), ()) = ocall (G35_3 k k (0, v1, Int.ofNat v1.length, 0, ())) fun e => some (e.1, ()) := by kernel_rfl
noncomputable def G38 (k : Nat) (v : (Int × List UInt8 × Unit) × Unit) : Option (Bool × Unit) := F38 k v
theorem G38_eq (k : Nat) (v0 : Int) (v1 : List UInt8) : G38 k ((v0, v1, ()), ()) = ocall (G71 k ((7, [], 0, v0, v1, [48, 48], ()), ())) fun r => some (r.1, ()) := by kernel_rfl
noncomputable def G41 (k : Nat) (v : ((Int × List UInt8 × Unit) × Int × List UInt8 × Int × List UInt8 × Int × Int × Unit) × Unit) : Option (Bool × Unit) := F41 k v
theorem G41_eq (k : Nat) (v0 : Int) (v1 : List UInt8) (v2 : Int) (v3 : List UInt8) (v4 : Int) (v5 : List UInt8) (v6 v7 : Int) : G41 k (((v0, v1, ()), v2, v3, v4, v5, v6, v7, ()), ()) = sel (decide (v2 < 4)) (sel (!decide (v6 = 0)) (some (false, ())) (sel (!decide (v7
 = 0)) (some (false, ())) (sel (decide (v2 = 1)) (some (decide (v5 = []), ())) (sel (decide (v2 = 2)) (some (decide (v5 = [48, 48]), ())) (sel (decide (v2 = 3)) (sel (!decide (v5 = [48, 48])) (ocall (G40 k (39, v5, ())) fun r => some (r.1, ())) (some (false,
 ()))) (sel (decide (v2 = 4)) (sel (decide (v2 = 4)) (ocall (G40 k (39, v5, ())) fun r => sel r.1 (sel (decide (0 ≤ v6)) (sel (decide (v6 ≤ 16)) (sel (decide (v7 = 1)) (some (true, ())) (some (decide (v7 = 2), ()))) (some (false, ()))) (some (false,
 ()))) (some (false, ()))) (some (false, ()))) (sel (decide (v2 = 5)) (sel (decide (v2 = 5)) (ocall (G40 k (39, v5, ())) fun r => sel r.1 (sel (decide (0 ≤ v6)) (sel (decide (v6 ≤ 16)) (sel (decide (v7 = 1)) (some (true, ())) (some (decide (v7 = 2),
 ()))) (some (false, ()))) (some (false, ()))) (some (false, ()))) (some (false, ()))) (sel (decide (v2 = 6)) (ocall (G40 k (39, v5, ())) fun r => sel r.1 (sel (decide (0 ≤ v6)) (sel (decide (v6 ≤ 16)) (sel (decide (v7 = 1)) (some (true, ()))
 (some (decide (v7 = 2), ()))) (some (false, ()))) (some (false, ()))) (some (false, ()))) (some (false, ())))))))))) (sel (decide (v2 = 1)) (some (decide (v5 = []), ())) (sel (decide (v2 = 2)) (some (decide (v5 = [48, 48]), ())) (sel (decide
 (v2 = 3)) (sel (!decide (v5 = [48, 48])) (ocall (G40 k (39, v5, ())) fun r => some (r.1, ())) (some (false, ()))) (sel (decide (v2 = 4)) (sel (decide (v2 = 4)) (ocall (G40 k (39, v5, ())) fun r => sel r.1 (sel (decide (0 ≤ v6)) (sel (decide (v6 ≤ 16)) (sel (decide (v7
 = 1)) (some (true, ())) (some (decide (v7 = 2), ()))) (some (false, ()))) (some (false, ()))) (some (false, ()))) (some (false, ()))) (sel (decide (v2 = 5)) (sel (decide (v2 = 5)) (ocall (G40 k (39, v5, ())) fun r => sel r.1 (sel (decide (0 ≤
 v6)) (sel (decide (v6 ≤ 16)) (sel (decide (v7 = 1)) (some (true, ())) (some (decide (v7 = 2), ()))) (some (false, ()))) (some (false, ()))) (some (false, ()))) (some (false, ()))) (sel (decide (v2 = 6)) (ocall (G40 k (39, v5, ())) fun r => sel
 r.1 (sel (decide (0 ≤ v6)) (sel (decide (v6 ≤ 16)) (sel (decide (v7 = 1)) (some (true, ())) (some (decide (v7 = 2), ()))) (some (false, ()))) (some (false, ()))) (some (false, ()))) (some (false, ())))))))) := by kernel_rfl
noncomputable def G12 (k : Nat) (v : ((Int × List UInt8 × Unit) × Int × List UInt8 × Int × List UInt8 × Int × Int × Unit) × Unit) : Option (Bool × Unit) := F12 k v
theorem G12_eq (k : Nat) (v0 : Int) (v1 : List UInt8) (v2 : Int) (v3 : List UInt8) (v4 : Int) (v5 : List UInt8) (v6 v7 : Int) : G12 k (((v0, v1, ()), v2, v3, v4, v5, v6, v7, ()), ()) = ocall (G38 k ((v0, v1, ()), ())) fun r => sel r.1 (ocall (G39 k (v3,
 ())) fun r => sel r.1 (ocall (G40 k (2, v3, ())) fun r => sel r.1 (sel (decide (v4 < 1000000000000)) (ocall (G41 k (((v0, v1, ()), v2, v3, v4, v5, v6, v7, ()), ())) fun r => some (r.1, ())) (some (false, ()))) (some (false, ()))) (some
 (false, ()))) (some (false, ())) := by kernel_rfl
noncomputable def G44_g0 (k : Nat) (j : Nat) (v : List ((Int × List UInt8 × Unit) × Int × List UInt8 × Int × List UInt8 × Int × Int × Unit) × Int × Unit) : Option (Bool × Unit) := F44_g0 k j v
theorem G44_g0_eq (k : Nat) (j : Nat) (v0 : List ((Int × List UInt8 × Unit) × Int × List UInt8 × Int × List UInt8 × Int × Int × Unit)) (v1 : Int) : G44_g0 k (j + 1) (v0, v1, ()) = sel (decide (v1 = Int.ofNat v0.length)) (some (decide (v1 ≤ 128), ())) (sel (decide (0 ≤ v1)) (sel
 (decide (v1 < Int.ofNat v0.length)) (ocall (G12 k ((((v0.getD v1.toNat ((0, [], ()), 0, [], 0, [], 0, 0, ())).1.1, (v0.getD v1.toNat ((0, [], ()), 0, [], 0, [], 0, 0, ())).1.2.1, ()), (v0.getD v1.toNat ((0, [], ()), 0, [], 0, [], 0, 0,
 ())).2.1, (v0.getD v1.toNat ((0, [], ()), 0, [], 0, [], 0, 0, ())).2.2.1, (v0.getD v1.toNat ((0, [], ()), 0, [], 0, [], 0, 0, ())).2.2.2.1, (v0.getD v1.toNat ((0, [], ()), 0, [], 0, [], 0, 0, ())).2.2.2.2.1, (v0.getD v1.toNat ((0, [],
 ()), 0, [], 0, [], 0, 0, ())).2.2.2.2.2.1, (v0.getD v1.toNat ((0, [], ()), 0, [], 0, [], 0, 0, ())).2.2.2.2.2.2.1, ()), ())) fun r => sel (!r.1) (some (false, ())) (sel (decide (0 < v1)) (sel (decide (0 ≤ IntKind.i64.wrap (v1 - 1))) (sel
 (decide (IntKind.i64.wrap (v1 - 1) < Int.ofNat v0.length)) (sel (decide (0 ≤ v1)) (sel (decide (v1 < Int.ofNat v0.length)) (ocall (G32 k (((v0.getD (IntKind.i64.wrap (v1 - 1)).toNat ((0, [], ()), 0, [], 0, [], 0, 0, ())).1.1, (v0.getD (IntKind.i64.wrap (v1 - 1)).toNat ((0, [],
 ()), 0, [], 0, [], 0, 0, ())).1.2.1, ()), ((v0.getD v1.toNat ((0, [], ()), 0, [], 0, [], 0, 0, ())).1.1, (v0.getD v1.toNat ((0, [], ()), 0, [], 0, [], 0, 0, ())).1.2.1, ()), ())) fun r => sel (decide (0 ≤ r.1)) (some (false,
 ())) (G44_g0 k j (v0, IntKind.i64.wrap (v1 + 1), ()))) none) none) none) none) (G44_g0 k j (v0, IntKind.i64.wrap (v1 + 1), ())))) none) none) := by kernel_rfl
noncomputable def G44 (k : Nat) (v : List ((Int × List UInt8 × Unit) × Int × List UInt8 × Int × List UInt8 × Int × Int × Unit) × Unit) : Option (Bool × Unit) := F44 k v
theorem G44_eq (k : Nat) (v0 : List ((Int × List UInt8 × Unit) × Int × List UInt8 × Int × List UInt8 × Int × Int × Unit)) : G44 k (v0, ()) = sel (decide (0 = Int.ofNat v0.length)) (some (true, ())) (sel (decide (0 < Int.ofNat v0.length)) (ocall (G12 k ((((v0.getD (Int.toNat 0) ((0,
 [], ()), 0, [], 0, [], 0, 0, ())).1.1, (v0.getD (Int.toNat 0) ((0, [], ()), 0, [], 0, [], 0, 0, ())).1.2.1, ()), (v0.getD (Int.toNat 0) ((0, [], ()), 0, [], 0, [], 0, 0, ())).2.1, (v0.getD (Int.toNat 0) ((0, [], ()), 0, [], 0, [], 0, 0,
 ())).2.2.1, (v0.getD (Int.toNat 0) ((0, [], ()), 0, [], 0, [], 0, 0, ())).2.2.2.1, (v0.getD (Int.toNat 0) ((0, [], ()), 0, [], 0, [], 0, 0, ())).2.2.2.2.1, (v0.getD (Int.toNat 0) ((0, [], ()), 0, [], 0, [], 0, 0, ())).2.2.2.2.2.1, (v0.getD
 (Int.toNat 0) ((0, [], ()), 0, [], 0, [], 0, 0, ())).2.2.2.2.2.2.1, ()), ())) fun r => sel (!r.1) (some (false, ())) (ocall (G44_g0 k k (v0, IntKind.i64.wrap (0 + 1), ())) fun e => some (e.1, ()))) none) := by kernel_rfl
noncomputable def G43_6 (k : Nat) (j : Nat) (v : Int × Int × List Int × Int × Int × Unit) : Option (Int × Int × Unit) := F43_6 k j v
theorem G43_6_eq (k : Nat) (j : Nat) (v0 v1 : Int) (v2 : List Int) (v3 v4 : Int) : G43_6 k (j + 1) (v0, v1, v2, v3, v4, ()) = sel (decide (v4 < v3)) (sel (decide (0 ≤ v4)) (sel (decide (v4 < Int.ofNat v2.length)) (sel (decide (v4.toNat < v2.length)) (G43_6 k j (v0, IntKind.u32.wrap (bits
 BinOp.xor IntKind.u32 v1 (IntKind.u32.wrap (v2.getD v4.toNat 0)) * 16777619), v2, v3, IntKind.i64.wrap (v4 + 1), ())) none) none) none) (some (v0, v1, ())) := by kernel_rfl
noncomputable def G43 (k : Nat) (v : (Int × List UInt8 × Unit) × Int × Unit) : Option (Int × Unit) := F43 k v
theorem G43_eq (k : Nat) (v0 : Int) (v1 : List UInt8) (v2 : Int) : G43 k ((v0, v1, ()), v2, ()) = ocall (G38 k ((v0, v1, ()), ())) fun r => sel (!r.1) (some ((-1 : Int), ())) (sel (decide (v2 < 1)) (some ((-1 : Int), ())) (sel (decide (16 < v2)) (some
 ((-1 : Int), ())) (ocall (G77 k (IntKind.u64.wrap v0, 6, ())) fun r => sel (decide (r.1.length + v1.length ≤ 140737488355328)) (ocall (G43_6 k k (v2, 2166136261, toBytes (r.1 ++ v1), Int.ofNat (toBytes (r.1 ++ v1)).length, 0, ())) fun e => sel (!decide (IntKind.u32.wrap e.1 =
 0)) (some (IntKind.i64.wrap (e.2.1.tmod (IntKind.u32.wrap e.1)), ())) none) none))) := by kernel_rfl
noncomputable def G42 (k : Nat) (v : ((Int × List UInt8 × Unit) × Int × List UInt8 × Int × List UInt8 × Int × Int × Unit) × (Int × List (List ((Int × List UInt8 × Unit) × Int × List UInt8 × Int × List UInt8 × Int × Int × Unit)) × Unit) × (Int × Unit) × Unit) : Option (Bool × Unit) := F42 k
 v
theorem G42_eq (k : Nat) (v0 : Int) (v1 : List UInt8) (v2 : Int) (v3 : List UInt8) (v4 : Int) (v5 : List UInt8) (v6 v7 v8 : Int) (v9 : List (List ((Int × List UInt8 × Unit) × Int × List UInt8 × Int × List UInt8 × Int × Int × Unit))) (v10 : Int) : G42 k (((v0, v1, ()), v2, v3, v4, v5, v6,
 v7, ()), (v8, v9, ()), (v10, ()), ()) = ocall (G43 k ((v0, v1, ()), Int.ofNat v9.length, ())) fun r => some (!decide (r.1 = v10), ()) := by kernel_rfl
noncomputable def G7000008_2 (k : Nat) (j : Nat) (v : List ((Int × List UInt8 × Unit) × Int × List UInt8 × Int × List UInt8 × Int × Int × Unit) × ((Int × List (List ((Int × List UInt8 × Unit) × Int × List UInt8 × Int × List UInt8 × Int × Int × Unit)) × Unit) × (Int × Unit) × Unit) × Int × Int
 × Unit) : Option (Unit ⊕ Int × Unit) := F7000008_2 k j v
theorem G7000008_2_eq (k : Nat) (j : Nat) (v0 : List ((Int × List UInt8 × Unit) × Int × List UInt8 × Int × List UInt8 × Int × Int × Unit)) (v1 : Int) (v2 : List (List ((Int × List UInt8 × Unit) × Int × List UInt8 × Int × List UInt8 × Int × Int × Unit))) (v3 v4 v5 : Int) : G7000008_2 k (j + 1)
 (v0, ((v1, v2, ()), (v3, ()), ()), v4, v5, ()) = sel (decide (v5 < v4)) (sel (decide (0 ≤ v5)) (sel (decide (v5 < Int.ofNat v0.length)) (ocall (G42 k ((((v0.getD v5.toNat ((0, [], ()), 0, [], 0, [], 0, 0, ())).1.1, (v0.getD v5.toNat ((0, [],
 ()), 0, [], 0, [], 0, 0, ())).1.2.1, ()), (v0.getD v5.toNat ((0, [], ()), 0, [], 0, [], 0, 0, ())).2.1, (v0.getD v5.toNat ((0, [], ()), 0, [], 0, [], 0, 0, ())).2.2.1, (v0.getD v5.toNat ((0, [], ()), 0, [], 0, [], 0, 0,
 ())).2.2.2.1, (v0.getD v5.toNat ((0, [], ()), 0, [], 0, [], 0, 0, ())).2.2.2.2.1, (v0.getD v5.toNat ((0, [], ()), 0, [], 0, [], 0, 0, ())).2.2.2.2.2.1, (v0.getD v5.toNat ((0, [], ()), 0, [], 0, [], 0, 0, ())).2.2.2.2.2.2.1, ()), (v1,
 v2, ()), (v3, ()), ())) fun r => sel r.1 (some (Sum.inr (v5, ()))) (G7000008_2 k j (v0, ((v1, v2, ()), (v3, ()), ()), v4, IntKind.i64.wrap (v5 + 1), ()))) none) none) (some (Sum.inl ())) := by kernel_rfl
noncomputable def G7000008 (k : Nat) (v : List ((Int × List UInt8 × Unit) × Int × List UInt8 × Int × List UInt8 × Int × Int × Unit) × ((Int × List (List ((Int × List UInt8 × Unit) × Int × List UInt8 × Int × List UInt8 × Int × Int × Unit)) × Unit) × (Int × Unit) × Unit) × Unit) : Option (Int
 × Unit) := F7000008 k v
theorem G7000008_eq (k : Nat) (v0 : List ((Int × List UInt8 × Unit) × Int × List UInt8 × Int × List UInt8 × Int × Int × Unit)) (v1 : Int) (v2 : List (List ((Int × List UInt8 × Unit) × Int × List UInt8 × Int × List UInt8 × Int × Int × Unit))) (v3 : Int) : G7000008 k (v0, ((v1, v2, ()),
 (v3, ()), ()), ()) = ocall (G7000008_2 k k (v0, ((v1, v2, ()), (v3, ()), ()), Int.ofNat v0.length, 0, ())) fun e => esel e (fun v => some ((-1 : Int), ())) fun e => some (e.1, ()) := by kernel_rfl
noncomputable def G7000009 (k : Nat) (v : List ((Int × List UInt8 × Unit) × Int × List UInt8 × Int × List UInt8 × Int × Int × Unit) × ((Int × List (List ((Int × List UInt8 × Unit) × Int × List UInt8 × Int × List UInt8 × Int × Int × Unit)) × Unit) × (Int × Unit) × Unit) × Unit) : Option (Bool
 × Unit) := F7000009 k v
theorem G7000009_eq (k : Nat) (v0 : List ((Int × List UInt8 × Unit) × Int × List UInt8 × Int × List UInt8 × Int × Int × Unit)) (v1 : Int) (v2 : List (List ((Int × List UInt8 × Unit) × Int × List UInt8 × Int × List UInt8 × Int × Int × Unit))) (v3 : Int) : G7000009 k (v0, ((v1, v2, ()),
 (v3, ()), ()), ()) = ocall (G7000008 k (v0, ((v1, v2, ()), (v3, ()), ()), ())) fun r => some (decide (0 ≤ r.1), ()) := by kernel_rfl
noncomputable def G13_4 (k : Nat) (j : Nat) (v : (Int × List (List ((Int × List UInt8 × Unit) × Int × List UInt8 × Int × List UInt8 × Int × Int × Unit)) × Unit) × List (List ((Int × List UInt8 × Unit) × Int × List UInt8 × Int × List UInt8 × Int × Int × Unit)) × Int × Int × Unit) : Option
 (Unit ⊕ Bool × Unit) := F13_4 k j v
theorem G13_4_eq (k : Nat) (j : Nat) (v0 : Int) (v1 v2 : List (List ((Int × List UInt8 × Unit) × Int × List UInt8 × Int × List UInt8 × Int × Int × Unit))) (v3 v4 : Int) : G13_4 k (j + 1) ((v0, v1, ()), v2, v3, v4, ()) = sel (decide (v4 < v3)) (sel (decide (0 ≤ v4)) (sel (decide (v4
 < Int.ofNat v2.length)) (ocall (G44 k (v2.getD v4.toNat [], ())) fun r => sel (!r.1) (some (Sum.inr (false, ()))) (ocall (G7000009 k (v2.getD v4.toNat [], ((v0, v1, ()), (v4, ()), ()), ())) fun r => sel r.1 (some (Sum.inr (false, ()))) (G13_4 k
 j ((v0, v1, ()), v2, v3, IntKind.i64.wrap (v4 + 1), ())))) none) none) (some (Sum.inl ())) := by kernel_rfl
noncomputable def G13 (k : Nat) (v : (Int × List (List ((Int × List UInt8 × Unit) × Int × List UInt8 × Int × List UInt8 × Int × Int × Unit)) × Unit) × Unit) : Option (Bool × Unit) := F13 k v
theorem G13_eq (k : Nat) (v0 : Int) (v1 : List (List ((Int × List UInt8 × Unit) × Int × List UInt8 × Int × List UInt8 × Int × Int × Unit))) : G13 k ((v0, v1, ()), ()) = sel (decide (v0 < 0)) (some (false, ())) (sel (decide (128 < v0)) (some (false, ())) (sel (decide
 (Int.ofNat v1.length < 1)) (some (false, ())) (sel (decide (16 < Int.ofNat v1.length)) (some (false, ())) (ocall (G35 k ((v0, v1, ()), ())) fun r => sel (decide (v0 < r.1)) (some (false, ())) (ocall (G13_4 k k ((v0, v1, ()), v1, Int.ofNat v1.length, 0,
 ())) fun e => esel e (fun v => some (true, ())) fun e => some (e.1, ())))))) := by kernel_rfl
noncomputable def G8 (k : Nat) (v : Int × Int × Unit) : Option ((Int × List (List ((Int × List UInt8 × Unit) × Int × List UInt8 × Int × List UInt8 × Int × Int × Unit)) × Unit) × Int × Unit) := F8 k v
theorem G8_eq (k : Nat) (v0 v1 : Int) : G8 k (v0, v1, ()) = sel (decide (v1 < 1)) (some ((0, [], ()), 1, ())) (sel (decide (16 < v1)) (some ((0, [], ()), 1, ())) (sel (decide (0 ≤ v1)) (sel (decide (v1 ≤ v1)) (sel (decide (v1 ≤ 140737488355328)) (sel (decide
 (v1 * Int.ofNat 24 ≤ 140737488355328)) (ocall (G13 k ((v0, List.replicate v1.toNat [], ()), ())) fun r => sel r.1 (some ((v0, List.replicate v1.toNat [], ()), 0, ())) (some ((0, [], ()), 1, ()))) none) none) none) none)) := by kernel_rfl
noncomputable def G33 (k : Nat) (v : (Int × List (List ((Int × List UInt8 × Unit) × Int × List UInt8 × Int × List UInt8 × Int × Int × Unit)) × Unit) × (Int × List UInt8 × Unit) × Unit) : Option (List ((Int × List UInt8 × Unit) × Int × List UInt8 × Int × List UInt8 × Int × Int × Unit) × Int ×
 Unit) := F33 k v
theorem G33_eq (k : Nat) (v0 : Int) (v1 : List (List ((Int × List UInt8 × Unit) × Int × List UInt8 × Int × List UInt8 × Int × Int × Unit))) (v2 : Int) (v3 : List UInt8) : G33 k ((v0, v1, ()), (v2, v3, ()), ()) = ocall (G43 k ((v2, v3, ()), Int.ofNat v1.length,
 ())) fun r => sel (decide (r.1 < 0)) (some ([], r.1, ())) (sel (decide (0 ≤ r.1)) (sel (decide (r.1 < Int.ofNat v1.length)) (some (v1.getD r.1.toNat [], r.1, ())) none) none) := by kernel_rfl
noncomputable def G34_2 (k : Nat) (j : Nat) (v : List ((Int × List UInt8 × Unit) × Int × List UInt8 × Int × List UInt8 × Int × Int × Unit) × Int × Int × Int × List UInt8 × Int × List UInt8 × Int × List UInt8 × Int × List UInt8 × Int × Int × Unit) : Option (Int × List UInt8 × Int × List UInt8 ×
 Int × List UInt8 × Int × Int × Unit ⊕ Bool × Int × List UInt8 × Int × List UInt8 × Int × List UInt8 × Int × Int × Unit) := F34_2 k j v
theorem G34_2_eq (k : Nat) (j : Nat) (v0 : List ((Int × List UInt8 × Unit) × Int × List UInt8 × Int × List UInt8 × Int × Int × Unit)) (v1 v2 v3 : Int) (v4 : List UInt8) (v5 : Int) (v6 : List UInt8) (v7 : Int) (v8 : List UInt8) (v9 : Int) (v10 : List UInt8) (v11 v12 : Int) : G34_2 k (j + 1) (v0,
 v1, v2, v3, v4, v5, v6, v7, v8, v9, v10, v11, v12, ()) = sel (decide (v2 < v1)) (sel (decide (0 ≤ v2)) (sel (decide (v2 < Int.ofNat v0.length)) (sel (sameI (v0.getD v2.toNat ((0, [], ()), 0, [], 0, [], 0, 0, ())).1.1 v3 && (sameS (v0.getD v2.toNat ((0, [], ()), 0, [],
 0, [], 0, 0, ())).1.2.1 v4 && true)) (some (Sum.inr (true, (v0.getD v2.toNat ((0, [], ()), 0, [], 0, [], 0, 0, ())).1.1, (v0.getD v2.toNat ((0, [], ()), 0, [], 0, [], 0, 0, ())).1.2.1, (v0.getD v2.toNat ((0, [], ()), 0, [], 0, [], 0, 0,
 ())).2.1, (v0.getD v2.toNat ((0, [], ()), 0, [], 0, [], 0, 0, ())).2.2.1, (v0.getD v2.toNat ((0, [], ()), 0, [], 0, [], 0, 0, ())).2.2.2.1, (v0.getD v2.toNat ((0, [], ()), 0, [], 0, [], 0, 0, ())).2.2.2.2.1, (v0.getD v2.toNat ((0, [],
 ()), 0, [], 0, [], 0, 0, ())).2.2.2.2.2.1, (v0.getD v2.toNat ((0, [], ()), 0, [], 0, [], 0, 0, ())).2.2.2.2.2.2.1, ()))) (G34_2 k j (v0, v1, IntKind.i64.wrap (v2 + 1), v3, v4, v5, v6, v7, v8, v9, v10, v11, v12, ()))) none) none) (some (Sum.inl (v5, v6,
 v7, v8, v9, v10, v11, v12, ()))) := by kernel_rfl
noncomputable def G34 (k : Nat) (v : List ((Int × List UInt8 × Unit) × Int × List UInt8 × Int × List UInt8 × Int × Int × Unit) × (Int × List UInt8 × Unit) × Unit) : Option (((Int × List UInt8 × Unit) × Int × List UInt8 × Int × List UInt8 × Int × Int × Unit) × Bool × Unit) := F34 k v
theorem G34_eq (k : Nat) (v0 : List ((Int × List UInt8 × Unit) × Int × List UInt8 × Int × List UInt8 × Int × Int × Unit)) (v1 : Int) (v2 : List UInt8) : G34 k (v0, (v1, v2, ()), ()) = ocall (G34_2 k k (v0, Int.ofNat v0.length, 0, v1, v2, 0, [], 0, [], 0, [], 0, 0, ())) fun
 e => esel e (fun v => some (((0, [], ()), 0, [], 0, [], 0, 0, ()), false, ())) fun e => some (((e.2.1, e.2.2.1, ()), e.2.2.2.1, e.2.2.2.2.1, e.2.2.2.2.2.1, e.2.2.2.2.2.2.1, e.2.2.2.2.2.2.2.1, e.2.2.2.2.2.2.2.2.1, ()), e.1, ()) := by kernel_rfl
noncomputable def G102 (k : Nat) (v : ((Int × List UInt8 × Unit) × Int × List UInt8 × Int × List UInt8 × Int × Int × Unit) × (Int × List UInt8 × Unit) × Unit) : Option (Int × Unit) := F102 k v
theorem G102_eq (k : Nat) (v0 : Int) (v1 : List UInt8) (v2 : Int) (v3 : List UInt8) (v4 : Int) (v5 : List UInt8) (v6 v7 v8 : Int) (v9 : List UInt8) : G102 k (((v0, v1, ()), v2, v3, v4, v5, v6, v7, ()), (v8, v9, ()), ()) = ocall (G32 k ((v0, v1, ()), (v8, v9,
 ()), ())) fun r => some (r.1, ()) := by kernel_rfl
noncomputable def G7000010_3 (k : Nat) (j : Nat) (v : List ((Int × List UInt8 × Unit) × Int × List UInt8 × Int × List UInt8 × Int × Int × Unit) × Unit × Int × Int × Int × Int × List UInt8 × Unit) : Option (List ((Int × List UInt8 × Unit) × Int × List UInt8 × Int × List UInt8 × Int × Int ×
 Unit) × Unit × Int × Int × Int × List UInt8 × Unit) := F7000010_3 k j v
theorem G7000010_3_eq (k : Nat) (j : Nat) (v0 : List ((Int × List UInt8 × Unit) × Int × List UInt8 × Int × List UInt8 × Int × Int × Unit)) (v1 v2 v3 v4 : Int) (v5 : List UInt8) : G7000010_3 k (j + 1) (v0, (), v1, v2, v3, v4, v5, ()) = sel (decide (v2 < v3)) (sel (decide (0 ≤
 IntKind.i64.wrap ((IntKind.u64.wrap (IntKind.i64.wrap (v2 + v3))).fdiv (2 ^ min (Int.toNat 1) 64)))) (sel (decide (IntKind.i64.wrap ((IntKind.u64.wrap (IntKind.i64.wrap (v2 + v3))).fdiv (2 ^ min (Int.toNat 1) 64)) < Int.ofNat v0.length)) (ocall (G102 k ((((v0.getD (IntKind.i64.wrap
 ((IntKind.u64.wrap (IntKind.i64.wrap (v2 + v3))).fdiv (2 ^ min (Int.toNat 1) 64))).toNat ((0, [], ()), 0, [], 0, [], 0, 0, ())).1.1, (v0.getD (IntKind.i64.wrap ((IntKind.u64.wrap (IntKind.i64.wrap (v2 + v3))).fdiv (2 ^ min (Int.toNat 1) 64))).toNat ((0, [], ()), 0, [], 0, [],
 0, 0, ())).1.2.1, ()), (v0.getD (IntKind.i64.wrap ((IntKind.u64.wrap (IntKind.i64.wrap (v2 + v3))).fdiv (2 ^ min (Int.toNat 1) 64))).toNat ((0, [], ()), 0, [], 0, [], 0, 0, ())).2.1, (v0.getD (IntKind.i64.wrap ((IntKind.u64.wrap (IntKind.i64.wrap (v2 + v3))).fdiv (2 ^
 min (Int.toNat 1) 64))).toNat ((0, [], ()), 0, [], 0, [], 0, 0, ())).2.2.1, (v0.getD (IntKind.i64.wrap ((IntKind.u64.wrap (IntKind.i64.wrap (v2 + v3))).fdiv (2 ^ min (Int.toNat 1) 64))).toNat ((0, [], ()), 0, [], 0, [], 0, 0, ())).2.2.2.1, (v0.getD (IntKind.i64.wrap
 ((IntKind.u64.wrap (IntKind.i64.wrap (v2 + v3))).fdiv (2 ^ min (Int.toNat 1) 64))).toNat ((0, [], ()), 0, [], 0, [], 0, 0, ())).2.2.2.2.1, (v0.getD (IntKind.i64.wrap ((IntKind.u64.wrap (IntKind.i64.wrap (v2 + v3))).fdiv (2 ^ min (Int.toNat 1) 64))).toNat ((0, [], ()), 0, [],
 0, [], 0, 0, ())).2.2.2.2.2.1, (v0.getD (IntKind.i64.wrap ((IntKind.u64.wrap (IntKind.i64.wrap (v2 + v3))).fdiv (2 ^ min (Int.toNat 1) 64))).toNat ((0, [], ()), 0, [], 0, [], 0, 0, ())).2.2.2.2.2.2.1, ()), (v4, v5, ()), ())) fun r => sel (decide (r.1 <
 0)) (G7000010_3 k j (v0, (), v1, IntKind.i64.wrap (IntKind.i64.wrap ((IntKind.u64.wrap (IntKind.i64.wrap (v2 + v3))).fdiv (2 ^ min (Int.toNat 1) 64)) + 1), v3, v4, v5, ())) (G7000010_3 k j (v0, (), v1, v2, IntKind.i64.wrap ((IntKind.u64.wrap (IntKind.i64.wrap (v2 + v3))).fdiv
 (2 ^ min (Int.toNat 1) 64)), v4, v5, ()))) none) none) (some (v0, (), v1, v2, v4, v5, ())) := by kernel_rfl
noncomputable def G7000010 (k : Nat) (v : List ((Int × List UInt8 × Unit) × Int × List UInt8 × Int × List UInt8 × Int × Int × Unit) × (Int × List UInt8 × Unit) × Unit × Unit) : Option (Int × Bool × Unit) := F7000010 k v
theorem G7000010_eq (k : Nat) (v0 : List ((Int × List UInt8 × Unit) × Int × List UInt8 × Int × List UInt8 × Int × Int × Unit)) (v1 : Int) (v2 : List UInt8) : G7000010 k (v0, (v1, v2, ()), (), ()) = ocall (G7000010_3 k k (v0, (), Int.ofNat v0.length, 0, Int.ofNat
 v0.length, v1, v2, ())) fun e => sel (decide (e.2.2.2.1 < e.2.2.1)) (sel (decide (0 ≤ e.2.2.2.1)) (sel (decide (e.2.2.2.1 < Int.ofNat e.1.length)) (ocall (G102 k ((((e.1.getD e.2.2.2.1.toNat ((0, [], ()), 0, [], 0, [], 0, 0, ())).1.1, (e.1.getD e.2.2.2.1.toNat ((0, [],
 ()), 0, [], 0, [], 0, 0, ())).1.2.1, ()), (e.1.getD e.2.2.2.1.toNat ((0, [], ()), 0, [], 0, [], 0, 0, ())).2.1, (e.1.getD e.2.2.2.1.toNat ((0, [], ()), 0, [], 0, [], 0, 0, ())).2.2.1, (e.1.getD e.2.2.2.1.toNat ((0, [], ()), 0, [], 0,
 [], 0, 0, ())).2.2.2.1, (e.1.getD e.2.2.2.1.toNat ((0, [], ()), 0, [], 0, [], 0, 0, ())).2.2.2.2.1, (e.1.getD e.2.2.2.1.toNat ((0, [], ()), 0, [], 0, [], 0, 0, ())).2.2.2.2.2.1, (e.1.getD e.2.2.2.1.toNat ((0, [], ()), 0, [], 0, [], 0, 0,
 ())).2.2.2.2.2.2.1, ()), (e.2.2.2.2.1, e.2.2.2.2.2.1, ()), ())) fun r => some (e.2.2.2.1, decide (r.1 = 0), ())) none) none) (some (e.2.2.2.1, false, ())) := by kernel_rfl
noncomputable def G67 (k : Nat) (v : List ((Int × List UInt8 × Unit) × Int × List UInt8 × Int × List UInt8 × Int × Int × Unit) × (Int × List UInt8 × Unit) × Unit) : Option (Int × Bool × Unit) := F67 k v
theorem G67_eq (k : Nat) (v0 : List ((Int × List UInt8 × Unit) × Int × List UInt8 × Int × List UInt8 × Int × Int × Unit)) (v1 : Int) (v2 : List UInt8) : G67 k (v0, (v1, v2, ()), ()) = ocall (G7000010 k (v0, (v1, v2, ()), (), ())) fun r => some (r.1, r.2.1,
 ()) := by kernel_rfl
noncomputable def G69 (k : Nat) (v : List ((Int × List UInt8 × Unit) × Int × List UInt8 × Int × List UInt8 × Int × Int × Unit)) : Option (List ((Int × List UInt8 × Unit) × Int × List UInt8 × Int × List UInt8 × Int × Int × Unit) × Unit) := F69 k v
theorem G69_eq (k : Nat) (v0 : List ((Int × List UInt8 × Unit) × Int × List UInt8 × Int × List UInt8 × Int × Int × Unit)) : G69 k v0 = sel (decide ((0 + v0.length) * 88 ≤ 140737488355328)) (some (v0, ())) none := by kernel_rfl
noncomputable def G68 (k : Nat) (v : List ((Int × List UInt8 × Unit) × Int × List UInt8 × Int × List UInt8 × Int × Int × Unit) × Int × List ((Int × List UInt8 × Unit) × Int × List UInt8 × Int × List UInt8 × Int × Int × Unit) × Unit) : Option (List ((Int × List UInt8 × Unit) × Int × List UInt8
 × Int × List UInt8 × Int × Int × Unit) × Unit) := F68 k v
theorem G68_eq (k : Nat) (v0 : List ((Int × List UInt8 × Unit) × Int × List UInt8 × Int × List UInt8 × Int × Int × Unit)) (v1 : Int) (v2 : List ((Int × List UInt8 × Unit) × Int × List UInt8 × Int × List UInt8 × Int × Int × Unit)) : G68 k (v0, v1, v2, ()) = sel (decide (0 ≤ v1)) (sel
 (decide (v1 ≤ Int.ofNat v0.length)) (sel (decide (v0.length ≤ 1000000)) (sel (decide (v2.length = 1)) (some (List.take v1.toNat v0 ++ v2 ++ List.drop v1.toNat v0, ())) none) none) none) none := by kernel_rfl
noncomputable def G36 (k : Nat) (v : List ((Int × List UInt8 × Unit) × Int × List UInt8 × Int × List UInt8 × Int × Int × Unit) × ((Int × List UInt8 × Unit) × Int × List UInt8 × Int × List UInt8 × Int × Int × Unit) × Unit) : Option (List ((Int × List UInt8 × Unit) × Int × List UInt8 × Int ×
 List UInt8 × Int × Int × Unit) × Int × Unit) := F36 k v
theorem G36_eq (k : Nat) (v0 : List ((Int × List UInt8 × Unit) × Int × List UInt8 × Int × List UInt8 × Int × Int × Unit)) (v1 : Int) (v2 : List UInt8) (v3 : Int) (v4 : List UInt8) (v5 : Int) (v6 : List UInt8) (v7 v8 : Int) : G36 k (v0, ((v1, v2, ()), v3, v4, v5, v6, v7, v8, ()),
 ()) = ocall (G44 k (v0, ())) fun r => sel (!r.1) (some (v0, 1, ())) (ocall (G12 k (((v1, v2, ()), v3, v4, v5, v6, v7, v8, ()), ())) fun r => sel (!r.1) (some (v0, 1, ())) (ocall (G67 k (v0, (v1, v2, ()), ())) fun r => sel r.2.1
 (some (v0, 6, ())) (sel (decide (Int.ofNat v0.length = 128)) (some (v0, 7, ())) (ocall (G69 k v0) fun r_1 => ocall (G68 k (r_1.1, r.1, [((v1, v2, ()), v3, v4, v5, v6, v7, v8, ())], ())) fun r => some (r.1, 0, ()))))) := by kernel_rfl
noncomputable def G70 (k : Nat) (v : List (List ((Int × List UInt8 × Unit) × Int × List UInt8 × Int × List UInt8 × Int × Int × Unit))) : Option (List (List ((Int × List UInt8 × Unit) × Int × List UInt8 × Int × List UInt8 × Int × Int × Unit)) × Unit) := F70 k v
theorem G70_eq (k : Nat) (v0 : List (List ((Int × List UInt8 × Unit) × Int × List UInt8 × Int × List UInt8 × Int × Int × Unit))) : G70 k v0 = sel (decide ((0 + v0.length) * 24 ≤ 140737488355328)) (some (v0, ())) none := by kernel_rfl
noncomputable def G37 (k : Nat) (v : (Int × List (List ((Int × List UInt8 × Unit) × Int × List UInt8 × Int × List UInt8 × Int × Int × Unit)) × Unit) × Int × List ((Int × List UInt8 × Unit) × Int × List UInt8 × Int × List UInt8 × Int × Int × Unit) × Unit) : Option ((Int × List (List ((Int ×
 List UInt8 × Unit) × Int × List UInt8 × Int × List UInt8 × Int × Int × Unit)) × Unit) × Unit) := F37 k v
theorem G37_eq (k : Nat) (v0 : Int) (v1 : List (List ((Int × List UInt8 × Unit) × Int × List UInt8 × Int × List UInt8 × Int × Int × Unit))) (v2 : Int) (v3 : List ((Int × List UInt8 × Unit) × Int × List UInt8 × Int × List UInt8 × Int × Int × Unit)) : G37 k ((v0, v1, ()), v2, v3,
 ()) = ocall (G70 k v1) fun r => sel (decide (0 ≤ v2)) (sel (decide (v2 < Int.ofNat r.1.length)) (sel (decide (v2.toNat < r.1.length)) (some ((v0, r.1.set v2.toNat v3, ()), ())) none) none) none := by kernel_rfl
noncomputable def G11 (k : Nat) (v : (Int × List (List ((Int × List UInt8 × Unit) × Int × List UInt8 × Int × List UInt8 × Int × Int × Unit)) × Unit) × ((Int × List UInt8 × Unit) × Int × List UInt8 × Int × List UInt8 × Int × Int × Unit) × Unit) : Option ((Int × List (List ((Int × List UInt8 ×
 Unit) × Int × List UInt8 × Int × List UInt8 × Int × Int × Unit)) × Unit) × Int × Unit) := F11 k v
theorem G11_eq (k : Nat) (v0 : Int) (v1 : List (List ((Int × List UInt8 × Unit) × Int × List UInt8 × Int × List UInt8 × Int × Int × Unit))) (v2 : Int) (v3 : List UInt8) (v4 : Int) (v5 : List UInt8) (v6 : Int) (v7 : List UInt8) (v8 v9 : Int) : G11 k ((v0, v1, ()), ((v2, v3, ()), v4,
 v5, v6, v7, v8, v9, ()), ()) = ocall (G13 k ((v0, v1, ()), ())) fun r => sel (!r.1) (some ((v0, v1, ()), 1, ())) (ocall (G12 k (((v2, v3, ()), v4, v5, v6, v7, v8, v9, ()), ())) fun r => sel (!r.1) (some ((v0, v1, ()), 1,
 ())) (ocall (G33 k ((v0, v1, ()), (v2, v3, ()), ())) fun r => ocall (G34 k (r.1, (v2, v3, ()), ())) fun r_1 => sel r_1.2.1 (some ((v0, v1, ()), 6, ())) (ocall (G35 k ((v0, v1, ()), ())) fun r_2 => sel (decide (r_2.1 =
 v0)) (some ((v0, v1, ()), 7, ())) (ocall (G36 k (r.1, ((v2, v3, ()), v4, v5, v6, v7, v8, v9, ()), ())) fun r_3 => sel (!decide (r_3.2.1 = 0)) (some ((v0, v1, ()), r_3.2.1, ())) (ocall (G37 k ((v0, v1, ()), r.2.1, r_3.1, ())) fun
 r => some ((r.1.1, r.1.2.1, ()), 0, ())))))) := by kernel_rfl
noncomputable def G79 (k : Nat) (v : List ((Int × List UInt8 × Unit) × Int × List UInt8 × Int × List UInt8 × Int × Int × Unit) × Int × Int × Unit) : Option (List ((Int × List UInt8 × Unit) × Int × List UInt8 × Int × List UInt8 × Int × Int × Unit) × Unit) := F79 k v
theorem G79_eq (k : Nat) (v0 : List ((Int × List UInt8 × Unit) × Int × List UInt8 × Int × List UInt8 × Int × Int × Unit)) (v1 v2 : Int) : G79 k (v0, v1, v2, ()) = sel (decide (0 ≤ v1)) (sel (decide (v1 ≤ v2)) (sel (decide (v2 ≤ Int.ofNat v0.length)) (some (List.take v1.toNat v0 ++
 List.drop v2.toNat v0, ())) none) none) none := by kernel_rfl
noncomputable def G47 (k : Nat) (v : List ((Int × List UInt8 × Unit) × Int × List UInt8 × Int × List UInt8 × Int × Int × Unit) × (Int × List UInt8 × Unit) × Unit) : Option (List ((Int × List UInt8 × Unit) × Int × List UInt8 × Int × List UInt8 × Int × Int × Unit) × Int × Unit) := F47 k v
theorem G47_eq (k : Nat) (v0 : List ((Int × List UInt8 × Unit) × Int × List UInt8 × Int × List UInt8 × Int × Int × Unit)) (v1 : Int) (v2 : List UInt8) : G47 k (v0, (v1, v2, ()), ()) = ocall (G44 k (v0, ())) fun r => sel (!r.1) (some (v0, 1, ())) (ocall (G67 k (v0,
 (v1, v2, ()), ())) fun r => sel (!r.2.1) (some (v0, 5, ())) (ocall (G69 k v0) fun r_1 => ocall (G79 k (r_1.1, r.1, IntKind.i64.wrap (r.1 + 1), ())) fun r => some (r.1, 0, ()))) := by kernel_rfl
noncomputable def G20 (k : Nat) (v : (Int × List (List ((Int × List UInt8 × Unit) × Int × List UInt8 × Int × List UInt8 × Int × Int × Unit)) × Unit) × (Int × List UInt8 × Unit) × Unit) : Option ((Int × List (List ((Int × List UInt8 × Unit) × Int × List UInt8 × Int × List UInt8 × Int × Int ×
 Unit)) × Unit) × Int × Unit) := F20 k v
theorem G20_eq (k : Nat) (v0 : Int) (v1 : List (List ((Int × List UInt8 × Unit) × Int × List UInt8 × Int × List UInt8 × Int × Int × Unit))) (v2 : Int) (v3 : List UInt8) : G20 k ((v0, v1, ()), (v2, v3, ()), ()) = ocall (G13 k ((v0, v1, ()), ())) fun r => sel
 (!r.1) (some ((v0, v1, ()), 1, ())) (ocall (G33 k ((v0, v1, ()), (v2, v3, ()), ())) fun r => ocall (G34 k (r.1, (v2, v3, ()), ())) fun r_1 => sel (!r_1.2.1) (some ((v0, v1, ()), 5, ())) (sel (decide (r_1.1.2.1 = 1)) (sel (decide
 (r_1.1.2.1 = 1)) (some ((v0, v1, ()), 8, ())) (ocall (G47 k (r.1, (v2, v3, ()), ())) fun r_2 => ocall (G37 k ((v0, v1, ()), r.2.1, r_2.1, ())) fun r => some ((r.1.1, r.1.2.1, ()), 0, ()))) (sel (decide (r_1.1.2.1 = 4)) (some ((v0, v1,
 ()), 8, ())) (ocall (G47 k (r.1, (v2, v3, ()), ())) fun r_2 => ocall (G37 k ((v0, v1, ()), r.2.1, r_2.1, ())) fun r => some ((r.1.1, r.1.2.1, ()), 0, ()))))) := by kernel_rfl
noncomputable def G46 (k : Nat) (v : List ((Int × List UInt8 × Unit) × Int × List UInt8 × Int × List UInt8 × Int × Int × Unit) × Int × ((Int × List UInt8 × Unit) × Int × List UInt8 × Int × List UInt8 × Int × Int × Unit) × Unit) : Option (List ((Int × List UInt8 × Unit) × Int × List UInt8 × Int
 × List UInt8 × Int × Int × Unit) × Int × Unit) := F46 k v
theorem G46_eq (k : Nat) (v0 : List ((Int × List UInt8 × Unit) × Int × List UInt8 × Int × List UInt8 × Int × Int × Unit)) (v1 v2 : Int) (v3 : List UInt8) (v4 : Int) (v5 : List UInt8) (v6 : Int) (v7 : List UInt8) (v8 v9 : Int) : G46 k (v0, v1, ((v2, v3, ()), v4, v5, v6, v7, v8, v9,
 ()), ()) = ocall (G44 k (v0, ())) fun r => sel (!r.1) (some (v0, 1, ())) (ocall (G12 k (((v2, v3, ()), v4, v5, v6, v7, v8, v9, ()), ())) fun r => sel (!r.1) (some (v0, 1, ())) (ocall (G67 k (v0, (v2, v3, ()), ())) fun r
 => sel (!r.2.1) (some (v0, 5, ())) (sel (decide (0 ≤ r.1)) (sel (decide (r.1 < Int.ofNat v0.length)) (sel (!decide ((v0.getD r.1.toNat ((0, [], ()), 0, [], 0, [], 0, 0, ())).2.1 = v1)) (some (v0, 8, ())) (ocall (G69 k v0) fun r_1 => sel (decide (0 ≤ r.1)) (sel (decide
 (r.1 < Int.ofNat r_1.1.length)) (sel (decide (r.1.toNat < r_1.1.length)) (some (r_1.1.set r.1.toNat ((v2, v3, ()), v4, v5, v6, v7, v8, v9, ()), 0, ())) none) none) none)) none) none))) := by kernel_rfl
noncomputable def G18 (k : Nat) (v : (Int × List (List ((Int × List UInt8 × Unit) × Int × List UInt8 × Int × List UInt8 × Int × Int × Unit)) × Unit) × Int × ((Int × List UInt8 × Unit) × Int × List UInt8 × Int × List UInt8 × Int × Int × Unit) × Unit) : Option ((Int × List (List ((Int × List
 UInt8 × Unit) × Int × List UInt8 × Int × List UInt8 × Int × Int × Unit)) × Unit) × Int × Unit) := F18 k v
theorem G18_eq (k : Nat) (v0 : Int) (v1 : List (List ((Int × List UInt8 × Unit) × Int × List UInt8 × Int × List UInt8 × Int × Int × Unit))) (v2 v3 : Int) (v4 : List UInt8) (v5 : Int) (v6 : List UInt8) (v7 : Int) (v8 : List UInt8) (v9 v10 : Int) : G18 k ((v0, v1, ()), v2, ((v3, v4,
 ()), v5, v6, v7, v8, v9, v10, ()), ()) = ocall (G13 k ((v0, v1, ()), ())) fun r => sel (!r.1) (some ((v0, v1, ()), 1, ())) (ocall (G12 k (((v3, v4, ()), v5, v6, v7, v8, v9, v10, ()), ())) fun r => sel (!r.1) (some ((v0,
 v1, ()), 1, ())) (ocall (G33 k ((v0, v1, ()), (v3, v4, ()), ())) fun r => ocall (G46 k (r.1, v2, ((v3, v4, ()), v5, v6, v7, v8, v9, v10, ()), ())) fun r_1 => sel (!decide (r_1.2.1 = 0)) (some ((v0, v1, ()), r_1.2.1, ()))
 (ocall (G37 k ((v0, v1, ()), r.2.1, r_1.1, ())) fun r => some ((r.1.1, r.1.2.1, ()), 0, ())))) := by kernel_rfl
noncomputable def G10 (k : Nat) (v : (Int × List (List ((Int × List UInt8 × Unit) × Int × List UInt8 × Int × List UInt8 × Int × Int × Unit)) × Unit) × (Int × List UInt8 × Unit) × Unit) : Option (((Int × List UInt8 × Unit) × Int × List UInt8 × Int × List UInt8 × Int × Int × Unit) × Bool ×
 Unit) := F10 k v
theorem G10_eq (k : Nat) (v0 : Int) (v1 : List (List ((Int × List UInt8 × Unit) × Int × List UInt8 × Int × List UInt8 × Int × Int × Unit))) (v2 : Int) (v3 : List UInt8) : G10 k ((v0, v1, ()), (v2, v3, ()), ()) = ocall (G13 k ((v0, v1, ()), ())) fun r => sel
 (!r.1) (some (((0, [], ()), 0, [], 0, [], 0, 0, ()), false, ())) (ocall (G33 k ((v0, v1, ()), (v2, v3, ()), ())) fun r => ocall (G34 k (r.1, (v2, v3, ()), ())) fun r => some (((r.1.1.1, r.1.1.2.1, ()), r.1.2.1, r.1.2.2.1,
 r.1.2.2.2.1, r.1.2.2.2.2.1, r.1.2.2.2.2.2.1, r.1.2.2.2.2.2.2.1, ()), r.2.1, ())) := by kernel_rfl
noncomputable def G61 (k : Nat) (v : Int × Unit) : Option (List ((Int × List UInt8 × Unit) × Int × List UInt8 × Int × List UInt8 × Int × Int × Unit) × Unit) := F61 k v
theorem G61_eq (k : Nat) (v0 : Int) : G61 k (v0, ()) = sel (decide (0 ≤ v0)) (sel (decide (v0 * 88 ≤ 140737488355328)) (some ([], ())) none) none := by kernel_rfl
noncomputable def G29_3 (k : Nat) (j : Nat) (v : List (List ((Int × List UInt8 × Unit) × Int × List UInt8 × Int × List UInt8 × Int × Int × Unit)) × Int × List (List ((Int × List UInt8 × Unit) × Int × List UInt8 × Int × List UInt8 × Int × Int × Unit)) × Int × Int × Unit) : Option (List (List
 ((Int × List UInt8 × Unit) × Int × List UInt8 × Int × List UInt8 × Int × Int × Unit)) × Int × Unit) := F29_3 k j v
theorem G29_3_eq (k : Nat) (j : Nat) (v0 : List (List ((Int × List UInt8 × Unit) × Int × List UInt8 × Int × List UInt8 × Int × Int × Unit))) (v1 : Int) (v2 : List (List ((Int × List UInt8 × Unit) × Int × List UInt8 × Int × List UInt8 × Int × Int × Unit))) (v3 v4 : Int) : G29_3 k (j + 1) (v0, v1,
 v2, v3, v4, ()) = sel (decide (v4 < v3)) (sel (decide (0 ≤ v4)) (sel (decide (v4 < Int.ofNat v2.length)) (sel (decide (IntKind.i64.wrap (v1 + Int.ofNat (List.length (v2.getD v4.toNat []))) < 0)) none (G29_3 k j (v0, IntKind.i64.wrap (v1 + Int.ofNat (List.length (v2.getD v4.toNat []))), v2,
 v3, IntKind.i64.wrap (v4 + 1), ()))) none) none) (some (v0, v1, ())) := by kernel_rfl
noncomputable def G29_11 (k : Nat) (j : Nat) (v : List ((Int × List UInt8 × Unit) × Int × List UInt8 × Int × List UInt8 × Int × Int × Unit) × List (List ((Int × List UInt8 × Unit) × Int × List UInt8 × Int × List UInt8 × Int × Int × Unit)) × Int × Int × Unit) : Option (List ((Int × List UInt8 ×
 Unit) × Int × List UInt8 × Int × List UInt8 × Int × Int × Unit) × Unit) := F29_11 k j v
theorem G29_11_eq (k : Nat) (j : Nat) (v0 : List ((Int × List UInt8 × Unit) × Int × List UInt8 × Int × List UInt8 × Int × Int × Unit)) (v1 : List (List ((Int × List UInt8 × Unit) × Int × List UInt8 × Int × List UInt8 × Int × Int × Unit))) (v2 v3 : Int) : G29_11 k (j + 1) (v0, v1, v2, v3,
 ()) = sel (decide (v3 < v2)) (sel (decide (0 ≤ v3)) (sel (decide (v3 < Int.ofNat v1.length)) (sel (decide ((v0.length + List.length (v1.getD v3.toNat [])) * 88 ≤ 140737488355328)) (G29_11 k j (v0 ++ v1.getD v3.toNat [], v1, v2, IntKind.i64.wrap (v3 + 1), ())) none) none) none) (some
 (v0, ())) := by kernel_rfl
noncomputable def G29 (k : Nat) (v : List (List ((Int × List UInt8 × Unit) × Int × List UInt8 × Int × List UInt8 × Int × Int × Unit)) × Unit) : Option (List ((Int × List UInt8 × Unit) × Int × List UInt8 × Int × List UInt8 × Int × Int × Unit) × Unit) := F29 k v
theorem G29_eq (k : Nat) (v0 : List (List ((Int × List UInt8 × Unit) × Int × List UInt8 × Int × List UInt8 × Int × Int × Unit))) : G29 k (v0, ()) = ocall (G29_3 k k (v0, 0, v0, Int.ofNat v0.length, 0, ())) fun e => ocall (G61 k (e.2.1, ())) fun r => ocall (G29_11 k k (r.1,
 e.1, Int.ofNat e.1.length, 0, ())) fun e => some (e.1, ()) := by kernel_rfl
noncomputable def G7000011 (k : Nat) (v : List ((Int × List UInt8 × Unit) × Int × List UInt8 × Int × List UInt8 × Int × Int × Unit) × Unit × Unit) : Option (List ((Int × List UInt8 × Unit) × Int × List UInt8 × Int × List UInt8 × Int × Int × Unit) × Unit) := F7000011 k v
theorem G7000011_eq (k : Nat) (v0 : List ((Int × List UInt8 × Unit) × Int × List UInt8 × Int × List UInt8 × Int × Int × Unit)) : G7000011 k (v0, (), ()) = Sort30.sortO ((0, [], ()), 0, [], 0, [], 0, 0, ()) (fun x y => G31 k (x, y, ())) v0 := by kernel_rfl
noncomputable def G9 (k : Nat) (v : (Int × List (List ((Int × List UInt8 × Unit) × Int × List UInt8 × Int × List UInt8 × Int × Int × Unit)) × Unit) × Unit) : Option (List ((Int × List UInt8 × Unit) × Int × List UInt8 × Int × List UInt8 × Int × Int × Unit) × Unit) := F9 k v
theorem G9_eq (k : Nat) (v0 : Int) (v1 : List (List ((Int × List UInt8 × Unit) × Int × List UInt8 × Int × List UInt8 × Int × Int × Unit))) : G9 k ((v0, v1, ()), ()) = ocall (G13 k ((v0, v1, ()), ())) fun r => sel (!r.1) (some ([], ())) (ocall (G29 k (v1,
 ())) fun r => ocall (G7000011 k (r.1, (), ())) fun r => some (r.1, ())) := by kernel_rfl
noncomputable def G6 (k : Nat) (v : Unit) : Option (Bool × Unit) := F6 k v
theorem G6_eq (k : Nat) : G6 k () = ocall (G8 k (1, 4, ())) fun r => ocall (G11 k ((r.1.1, r.1.2.1, ()), ((2, [82, 82, 78, 48, 48, 48, 48, 48, 48, 48, 48, 49], ()), 1, [49, 56], 5, [], 0, 0, ()), ())) fun r_1 => ocall (G11 k ((r_1.1.1, r_1.1.2.1,
 ()), ((1, [82, 82, 78, 48, 48, 48, 48, 48, 48, 48, 48, 49], ()), 1, [49, 56], 5, [], 0, 0, ()), ())) fun r_2 => ocall (G20 k ((r_1.1.1, r_1.1.2.1, ()), (2, [82, 82, 78, 48, 48, 48, 48, 48, 48, 48, 48, 49], ()), ())) fun r_3 => ocall (G18 k
 ((r_1.1.1, r_1.1.2.1, ()), 1, ((2, [82, 82, 78, 48, 48, 48, 48, 48, 48, 48, 48, 49], ()), 2, [49, 56], 5, [48, 48], 0, 0, ()), ())) fun r_4 => ocall (G10 k ((r_4.1.1, r_4.1.2.1, ()), (2, [82, 82, 78, 48, 48, 48, 48, 48, 48, 48, 48, 49], ()),
 ())) fun r_5 => ocall (G20 k ((r_4.1.1, r_4.1.2.1, ()), (2, [82, 82, 78, 48, 48, 48, 48, 48, 48, 48, 48, 49], ()), ())) fun r_6 => sel (decide (r.2.1 = 0)) (sel (decide (r_1.2.1 = 0)) (sel (decide (r_2.2.1 = 7)) (sel (decide (r_3.2.1 = 8)) (sel (decide (r_4.2.1 = 0))
 (sel (decide (r_6.2.1 = 0)) (sel r_5.2.1 (sel (sameI r_5.1.1.1 2 && (sameS r_5.1.1.2.1 [82, 82, 78, 48, 48, 48, 48, 48, 48, 48, 48, 49] && true) && (sameI r_5.1.2.1 2 && (sameS r_5.1.2.2.1 [49, 56] && (sameI r_5.1.2.2.2.1 5 && (sameS r_5.1.2.2.2.2.1 [48, 48] && (sameI r_5.1.2.2.2.2.2.1 0 && (sameI
 r_5.1.2.2.2.2.2.2.1 0 && true))))))) (ocall (G9 k ((r_4.1.1, r_4.1.2.1, ()), ())) fun r => sel (decide (Int.ofNat r.1.length = 1)) (ocall (G9 k ((r_6.1.1, r_6.1.2.1, ()), ())) fun r => sel (decide (Int.ofNat r.1.length = 0)) (ocall (G13 k ((r_4.1.1, r_4.1.2.1,
 ()), ())) fun r => some (r.1, ())) (some (false, ()))) (some (false, ()))) (some (false, ()))) (some (false, ()))) (some (false, ()))) (some (false, ()))) (some (false, ()))) (some (false, ()))) (some (false,
 ()))) (some (false, ())) := by kernel_rfl
noncomputable def G16 (k : Nat) (v : ((Int × List UInt8 × Unit) × Int × List UInt8 × Int × List UInt8 × Int × Int × Unit) × Unit) : Option (Bool × Unit) := F16 k v
theorem G16_eq (k : Nat) (v0 : Int) (v1 : List UInt8) (v2 : Int) (v3 : List UInt8) (v4 : Int) (v5 : List UInt8) (v6 v7 : Int) : G16 k (((v0, v1, ()), v2, v3, v4, v5, v6, v7, ()), ()) = ocall (G17 k ((v0, v1, ()), ())) fun r => sel r.1 (sel (decide (Int.ofNat
 v3.length ≤ 300)) (some (decide (Int.ofNat v5.length ≤ 300), ())) (some (false, ()))) (some (false, ())) := by kernel_rfl
noncomputable def G7_2 (k : Nat) (j : Nat) (v : List ((Int × List UInt8 × Unit) × Int × List UInt8 × Int × List UInt8 × Int × Int × Unit) × Int × Unit) : Option (List ((Int × List UInt8 × Unit) × Int × List UInt8 × Int × List UInt8 × Int × Int × Unit) × Unit ⊕ Bool × Unit) := F7_2 k j v
theorem G7_2_eq (k : Nat) (j : Nat) (v0 : List ((Int × List UInt8 × Unit) × Int × List UInt8 × Int × List UInt8 × Int × Int × Unit)) (v1 : Int) : G7_2 k (j + 1) (v0, v1, ()) = sel (decide (v1 < Int.ofNat v0.length)) (sel (decide (v1 < 200)) (sel (decide (0 ≤ v1)) (sel (decide (v1 <
 Int.ofNat v0.length)) (ocall (G16 k ((((v0.getD v1.toNat ((0, [], ()), 0, [], 0, [], 0, 0, ())).1.1, (v0.getD v1.toNat ((0, [], ()), 0, [], 0, [], 0, 0, ())).1.2.1, ()), (v0.getD v1.toNat ((0, [], ()), 0, [], 0, [], 0, 0, ())).2.1, (v0.getD
 v1.toNat ((0, [], ()), 0, [], 0, [], 0, 0, ())).2.2.1, (v0.getD v1.toNat ((0, [], ()), 0, [], 0, [], 0, 0, ())).2.2.2.1, (v0.getD v1.toNat ((0, [], ()), 0, [], 0, [], 0, 0, ())).2.2.2.2.1, (v0.getD v1.toNat ((0, [], ()), 0, [], 0, [], 0, 0,
 ())).2.2.2.2.2.1, (v0.getD v1.toNat ((0, [], ()), 0, [], 0, [], 0, 0, ())).2.2.2.2.2.2.1, ()), ())) fun r => sel (!r.1) (some (Sum.inr (false, ()))) (G7_2 k j (v0, IntKind.i64.wrap (v1 + 1), ()))) none) none) (some (Sum.inl (v0, ()))))
 (some (Sum.inl (v0, ()))) := by kernel_rfl
noncomputable def G7 (k : Nat) (v : List ((Int × List UInt8 × Unit) × Int × List UInt8 × Int × List UInt8 × Int × Int × Unit) × Unit) : Option (Bool × Unit) := F7 k v
theorem G7_eq (k : Nat) (v0 : List ((Int × List UInt8 × Unit) × Int × List UInt8 × Int × List UInt8 × Int × Int × Unit)) : G7 k (v0, ()) = ocall (G7_2 k k (v0, 0, ())) fun e => esel e (fun v => some (decide (Int.ofNat v.1.length ≤ 200), ())) fun e => some (e.1, ())
 := by kernel_rfl
noncomputable def G14_4 (k : Nat) (j : Nat) (v : List ((Int × List UInt8 × Unit) × Int × List UInt8 × Int × List UInt8 × Int × Int × Unit) × List ((Int × List UInt8 × Unit) × Int × List UInt8 × Int × List UInt8 × Int × Int × Unit) × Int × Unit) : Option (Unit ⊕ Bool × Unit) := F14_4 k j v
theorem G14_4_eq (k : Nat) (j : Nat) (v0 v1 : List ((Int × List UInt8 × Unit) × Int × List UInt8 × Int × List UInt8 × Int × Int × Unit)) (v2 : Int) : G14_4 k (j + 1) (v0, v1, v2, ()) = sel (decide (v2 < Int.ofNat v0.length)) (sel (decide (0 ≤ v2)) (sel (decide (v2 < Int.ofNat v0.length))
 (sel (decide (0 ≤ v2)) (sel (decide (v2 < Int.ofNat v1.length)) (sel (!(sameI (v0.getD v2.toNat ((0, [], ()), 0, [], 0, [], 0, 0, ())).1.1 (v1.getD v2.toNat ((0, [], ()), 0, [], 0, [], 0, 0, ())).1.1 && (sameS (v0.getD v2.toNat ((0, [], ()), 0, [], 0, [], 0,
 0, ())).1.2.1 (v1.getD v2.toNat ((0, [], ()), 0, [], 0, [], 0, 0, ())).1.2.1 && true) && (sameI (v0.getD v2.toNat ((0, [], ()), 0, [], 0, [], 0, 0, ())).2.1 (v1.getD v2.toNat ((0, [], ()), 0, [], 0, [], 0, 0, ())).2.1 && (sameS (v0.getD
 v2.toNat ((0, [], ()), 0, [], 0, [], 0, 0, ())).2.2.1 (v1.getD v2.toNat ((0, [], ()), 0, [], 0, [], 0, 0, ())).2.2.1 && (sameI (v0.getD v2.toNat ((0, [], ()), 0, [], 0, [], 0, 0, ())).2.2.2.1 (v1.getD v2.toNat ((0, [], ()), 0, [], 0, [], 0, 0,
 ())).2.2.2.1 && (sameS (v0.getD v2.toNat ((0, [], ()), 0, [], 0, [], 0, 0, ())).2.2.2.2.1 (v1.getD v2.toNat ((0, [], ()), 0, [], 0, [], 0, 0, ())).2.2.2.2.1 && (sameI (v0.getD v2.toNat ((0, [], ()), 0, [], 0, [], 0, 0, ())).2.2.2.2.2.1 (v1.getD
 v2.toNat ((0, [], ()), 0, [], 0, [], 0, 0, ())).2.2.2.2.2.1 && (sameI (v0.getD v2.toNat ((0, [], ()), 0, [], 0, [], 0, 0, ())).2.2.2.2.2.2.1 (v1.getD v2.toNat ((0, [], ()), 0, [], 0, [], 0, 0, ())).2.2.2.2.2.2.1 && true)))))))) (some (Sum.inr (false,
 ()))) (G14_4 k j (v0, v1, IntKind.i64.wrap (v2 + 1), ()))) none) none) none) none) (some (Sum.inl ())) := by kernel_rfl
noncomputable def G14 (k : Nat) (v : List ((Int × List UInt8 × Unit) × Int × List UInt8 × Int × List UInt8 × Int × Int × Unit) × List ((Int × List UInt8 × Unit) × Int × List UInt8 × Int × List UInt8 × Int × Int × Unit) × Unit) : Option (Bool × Unit) := F14 k v
theorem G14_eq (k : Nat) (v0 v1 : List ((Int × List UInt8 × Unit) × Int × List UInt8 × Int × List UInt8 × Int × Int × Unit)) : G14 k (v0, v1, ()) = sel (!decide (Int.ofNat v0.length = Int.ofNat v1.length)) (some (false, ())) (ocall (G14_4 k k (v0, v1, 0, ())) fun e => esel
 e (fun v => some (true, ())) fun e => some (e.1, ())) := by kernel_rfl
noncomputable def G3_10 (k : Nat) (j : Nat) (v : List ((Int × List UInt8 × Unit) × Int × List UInt8 × Int × List UInt8 × Int × Int × Unit) × Int × Int × List (List ((Int × List UInt8 × Unit) × Int × List UInt8 × Int × List UInt8 × Int × Int × Unit)) × Int × List (List ((Int × List UInt8 × Unit)
 × Int × List UInt8 × Int × List UInt8 × Int × Int × Unit)) × Unit) : Option (Int × List (List ((Int × List UInt8 × Unit) × Int × List UInt8 × Int × List UInt8 × Int × Int × Unit)) × Int × List (List ((Int × List UInt8 × Unit) × Int × List UInt8 × Int × List UInt8 × Int × Int × Unit)) × Unit ⊕
 Bool × Unit) := F3_10 k j v
theorem G3_10_eq (k : Nat) (j : Nat) (v0 : List ((Int × List UInt8 × Unit) × Int × List UInt8 × Int × List UInt8 × Int × Int × Unit)) (v1 v2 : Int) (v3 : List (List ((Int × List UInt8 × Unit) × Int × List UInt8 × Int × List UInt8 × Int × Int × Unit))) (v4 : Int) (v5 : List (List ((Int × List
 UInt8 × Unit) × Int × List UInt8 × Int × List UInt8 × Int × Int × Unit))) : G3_10 k (j + 1) (v0, v1, v2, v3, v4, v5, ()) = sel (decide (v1 < Int.ofNat v0.length)) (ocall (G9 k ((v2, v3, ()), ())) fun r => sel (decide (0 ≤ v1)) (sel (decide (v1 < Int.ofNat v0.length)) (ocall
 (G10 k ((v2, v3, ()), ((v0.getD v1.toNat ((0, [], ()), 0, [], 0, [], 0, 0, ())).1.1, (v0.getD v1.toNat ((0, [], ()), 0, [], 0, [], 0, 0, ())).1.2.1, ()), ())) fun r_1 => sel (decide (0 ≤ v1)) (sel (decide (v1 < Int.ofNat v0.length)) (ocall (G11
 k ((v2, v3, ()), (((v0.getD v1.toNat ((0, [], ()), 0, [], 0, [], 0, 0, ())).1.1, (v0.getD v1.toNat ((0, [], ()), 0, [], 0, [], 0, 0, ())).1.2.1, ()), (v0.getD v1.toNat ((0, [], ()), 0, [], 0, [], 0, 0, ())).2.1, (v0.getD v1.toNat ((0,
 [], ()), 0, [], 0, [], 0, 0, ())).2.2.1, (v0.getD v1.toNat ((0, [], ()), 0, [], 0, [], 0, 0, ())).2.2.2.1, (v0.getD v1.toNat ((0, [], ()), 0, [], 0, [], 0, 0, ())).2.2.2.2.1, (v0.getD v1.toNat ((0, [], ()), 0, [], 0, [], 0, 0,
 ())).2.2.2.2.2.1, (v0.getD v1.toNat ((0, [], ()), 0, [], 0, [], 0, 0, ())).2.2.2.2.2.2.1, ()), ())) fun r_2 => sel (decide (0 ≤ v1)) (sel (decide (v1 < Int.ofNat v0.length)) (ocall (G11 k ((v4, v5, ()), (((v0.getD v1.toNat ((0, [], ()), 0, [],
 0, [], 0, 0, ())).1.1, (v0.getD v1.toNat ((0, [], ()), 0, [], 0, [], 0, 0, ())).1.2.1, ()), (v0.getD v1.toNat ((0, [], ()), 0, [], 0, [], 0, 0, ())).2.1, (v0.getD v1.toNat ((0, [], ()), 0, [], 0, [], 0, 0, ())).2.2.1, (v0.getD v1.toNat
 ((0, [], ()), 0, [], 0, [], 0, 0, ())).2.2.2.1, (v0.getD v1.toNat ((0, [], ()), 0, [], 0, [], 0, 0, ())).2.2.2.2.1, (v0.getD v1.toNat ((0, [], ()), 0, [], 0, [], 0, 0, ())).2.2.2.2.2.1, (v0.getD v1.toNat ((0, [], ()), 0, [], 0, [], 0, 0,
 ())).2.2.2.2.2.2.1, ()), ())) fun r_3 => sel (decide (0 ≤ v1)) (sel (decide (v1 < Int.ofNat v0.length)) (ocall (G12 k ((((v0.getD v1.toNat ((0, [], ()), 0, [], 0, [], 0, 0, ())).1.1, (v0.getD v1.toNat ((0, [], ()), 0, [], 0, [], 0, 0,
 ())).1.2.1, ()), (v0.getD v1.toNat ((0, [], ()), 0, [], 0, [], 0, 0, ())).2.1, (v0.getD v1.toNat ((0, [], ()), 0, [], 0, [], 0, 0, ())).2.2.1, (v0.getD v1.toNat ((0, [], ()), 0, [], 0, [], 0, 0, ())).2.2.2.1, (v0.getD v1.toNat ((0, [],
 ()), 0, [], 0, [], 0, 0, ())).2.2.2.2.1, (v0.getD v1.toNat ((0, [], ()), 0, [], 0, [], 0, 0, ())).2.2.2.2.2.1, (v0.getD v1.toNat ((0, [], ()), 0, [], 0, [], 0, 0, ())).2.2.2.2.2.2.1, ()), ())) fun r_4 => sel (!decide (r_2.2.1 =
 r_3.2.1)) (some (Sum.inr (false, ()))) (sel r_4.1 (sel (!r_1.2.1) (sel (!decide (r_2.2.1 = 0) == decide (Int.ofNat r.1.length < v2)) (some (Sum.inr (false, ()))) (sel r_4.1 (sel r_1.2.1 (sel (!decide (r_2.2.1 = 6)) (some (Sum.inr (false, ()))) (ocall (G13 k ((r_2.1.1,
 r_2.1.2.1, ()), ())) fun r_5 => sel (!r_5.1) (some (Sum.inr (false, ()))) (sel (decide (r_2.2.1 = 0)) (sel (decide (0 ≤ v1)) (sel (decide (v1 < Int.ofNat v0.length)) (ocall (G10 k ((r_2.1.1, r_2.1.2.1, ()), ((v0.getD v1.toNat ((0, [], ()), 0, [], 0, [], 0, 0,
 ())).1.1, (v0.getD v1.toNat ((0, [], ()), 0, [], 0, [], 0, 0, ())).1.2.1, ()), ())) fun r_6 => sel (!r_6.2.1) (some (Sum.inr (false, ()))) (sel (decide (0 ≤ v1)) (sel (decide (v1 < Int.ofNat v0.length)) (sel (!(sameI r_6.1.1.1 (v0.getD v1.toNat ((0,
 [], ()), 0, [], 0, [], 0, 0, ())).1.1 && (sameS r_6.1.1.2.1 (v0.getD v1.toNat ((0, [], ()), 0, [], 0, [], 0, 0, ())).1.2.1 && true) && (sameI r_6.1.2.1 (v0.getD v1.toNat ((0, [], ()), 0, [], 0, [], 0, 0, ())).2.1 && (sameS r_6.1.2.2.1 (v0.getD v1.toNat
 ((0, [], ()), 0, [], 0, [], 0, 0, ())).2.2.1 && (sameI r_6.1.2.2.2.1 (v0.getD v1.toNat ((0, [], ()), 0, [], 0, [], 0, 0, ())).2.2.2.1 && (sameS r_6.1.2.2.2.2.1 (v0.getD v1.toNat ((0, [], ()), 0, [], 0, [], 0, 0, ())).2.2.2.2.1 && (sameI
 r_6.1.2.2.2.2.2.1 (v0.getD v1.toNat ((0, [], ()), 0, [], 0, [], 0, 0, ())).2.2.2.2.2.1 && (sameI r_6.1.2.2.2.2.2.2.1 (v0.getD v1.toNat ((0, [], ()), 0, [], 0, [], 0, 0, ())).2.2.2.2.2.2.1 && true)))))))) (some (Sum.inr (false, ()))) (ocall (G9 k ((r_2.1.1,
 r_2.1.2.1, ()), ())) fun r_7 => sel (!decide (Int.ofNat r_7.1.length = IntKind.i64.wrap (Int.ofNat r.1.length + 1))) (some (Sum.inr (false, ()))) (G3_10 k j (v0, IntKind.i64.wrap (v1 + 1), r_2.1.1, r_2.1.2.1, r_3.1.1, r_3.1.2.1, ())))) none) none)) none) none) (G3_10
 k j (v0, IntKind.i64.wrap (v1 + 1), r_2.1.1, r_2.1.2.1, r_3.1.1, r_3.1.2.1, ()))))) (ocall (G13 k ((r_2.1.1, r_2.1.2.1, ()), ())) fun r_5 => sel (!r_5.1) (some (Sum.inr (false, ()))) (sel (decide (r_2.2.1 = 0)) (sel (decide (0 ≤ v1)) (sel (decide (v1 < Int.ofNat
 v0.length)) (ocall (G10 k ((r_2.1.1, r_2.1.2.1, ()), ((v0.getD v1.toNat ((0, [], ()), 0, [], 0, [], 0, 0, ())).1.1, (v0.getD v1.toNat ((0, [], ()), 0, [], 0, [], 0, 0, ())).1.2.1, ()), ())) fun r_6 => sel (!r_6.2.1) (some (Sum.inr (false,
 ()))) (sel (decide (0 ≤ v1)) (sel (decide (v1 < Int.ofNat v0.length)) (sel (!(sameI r_6.1.1.1 (v0.getD v1.toNat ((0, [], ()), 0, [], 0, [], 0, 0, ())).1.1 && (sameS r_6.1.1.2.1 (v0.getD v1.toNat ((0, [], ()), 0, [], 0, [], 0, 0, ())).1.2.1 && true) && (sameI
 r_6.1.2.1 (v0.getD v1.toNat ((0, [], ()), 0, [], 0, [], 0, 0, ())).2.1 && (sameS r_6.1.2.2.1 (v0.getD v1.toNat ((0, [], ()), 0, [], 0, [], 0, 0, ())).2.2.1 && (sameI r_6.1.2.2.2.1 (v0.getD v1.toNat ((0, [], ()), 0, [], 0, [], 0, 0, ())).2.2.2.1 &&
 (sameS r_6.1.2.2.2.2.1 (v0.getD v1.toNat ((0, [], ()), 0, [], 0, [], 0, 0, ())).2.2.2.2.1 && (sameI r_6.1.2.2.2.2.2.1 (v0.getD v1.toNat ((0, [], ()), 0, [], 0, [], 0, 0, ())).2.2.2.2.2.1 && (sameI r_6.1.2.2.2.2.2.2.1 (v0.getD v1.toNat ((0, [], ()), 0, [], 0,
 [], 0, 0, ())).2.2.2.2.2.2.1 && true)))))))) (some (Sum.inr (false, ()))) (ocall (G9 k ((r_2.1.1, r_2.1.2.1, ()), ())) fun r_7 => sel (!decide (Int.ofNat r_7.1.length = IntKind.i64.wrap (Int.ofNat r.1.length + 1))) (some (Sum.inr (false, ()))) (G3_10 k j (v0,
 IntKind.i64.wrap (v1 + 1), r_2.1.1, r_2.1.2.1, r_3.1.1, r_3.1.2.1, ())))) none) none)) none) none) (G3_10 k j (v0, IntKind.i64.wrap (v1 + 1), r_2.1.1, r_2.1.2.1, r_3.1.1, r_3.1.2.1, ()))))) (ocall (G13 k ((r_2.1.1, r_2.1.2.1, ()), ())) fun r_5 => sel (!r_5.1) (some
 (Sum.inr (false, ()))) (sel (decide (r_2.2.1 = 0)) (sel (decide (0 ≤ v1)) (sel (decide (v1 < Int.ofNat v0.length)) (ocall (G10 k ((r_2.1.1, r_2.1.2.1, ()), ((v0.getD v1.toNat ((0, [], ()), 0, [], 0, [], 0, 0, ())).1.1, (v0.getD v1.toNat ((0, [], ()), 0, [], 0,
 [], 0, 0, ())).1.2.1, ()), ())) fun r_6 => sel (!r_6.2.1) (some (Sum.inr (false, ()))) (sel (decide (0 ≤ v1)) (sel (decide (v1 < Int.ofNat v0.length)) (sel (!(sameI r_6.1.1.1 (v0.getD v1.toNat ((0, [], ()), 0, [], 0, [], 0, 0, ())).1.1 && (sameS
 r_6.1.1.2.1 (v0.getD v1.toNat ((0, [], ()), 0, [], 0, [], 0, 0, ())).1.2.1 && true) && (sameI r_6.1.2.1 (v0.getD v1.toNat ((0, [], ()), 0, [], 0, [], 0, 0, ())).2.1 && (sameS r_6.1.2.2.1 (v0.getD v1.toNat ((0, [], ()), 0, [], 0, [], 0, 0, ())).2.2.1 &&
 (sameI r_6.1.2.2.2.1 (v0.getD v1.toNat ((0, [], ()), 0, [], 0, [], 0, 0, ())).2.2.2.1 && (sameS r_6.1.2.2.2.2.1 (v0.getD v1.toNat ((0, [], ()), 0, [], 0, [], 0, 0, ())).2.2.2.2.1 && (sameI r_6.1.2.2.2.2.2.1 (v0.getD v1.toNat ((0, [], ()), 0, [], 0, [], 0, 0,
 ())).2.2.2.2.2.1 && (sameI r_6.1.2.2.2.2.2.2.1 (v0.getD v1.toNat ((0, [], ()), 0, [], 0, [], 0, 0, ())).2.2.2.2.2.2.1 && true)))))))) (some (Sum.inr (false, ()))) (ocall (G9 k ((r_2.1.1, r_2.1.2.1, ()), ())) fun r_7 => sel (!decide (Int.ofNat
 r_7.1.length = IntKind.i64.wrap (Int.ofNat r.1.length + 1))) (some (Sum.inr (false, ()))) (G3_10 k j (v0, IntKind.i64.wrap (v1 + 1), r_2.1.1, r_2.1.2.1, r_3.1.1, r_3.1.2.1, ())))) none) none)) none) none) (G3_10 k j (v0, IntKind.i64.wrap (v1 + 1), r_2.1.1, r_2.1.2.1, r_3.1.1,
 r_3.1.2.1, ())))))) (sel (!decide (r_2.2.1 = 0) == false) (some (Sum.inr (false, ()))) (sel r_4.1 (sel r_1.2.1 (sel (!decide (r_2.2.1 = 6)) (some (Sum.inr (false, ()))) (ocall (G13 k ((r_2.1.1, r_2.1.2.1, ()), ())) fun r_5 => sel (!r_5.1) (some (Sum.inr
 (false, ()))) (sel (decide (r_2.2.1 = 0)) (sel (decide (0 ≤ v1)) (sel (decide (v1 < Int.ofNat v0.length)) (ocall (G10 k ((r_2.1.1, r_2.1.2.1, ()), ((v0.getD v1.toNat ((0, [], ()), 0, [], 0, [], 0, 0, ())).1.1, (v0.getD v1.toNat ((0, [], ()), 0, [], 0, [], 0,
 0, ())).1.2.1, ()), ())) fun r_6 => sel (!r_6.2.1) (some (Sum.inr (false, ()))) (sel (decide (0 ≤ v1)) (sel (decide (v1 < Int.ofNat v0.length)) (sel (!(sameI r_6.1.1.1 (v0.getD v1.toNat ((0, [], ()), 0, [], 0, [], 0, 0, ())).1.1 && (sameS r_6.1.1.2.1
 (v0.getD v1.toNat ((0, [], ()), 0, [], 0, [], 0, 0, ())).1.2.1 && true) && (sameI r_6.1.2.1 (v0.getD v1.toNat ((0, [], ()), 0, [], 0, [], 0, 0, ())).2.1 && (sameS r_6.1.2.2.1 (v0.getD v1.toNat ((0, [], ()), 0, [], 0, [], 0, 0, ())).2.2.1 && (sameI
 r_6.1.2.2.2.1 (v0.getD v1.toNat ((0, [], ()), 0, [], 0, [], 0, 0, ())).2.2.2.1 && (sameS r_6.1.2.2.2.2.1 (v0.getD v1.toNat ((0, [], ()), 0, [], 0, [], 0, 0, ())).2.2.2.2.1 && (sameI r_6.1.2.2.2.2.2.1 (v0.getD v1.toNat ((0, [], ()), 0, [], 0, [], 0, 0,
 ())).2.2.2.2.2.1 && (sameI r_6.1.2.2.2.2.2.2.1 (v0.getD v1.toNat ((0, [], ()), 0, [], 0, [], 0, 0, ())).2.2.2.2.2.2.1 && true)))))))) (some (Sum.inr (false, ()))) (ocall (G9 k ((r_2.1.1, r_2.1.2.1, ()), ())) fun r_7 => sel (!decide (Int.ofNat
 r_7.1.length = IntKind.i64.wrap (Int.ofNat r.1.length + 1))) (some (Sum.inr (false, ()))) (G3_10 k j (v0, IntKind.i64.wrap (v1 + 1), r_2.1.1, r_2.1.2.1, r_3.1.1, r_3.1.2.1, ())))) none) none)) none) none) (G3_10 k j (v0, IntKind.i64.wrap (v1 + 1), r_2.1.1, r_2.1.2.1, r_3.1.1,
 r_3.1.2.1, ()))))) (ocall (G13 k ((r_2.1.1, r_2.1.2.1, ()), ())) fun r_5 => sel (!r_5.1) (some (Sum.inr (false, ()))) (sel (decide (r_2.2.1 = 0)) (sel (decide (0 ≤ v1)) (sel (decide (v1 < Int.ofNat v0.length)) (ocall (G10 k ((r_2.1.1, r_2.1.2.1, ()), ((v0.getD
 v1.toNat ((0, [], ()), 0, [], 0, [], 0, 0, ())).1.1, (v0.getD v1.toNat ((0, [], ()), 0, [], 0, [], 0, 0, ())).1.2.1, ()), ())) fun r_6 => sel (!r_6.2.1) (some (Sum.inr (false, ()))) (sel (decide (0 ≤ v1)) (sel (decide (v1 < Int.ofNat
 v0.length)) (sel (!(sameI r_6.1.1.1 (v0.getD v1.toNat ((0, [], ()), 0, [], 0, [], 0, 0, ())).1.1 && (sameS r_6.1.1.2.1 (v0.getD v1.toNat ((0, [], ()), 0, [], 0, [], 0, 0, ())).1.2.1 && true) && (sameI r_6.1.2.1 (v0.getD v1.toNat ((0, [], ()), 0, [], 0, [], 0,
 0, ())).2.1 && (sameS r_6.1.2.2.1 (v0.getD v1.toNat ((0, [], ()), 0, [], 0, [], 0, 0, ())).2.2.1 && (sameI r_6.1.2.2.2.1 (v0.getD v1.toNat ((0, [], ()), 0, [], 0, [], 0, 0, ())).2.2.2.1 && (sameS r_6.1.2.2.2.2.1 (v0.getD v1.toNat ((0, [], ()), 0, [],
 0, [], 0, 0, ())).2.2.2.2.1 && (sameI r_6.1.2.2.2.2.2.1 (v0.getD v1.toNat ((0, [], ()), 0, [], 0, [], 0, 0, ())).2.2.2.2.2.1 && (sameI r_6.1.2.2.2.2.2.2.1 (v0.getD v1.toNat ((0, [], ()), 0, [], 0, [], 0, 0, ())).2.2.2.2.2.2.1 && true)))))))) (some (Sum.inr
 (false, ()))) (ocall (G9 k ((r_2.1.1, r_2.1.2.1, ()), ())) fun r_7 => sel (!decide (Int.ofNat r_7.1.length = IntKind.i64.wrap (Int.ofNat r.1.length + 1))) (some (Sum.inr (false, ()))) (G3_10 k j (v0, IntKind.i64.wrap (v1 + 1), r_2.1.1, r_2.1.2.1, r_3.1.1, r_3.1.2.1,
 ())))) none) none)) none) none) (G3_10 k j (v0, IntKind.i64.wrap (v1 + 1), r_2.1.1, r_2.1.2.1, r_3.1.1, r_3.1.2.1, ()))))) (ocall (G13 k ((r_2.1.1, r_2.1.2.1, ()), ())) fun r_5 => sel (!r_5.1) (some (Sum.inr (false, ()))) (sel (decide (r_2.2.1 = 0)) (sel
 (decide (0 ≤ v1)) (sel (decide (v1 < Int.ofNat v0.length)) (ocall (G10 k ((r_2.1.1, r_2.1.2.1, ()), ((v0.getD v1.toNat ((0, [], ()), 0, [], 0, [], 0, 0, ())).1.1, (v0.getD v1.toNat ((0, [], ()), 0, [], 0, [], 0, 0, ())).1.2.1, ()), ())) fun r_6
 => sel (!r_6.2.1) (some (Sum.inr (false, ()))) (sel (decide (0 ≤ v1)) (sel (decide (v1 < Int.ofNat v0.length)) (sel (!(sameI r_6.1.1.1 (v0.getD v1.toNat ((0, [], ()), 0, [], 0, [], 0, 0, ())).1.1 && (sameS r_6.1.1.2.1 (v0.getD v1.toNat ((0, [], ()), 0, [], 0, [], 0,
 0, ())).1.2.1 && true) && (sameI r_6.1.2.1 (v0.getD v1.toNat ((0, [], ()), 0, [], 0, [], 0, 0, ())).2.1 && (sameS r_6.1.2.2.1 (v0.getD v1.toNat ((0, [], ()), 0, [], 0, [], 0, 0, ())).2.2.1 && (sameI r_6.1.2.2.2.1 (v0.getD v1.toNat ((0, [], ()), 0, [],
 0, [], 0, 0, ())).2.2.2.1 && (sameS r_6.1.2.2.2.2.1 (v0.getD v1.toNat ((0, [], ()), 0, [], 0, [], 0, 0, ())).2.2.2.2.1 && (sameI r_6.1.2.2.2.2.2.1 (v0.getD v1.toNat ((0, [], ()), 0, [], 0, [], 0, 0, ())).2.2.2.2.2.1 && (sameI r_6.1.2.2.2.2.2.2.1 (v0.getD
 v1.toNat ((0, [], ()), 0, [], 0, [], 0, 0, ())).2.2.2.2.2.2.1 && true)))))))) (some (Sum.inr (false, ()))) (ocall (G9 k ((r_2.1.1, r_2.1.2.1, ()), ())) fun r_7 => sel (!decide (Int.ofNat r_7.1.length = IntKind.i64.wrap (Int.ofNat r.1.length + 1))) (some
 (Sum.inr (false, ()))) (G3_10 k j (v0, IntKind.i64.wrap (v1 + 1), r_2.1.1, r_2.1.2.1, r_3.1.1, r_3.1.2.1, ())))) none) none)) none) none) (G3_10 k j (v0, IntKind.i64.wrap (v1 + 1), r_2.1.1, r_2.1.2.1, r_3.1.1, r_3.1.2.1, ()))))))) (sel (!decide (r_2.2.1 = 0) == false) (some
 (Sum.inr (false, ()))) (sel r_4.1 (sel r_1.2.1 (sel (!decide (r_2.2.1 = 6)) (some (Sum.inr (false, ()))) (ocall (G13 k ((r_2.1.1, r_2.1.2.1, ()), ())) fun r_5 => sel (!r_5.1) (some (Sum.inr (false, ()))) (sel (decide (r_2.2.1 = 0)) (sel (decide (0 ≤ v1)) (sel
 (decide (v1 < Int.ofNat v0.length)) (ocall (G10 k ((r_2.1.1, r_2.1.2.1, ()), ((v0.getD v1.toNat ((0, [], ()), 0, [], 0, [], 0, 0, ())).1.1, (v0.getD v1.toNat ((0, [], ()), 0, [], 0, [], 0, 0, ())).1.2.1, ()), ())) fun r_6 => sel (!r_6.2.1)
 (some (Sum.inr (false, ()))) (sel (decide (0 ≤ v1)) (sel (decide (v1 < Int.ofNat v0.length)) (sel (!(sameI r_6.1.1.1 (v0.getD v1.toNat ((0, [], ()), 0, [], 0, [], 0, 0, ())).1.1 && (sameS r_6.1.1.2.1 (v0.getD v1.toNat ((0, [], ()), 0, [], 0, [], 0, 0,
 ())).1.2.1 && true) && (sameI r_6.1.2.1 (v0.getD v1.toNat ((0, [], ()), 0, [], 0, [], 0, 0, ())).2.1 && (sameS r_6.1.2.2.1 (v0.getD v1.toNat ((0, [], ()), 0, [], 0, [], 0, 0, ())).2.2.1 && (sameI r_6.1.2.2.2.1 (v0.getD v1.toNat ((0, [], ()), 0, [], 0,
 [], 0, 0, ())).2.2.2.1 && (sameS r_6.1.2.2.2.2.1 (v0.getD v1.toNat ((0, [], ()), 0, [], 0, [], 0, 0, ())).2.2.2.2.1 && (sameI r_6.1.2.2.2.2.2.1 (v0.getD v1.toNat ((0, [], ()), 0, [], 0, [], 0, 0, ())).2.2.2.2.2.1 && (sameI r_6.1.2.2.2.2.2.2.1 (v0.getD v1.toNat
 ((0, [], ()), 0, [], 0, [], 0, 0, ())).2.2.2.2.2.2.1 && true)))))))) (some (Sum.inr (false, ()))) (ocall (G9 k ((r_2.1.1, r_2.1.2.1, ()), ())) fun r_7 => sel (!decide (Int.ofNat r_7.1.length = IntKind.i64.wrap (Int.ofNat r.1.length + 1))) (some (Sum.inr
 (false, ()))) (G3_10 k j (v0, IntKind.i64.wrap (v1 + 1), r_2.1.1, r_2.1.2.1, r_3.1.1, r_3.1.2.1, ())))) none) none)) none) none) (G3_10 k j (v0, IntKind.i64.wrap (v1 + 1), r_2.1.1, r_2.1.2.1, r_3.1.1, r_3.1.2.1, ()))))) (ocall (G13 k ((r_2.1.1, r_2.1.2.1, ()),
 ())) fun r_5 => sel (!r_5.1) (some (Sum.inr (false, ()))) (sel (decide (r_2.2.1 = 0)) (sel (decide (0 ≤ v1)) (sel (decide (v1 < Int.ofNat v0.length)) (ocall (G10 k ((r_2.1.1, r_2.1.2.1, ()), ((v0.getD v1.toNat ((0, [], ()), 0, [], 0, [], 0, 0, ())).1.1,
 (v0.getD v1.toNat ((0, [], ()), 0, [], 0, [], 0, 0, ())).1.2.1, ()), ())) fun r_6 => sel (!r_6.2.1) (some (Sum.inr (false, ()))) (sel (decide (0 ≤ v1)) (sel (decide (v1 < Int.ofNat v0.length)) (sel (!(sameI r_6.1.1.1 (v0.getD v1.toNat ((0, [], ()), 0,
 [], 0, [], 0, 0, ())).1.1 && (sameS r_6.1.1.2.1 (v0.getD v1.toNat ((0, [], ()), 0, [], 0, [], 0, 0, ())).1.2.1 && true) && (sameI r_6.1.2.1 (v0.getD v1.toNat ((0, [], ()), 0, [], 0, [], 0, 0, ())).2.1 && (sameS r_6.1.2.2.1 (v0.getD v1.toNat ((0, [],
 ()), 0, [], 0, [], 0, 0, ())).2.2.1 && (sameI r_6.1.2.2.2.1 (v0.getD v1.toNat ((0, [], ()), 0, [], 0, [], 0, 0, ())).2.2.2.1 && (sameS r_6.1.2.2.2.2.1 (v0.getD v1.toNat ((0, [], ()), 0, [], 0, [], 0, 0, ())).2.2.2.2.1 && (sameI r_6.1.2.2.2.2.2.1
 (v0.getD v1.toNat ((0, [], ()), 0, [], 0, [], 0, 0, ())).2.2.2.2.2.1 && (sameI r_6.1.2.2.2.2.2.2.1 (v0.getD v1.toNat ((0, [], ()), 0, [], 0, [], 0, 0, ())).2.2.2.2.2.2.1 && true)))))))) (some (Sum.inr (false, ()))) (ocall (G9 k ((r_2.1.1, r_2.1.2.1,
 ()), ())) fun r_7 => sel (!decide (Int.ofNat r_7.1.length = IntKind.i64.wrap (Int.ofNat r.1.length + 1))) (some (Sum.inr (false, ()))) (G3_10 k j (v0, IntKind.i64.wrap (v1 + 1), r_2.1.1, r_2.1.2.1, r_3.1.1, r_3.1.2.1, ())))) none) none)) none) none) (G3_10 k j (v0,
 IntKind.i64.wrap (v1 + 1), r_2.1.1, r_2.1.2.1, r_3.1.1, r_3.1.2.1, ()))))) (ocall (G13 k ((r_2.1.1, r_2.1.2.1, ()), ())) fun r_5 => sel (!r_5.1) (some (Sum.inr (false, ()))) (sel (decide (r_2.2.1 = 0)) (sel (decide (0 ≤ v1)) (sel (decide (v1 < Int.ofNat v0.length))
 (ocall (G10 k ((r_2.1.1, r_2.1.2.1, ()), ((v0.getD v1.toNat ((0, [], ()), 0, [], 0, [], 0, 0, ())).1.1, (v0.getD v1.toNat ((0, [], ()), 0, [], 0, [], 0, 0, ())).1.2.1, ()), ())) fun r_6 => sel (!r_6.2.1) (some (Sum.inr (false, ())))
 (sel (decide (0 ≤ v1)) (sel (decide (v1 < Int.ofNat v0.length)) (sel (!(sameI r_6.1.1.1 (v0.getD v1.toNat ((0, [], ()), 0, [], 0, [], 0, 0, ())).1.1 && (sameS r_6.1.1.2.1 (v0.getD v1.toNat ((0, [], ()), 0, [], 0, [], 0, 0, ())).1.2.1 && true) && (sameI r_6.1.2.1
 (v0.getD v1.toNat ((0, [], ()), 0, [], 0, [], 0, 0, ())).2.1 && (sameS r_6.1.2.2.1 (v0.getD v1.toNat ((0, [], ()), 0, [], 0, [], 0, 0, ())).2.2.1 && (sameI r_6.1.2.2.2.1 (v0.getD v1.toNat ((0, [], ()), 0, [], 0, [], 0, 0, ())).2.2.2.1 && (sameS
 r_6.1.2.2.2.2.1 (v0.getD v1.toNat ((0, [], ()), 0, [], 0, [], 0, 0, ())).2.2.2.2.1 && (sameI r_6.1.2.2.2.2.2.1 (v0.getD v1.toNat ((0, [], ()), 0, [], 0, [], 0, 0, ())).2.2.2.2.2.1 && (sameI r_6.1.2.2.2.2.2.2.1 (v0.getD v1.toNat ((0, [], ()), 0, [], 0, [], 0,
 0, ())).2.2.2.2.2.2.1 && true)))))))) (some (Sum.inr (false, ()))) (ocall (G9 k ((r_2.1.1, r_2.1.2.1, ()), ())) fun r_7 => sel (!decide (Int.ofNat r_7.1.length = IntKind.i64.wrap (Int.ofNat r.1.length + 1))) (some (Sum.inr (false, ()))) (G3_10 k j (v0,
 IntKind.i64.wrap (v1 + 1), r_2.1.1, r_2.1.2.1, r_3.1.1, r_3.1.2.1, ())))) none) none)) none) none) (G3_10 k j (v0, IntKind.i64.wrap (v1 + 1), r_2.1.1, r_2.1.2.1, r_3.1.1, r_3.1.2.1, ())))))))) none) none) none) none) none) none) none) none) (some (Sum.inl (v2, v3, v4, v5,
 ()))) := by kernel_rfl
noncomputable def G3 (k : Nat) (v : Int × Int × Int × List ((Int × List UInt8 × Unit) × Int × List UInt8 × Int × List UInt8 × Int × Int × Unit) × Unit) : Option (Bool × Unit) := F3 k v
theorem G3_eq (k : Nat) (v0 v1 v2 : Int) (v3 : List ((Int × List UInt8 × Unit) × Int × List UInt8 × Int × List UInt8 × Int × Int × Unit)) : G3 k (v0, v1, v2, v3, ()) = ocall (G6 k ()) fun r => sel (!r.1) (some (false, ())) (sel (decide (60 < Int.ofNat v3.length)) (some
 (true, ())) (ocall (G7 k (v3, ())) fun r => sel (!r.1) (some (true, ())) (ocall (G8 k ((IntKind.i64.wrap v0).tmod 129, IntKind.i64.wrap ((IntKind.i64.wrap v1).tmod 16 + 1), ())) fun r => ocall (G8 k ((IntKind.i64.wrap v0).tmod 129, IntKind.i64.wrap ((IntKind.i64.wrap
 v2).tmod 16 + 1), ())) fun r_1 => sel (!decide (r.2.1 = 0)) (some (false, ())) (sel (!decide (r_1.2.1 = 0)) (some (false, ())) (ocall (G3_10 k k (v3, 0, r.1.1, r.1.2.1, r_1.1.1, r_1.1.2.1, ())) fun e => esel e (fun v => ocall (G9 k ((v.1, v.2.1, ()),
 ())) fun r => ocall (G9 k ((v.2.2.1, v.2.2.2.1, ()), ())) fun r_2 => ocall (G14 k (r.1, r_2.1, ())) fun r => sel r.1 (ocall (G9 k ((v.1, v.2.1, ()), ())) fun r => some (decide (Int.ofNat r.1.length ≤ v.1), ())) (some (false, ()))) fun e
 => some (e.1, ())))))) := by kernel_rfl
end Go.Proofs.YtcgnmecbdleehaaDoor.G
end
section
set_option linter.unusedVariables false
set_option linter.unusedSimpArgs false
set_option maxRecDepth 100000
namespace Go.Proofs.YtcgnmecbdleehaaDoor.G
open Go Go.Proofs.YtcgnmecbdleehaaDoor Th
theorem bl_eq : ∀ (x y : Txt), Go.Op.bytesLess x y = decide (x < y)
  | [], [] => by simp [Go.Op.bytesLess]
  | [], b :: t => by simp [Go.Op.bytesLess]
  | a :: s, [] => by simp [Go.Op.bytesLess]
  | a :: s, b :: t => by
    simp only [Go.Op.bytesLess, List.cons_lt_cons_iff, bl_eq s t]
    by_cases h : a = b
    · subst h; simp
    · by_cases h2 : a < b
      · simp [h, h2]
      · simp [h, h2]
theorem bl_irrefl (s : Txt) : Go.Op.bytesLess s s = false := by rw [bl_eq, decide_eq_false]; exact List.lt_irrefl s
theorem bl_trans {s t u : Txt} (h1 : Go.Op.bytesLess s t = true) (h2 : Go.Op.bytesLess t u = true) : Go.Op.bytesLess s u = true := by
  rw [bl_eq, decide_eq_true_eq] at h1 h2 ⊢
  exact List.lt_trans h1 h2
theorem bl_asymm {s t : Txt} (h : Go.Op.bytesLess s t = true) : Go.Op.bytesLess t s = false := by
  cases h2 : Go.Op.bytesLess t s with
  | false => rfl
  | true => have := bl_trans h h2; rw [bl_irrefl] at this; cases this
theorem bl_tri {s t : Txt} (h : Go.Op.bytesLess s t = false) (hne : s ≠ t) : Go.Op.bytesLess t s = true := by
  rw [bl_eq, decide_eq_false_iff_not] at h
  rw [bl_eq, decide_eq_true_eq]
  have := List.not_lt.1 h
  rcases List.le_iff_lt_or_eq.1 this with h2 | h2
  · exact h2
  · exact absurd h2.symm hne
def ordS (s t : Txt) : Int := if Go.Op.bytesLess s t = true then -1 else if s = t then 0 else 1
def ordK (a b : Key) : Int := if a.1 < b.1 then -1 else if b.1 < a.1 then 1 else ordS a.2.1 b.2.1
theorem G65_is (k : Nat) (a b : Int) : G65 k (a, b, ()) = some (if a < b then -1 else if b < a then 1 else 0, ()) := by
  rw [G65_eq, G99_eq, ocall_some, G99_eq, ocall_some]
  simp only [decide_true, Bool.not_true, sel_false, sel_dec]
  by_cases h : a < b
  · simp [h]
  · by_cases h2 : b < a <;> simp [h, h2]
theorem G66_is (k : Nat) (a b : Txt) : G66 k (a, b, ()) = some (ordS a b, ()) := by
  rw [G66_eq, G100_eq, ocall_some, G100_eq, ocall_some]
  simp only [decide_true, Bool.not_true, sel_false]
  unfold ordS
  cases Go.Op.bytesLess a b with
  | true => rfl
  | false =>
    simp only [Bool.false_or, sel_false, Bool.false_eq_true, if_false]
    by_cases h : a = b
    · rw [decide_eq_true h, if_pos h]; rfl
    · rw [decide_eq_false h, if_neg h]; rfl
theorem G64_is (k : Nat) (hk : 2 < k) (a b : Int) : G64 k ([a, b], ()) = some (if a = 0 then b else a, ()) := by
  obtain ⟨k, rfl⟩ : ∃ m, k = m + 3 := ⟨k - 3, by omega⟩
  rw [G64_eq]
  have e2 : Int.ofNat ([a, b] : List Int).length = 2 := rfl
  simp only [e2]
  rw [show k + 3 = (k + 2) + 1 by omega, G64_3_eq]
  (try simp only [])
  have e3 : Int.ofNat ([a, b] : List Int).length = 2 := rfl
  rw [e3, sel_pos (by omega), sel_pos (by omega), sel_pos (by omega)]
  have g0 : ([a, b] : List Int).getD (Int.toNat 0) (OfNat.ofNat 0) = a := rfl
  rw [g0]
  by_cases h : a = 0
  · subst h
    have ed : (!decide ((0 : Int) = 0)) = false := rfl
    rw [ed, sel_false, if_pos rfl, wrap64 (by omega) (by omega), show k + 2 = (k + 1) + 1 by omega, G64_3_eq]
    (try simp only [])
    rw [e3, sel_pos (by omega), sel_pos (by omega), sel_pos (by omega)]
    have g1 : ([0, b] : List Int).getD (Int.toNat (0 + 1)) (OfNat.ofNat 0) = b := rfl
    rw [g1]
    by_cases h2 : b = 0
    · subst h2
      rw [ed, sel_false, wrap64 (by omega) (by omega), G64_3_eq]
      (try simp only [])
      rw [e3, sel_neg (by omega), ocall_some]
      rfl
    · rw [decide_eq_false h2]; rfl
  · rw [decide_eq_false h, if_neg h]; rfl
theorem G32_is (k : Nat) (hk : 2 < k) (a b : Key) : G32 k (a, b, ()) = some (ordK a b, ()) := by
  obtain ⟨a1, a2, ⟨⟩⟩ := a
  obtain ⟨b1, b2, ⟨⟩⟩ := b
  rw [G32_eq]
  (try simp only [])
  rw [G65_is, ocall_some, G66_is, ocall_some, G64_is k hk, ocall_some]
  unfold ordK
  (try simp only [])
  by_cases h : a1 < b1
  · simp [h]
  · by_cases h2 : b1 < a1 <;> simp [h, h2]
theorem sameK (a b : Key) : (sameI a.1 b.1 && (sameS a.2.1 b.2.1 && true)) = decide (a = b) := by
  obtain ⟨a1, a2, ⟨⟩⟩ := a
  obtain ⟨b1, b2, ⟨⟩⟩ := b
  simp [sameI, sameS]
theorem ordK_zero {a b : Key} : ordK a b = 0 ↔ a = b := by
  obtain ⟨a1, a2, ⟨⟩⟩ := a
  obtain ⟨b1, b2, ⟨⟩⟩ := b
  unfold ordK ordS
  simp only [Prod.mk.injEq, and_true]
  constructor
  · intro h
    split at h
    · cases h
    · split at h
      · cases h
      · split at h
        · cases h
        · split at h
          · rename_i e; exact ⟨by omega, e⟩
          · cases h
  · rintro ⟨rfl, rfl⟩
    rw [if_neg (by omega), if_neg (by omega), bl_irrefl]; simp
theorem ordS_flip (s t : Txt) : ordS t s = - ordS s t := by
  unfold ordS
  cases h : Go.Op.bytesLess s t with
  | true =>
    rw [bl_asymm h]
    by_cases e : t = s
    · subst e; rw [bl_irrefl] at h; cases h
    · simp [e]
  | false =>
    by_cases e : s = t
    · subst e; simp [h]
    · rw [bl_tri h e]; simp [e]
theorem ordK_flip (a b : Key) : ordK b a = - ordK a b := by
  unfold ordK
  by_cases h : a.1 < b.1
  · rw [if_pos h, if_neg (by omega), if_pos h]; rfl
  · by_cases h2 : b.1 < a.1
    · rw [if_pos h2, if_neg h, if_pos h2]
    · rw [if_neg h2, if_neg h, if_neg h, if_neg h2]; exact ordS_flip _ _
theorem ordK_cases (a b : Key) : ordK a b = -1 ∨ ordK a b = 0 ∨ ordK a b = 1 := by
  unfold ordK ordS
  repeat' split
  all_goals simp
theorem ordK_neg {a b : Key} : ordK a b = -1 ↔ a.1 < b.1 ∨ (a.1 = b.1 ∧ Go.Op.bytesLess a.2.1 b.2.1 = true) := by
  unfold ordK ordS
  constructor
  · intro h
    split at h
    · exact .inl (by assumption)
    · split at h
      · cases h
      · split at h
        · exact .inr ⟨by omega, by assumption⟩
        · split at h <;> cases h
  · rintro (h | ⟨h, h2⟩)
    · rw [if_pos h]
    · rw [if_neg (by omega), if_neg (by omega), if_pos h2]
theorem ordK_trans {a b c : Key} (h1 : ordK a b = -1) (h2 : ordK b c = -1) : ordK a c = -1 := by
  rw [ordK_neg] at h1 h2 ⊢
  rcases h1 with h1 | ⟨h1, h3⟩
  · rcases h2 with h2 | ⟨h2, _⟩ <;> exact .inl (by omega)
  · rcases h2 with h2 | ⟨h2, h4⟩
    · exact .inl (by omega)
    · exact .inr ⟨by omega, bl_trans h3 h4⟩
def keyOK (a : Key) : Bool := decide (a.1 ≤ 999999) && rightF 37 a.2.1
theorem ack_ok (a : Key) : dealOK (7, [], 0, a.1, a.2.1, [48, 48], ()) = keyOK a := by
  unfold dealOK keyOK
  have h1 : asksK 7 = false := rfl
  have h2 : rightF 39 [48, 48] = true := by decide
  simp only [h1, h2]
  simp
theorem G38_is (k L : Nat) (hL : L ≤ 1000000) (hk : L + 100 < k) (a : Key) (hl : a.2.1.length ≤ L) (h2 : 2 ≤ L) (hg : 0 ≤ a.1 ∧ a.1 ≤ 4294967295) : G38 k (a, ()) = some (keyOK a, ()) := by
  rw [G38_eq]
  (try simp only [])
  rw [G71_is k L hL hk (7, [], 0, a.1, a.2.1, [48, 48], ()) ⟨Nat.zero_le _, hl, h2⟩ ⟨⟨Int.le_refl 0, show (0 : Int) ≤ 18446744073709551615 by decide⟩, hg⟩, ocall_some, ack_ok]
def hstep (h : Nat) (c : UInt8) : Nat := (h ^^^ c.toNat) * 16777619 % 4294967296
def hsh (s : Txt) : Nat := s.foldl hstep 2166136261
theorem bits32 {x y : Nat} (hx : x < 4294967296) (hy : y < 4294967296) : bits .xor .u32 (x : Int) (y : Int) = ((x ^^^ y : Nat) : Int) := by
  have hb : (x ^^^ y) < 2 ^ 32 := Nat.xor_lt_two_pow (by omega) (by omega)
  have e : (BitVec.ofInt 32 (x : Int) ^^^ BitVec.ofInt 32 (y : Int)).toNat = x ^^^ y := by
    rw [BitVec.toNat_xor, BitVec.ofInt_natCast, BitVec.ofInt_natCast, BitVec.toNat_ofNat, BitVec.toNat_ofNat, Nat.mod_eq_of_lt (by omega), Nat.mod_eq_of_lt (by omega)]
  show IntKind.u32.wrap (((BitVec.ofInt 32 (x : Int) ^^^ BitVec.ofInt 32 (y : Int)).toNat : Nat) : Int) = _
  rw [e]
  exact wrapu32 (by omega) (by omega)
theorem hstep_lt (h : Nat) (c : UInt8) : hstep h c < 4294967296 := Nat.mod_lt _ (by omega)
theorem c_lt (c : UInt8) : c.toNat < 256 := c.toNat_lt
theorem xor_le {h : Nat} (hh : h < 4294967296) (c : UInt8) : (h ^^^ c.toNat) < 4294967296 := by
  have := c_lt c
  exact Nat.xor_lt_two_pow (n := 32) (by omega) (by omega)
theorem step32 {h : Nat} (hh : h < 4294967296) (c : UInt8) : IntKind.u32.wrap (bits .xor .u32 (h : Int) (IntKind.u32.wrap ((c.toNat : Nat) : Int)) * 16777619) = ((hstep h c : Nat) : Int) := by
  have := c_lt c
  have hx := xor_le hh c
  rw [wrapu32 (n := ((c.toNat : Nat) : Int)) (by omega) (by omega), bits32 hh (by omega)]
  unfold hstep IntKind.wrap
  simp only [IntKind.bits, IntKind.signed]
  simp
theorem foldl_lt (s : Txt) : ∀ h : Nat, h < 4294967296 → s.foldl hstep h < 4294967296 := by
  induction s with
  | nil => intro h hh; exact hh
  | cons c s ih => intro h _; exact ih _ (hstep_lt h c)
theorem toBytes_get {s : Txt} {i : Nat} (h : i < s.length) (d : Int) : (toBytes s).getD i d = ((s[i].toNat : Nat) : Int) := by
  have h2 : i < (toBytes s).length := by simpa [toBytes] using h
  rw [getD_of h2]; simp [toBytes]
theorem G43_6_is (k : Nat) (m : Int) (s : Txt) (hs : s.length ≤ 1000000000) : ∀ (j i h : Nat), i + j = s.length → h < 4294967296 → ∀ n, j < n →
    G43_6 k n (m, (h : Int), toBytes s, (s.length : Int), (i : Int), ()) = some (m, (((s.drop i).foldl hstep h : Nat) : Int), ()) := by
  intro j
  induction j with
  | zero =>
    intro i h hij hh n hn
    obtain ⟨n, rfl⟩ : ∃ m, n = m + 1 := ⟨n - 1, by omega⟩
    rw [G43_6_eq, sel_neg (by (try simp only []); omega), List.drop_eq_nil_of_le (by omega)]
    rfl
  | succ j ih =>
    intro i h hij hh n hn
    obtain ⟨n, rfl⟩ : ∃ m, n = m + 1 := ⟨n - 1, by omega⟩
    have hlt : i < s.length := by omega
    have hl : (toBytes s).length = s.length := by simp [toBytes]
    rw [G43_6_eq]
    simp only [ofNat_len, Int.toNat_natCast, hl, toBytes_get hlt]
    rw [sel_pos (by omega), sel_pos (by omega), sel_pos (by omega), sel_pos hlt, drop_at hlt, List.foldl_cons, step32 hh, wrap64 (by omega) (by omega)]
    exact ih (i + 1) (hstep h s[i]) (by omega) (hstep_lt _ _) n (by omega)
def shardK (a : Key) (many : Int) : Int := if keyOK a = true ∧ 1 ≤ many ∧ many ≤ 16 then ((hsh (stanT a.1 ++ a.2.1) : Nat) : Int) % many else -1
theorem tmod_nat (h : Nat) {m : Int} (hm : 0 < m) : ((h : Nat) : Int).tmod m = ((h : Nat) : Int) % m := Int.tmod_eq_emod_of_nonneg (by omega)
theorem stanT_len (x : Int) : (stanT x).length ≤ 19 := putOK_le _ _
theorem G43_is (k L : Nat) (hL : L ≤ 1000000) (hk : L + 100 < k) (h2 : 2 ≤ L) (a : Key) (many : Int) (hl : a.2.1.length ≤ L) (hg : 0 ≤ a.1 ∧ a.1 ≤ 4294967295) : G43 k (a, many, ()) = some (shardK a many, ()) := by
  obtain ⟨st, rrn, ⟨⟩⟩ := a
  (try simp only [] at hl hg)
  rw [G43_eq]
  (try simp only [])
  rw [G38_is k L hL hk (st, rrn, ()) hl h2 hg, ocall_some]
  unfold shardK
  (try simp only [])
  cases hok : keyOK (st, rrn, ()) with
  | false => simp
  | true =>
    simp only [Bool.not_true, sel_false]
    by_cases c1 : many < 1
    · rw [sel_pos c1, if_neg (by rintro ⟨_, h, _⟩; omega)]
    rw [sel_neg c1]
    by_cases c2 : 16 < many
    · rw [sel_pos c2, if_neg (by rintro ⟨_, _, h⟩; omega)]
    have hst := stanT_len st
    have hln : (stanT st ++ rrn).length ≤ L + 19 := by simp; omega
    have hlb : (toBytes (stanT st ++ rrn)).length = (stanT st ++ rrn).length := by simp [toBytes]
    rw [sel_neg c2, wrapu64 (by omega) (by omega), put_is k (by omega) st 6 (by omega) (by omega), ocall_some, if_pos ⟨trivial, by omega, by omega⟩]
    show sel (decide ((stanT st).length + rrn.length ≤ 140737488355328)) _ _ = _
    rw [sel_pos (by omega)]
    have := G43_6_is k many (stanT st ++ rrn) (by omega) (stanT st ++ rrn).length 0 2166136261 (by omega) (by omega) k (by omega)
    unfold stanT at hlb this
    simp only [ofNat_len, hlb, List.drop_zero, Int.natCast_zero] at this ⊢
    rw [show ((2166136261 : Nat) : Int) = 2166136261 from rfl] at this
    rw [this, ocall_some]
    (try simp only [])
    rw [wrapu32 (by omega) (by omega), decide_eq_false (by omega)]
    simp only [Bool.not_false, sel_true]
    rw [tmod_nat _ (by omega)]
    have hb := foldl_lt ((putOK st.toNat 6).1 ++ rrn) 2166136261 (by omega)
    have hm : (((((putOK st.toNat 6).1 ++ rrn).foldl hstep 2166136261 : Nat) : Int) % many) < 16 := by
      have := Int.emod_lt_of_pos (((((putOK st.toNat 6).1 ++ rrn).foldl hstep 2166136261 : Nat) : Int)) (show 0 < many by omega)
      omega
    have hm0 := Int.emod_nonneg (((((putOK st.toNat 6).1 ++ rrn).foldl hstep 2166136261 : Nat) : Int)) (show many ≠ 0 by omega)
    rw [wrap64 (by omega) (by omega)]
    rfl
end Go.Proofs.YtcgnmecbdleehaaDoor.G
end
section
set_option linter.unusedVariables false
set_option linter.unusedSimpArgs false
set_option maxRecDepth 100000
namespace Go.Proofs.YtcgnmecbdleehaaDoor.G
open Go Go.Proofs.YtcgnmecbdleehaaDoor Th
abbrev Entry := Key × Int × Txt × Int × Txt × Int × Int × Unit
def stagedOK (state : Int) (code : Txt) (tries cause : Int) : Bool :=
  if state = 1 then decide (tries = 0) && decide (cause = 0) && decide (code = [])
  else if state = 2 then decide (tries = 0) && decide (cause = 0) && decide (code = [48, 48])
  else if state = 3 then decide (tries = 0) && decide (cause = 0) && !decide (code = [48, 48]) && rightF 39 code
  else if state = 4 ∨ state = 5 ∨ state = 6 then rightF 39 code && decide (0 ≤ tries) && decide (tries ≤ 16) && decide (cause = 1 ∨ cause = 2)
  else false
def entryOK (e : Entry) : Bool := keyOK e.1 && isFine e.2.2.1 && decide (e.2.2.1.length < 20) && decide (e.2.2.2.1 < 1000000000000) && stagedOK e.2.1 e.2.2.2.2.1 e.2.2.2.2.2.1 e.2.2.2.2.2.2.1
theorem G41_is (k : Nat) (hk : 20 < k) (key : Key) (state : Int) (pan : Txt) (amt : Int) (code : Txt) (tries cause : Int) (hc : code.length ≤ 1000000) (hck : code.length < k) :
    G41 k ((key, state, pan, amt, code, tries, cause, ()), ()) = some (stagedOK state code tries cause, ()) := by
  have hr := G40_is k hk 39 code (by rw [maxLen_eq]; omega) hck
  rw [G41_eq]
  unfold stagedOK
  (try simp only [])
  have tail : ∀ b : Bool, sel b (sel (decide (0 ≤ tries)) (sel (decide (tries ≤ 16)) (sel (decide (cause = 1)) (some (true, ())) (some (decide (cause = 2), ()))) (some (false, ()))) (some (false, ()))) (some (false, ())) =
      some (b && decide (0 ≤ tries) && decide (tries ≤ 16) && decide (cause = 1 ∨ cause = 2), ()) := by
    intro b
    cases b with
    | false => rfl
    | true =>
      by_cases h0 : 0 ≤ tries <;> by_cases h1 : tries ≤ 16 <;> by_cases h2 : cause = 1 <;> simp [sel_dec, h0, h1, h2]
  simp only [hr, ocall_some, tail]
  by_cases h4 : state < 4
  · rw [sel_pos h4]
    by_cases ht : tries = 0
    · by_cases hu : cause = 0
      · rw [decide_eq_true ht, decide_eq_true hu]
        simp only [Bool.not_true, sel_false, Bool.true_and]
        by_cases h1 : state = 1
        · rw [sel_pos h1, if_pos h1]
        rw [sel_neg h1, if_neg h1]
        by_cases h2 : state = 2
        · rw [sel_pos h2, if_pos h2]
        rw [sel_neg h2, if_neg h2]
        by_cases h3 : state = 3
        · rw [sel_pos h3, if_pos h3]
          cases decide (code = [48, 48]) <;> rfl
        rw [sel_neg h3, if_neg h3, sel_neg (by omega), sel_neg (by omega), sel_neg (by omega), if_neg (by omega)]
      · rw [decide_eq_true ht, decide_eq_false hu]
        simp only [Bool.not_true, sel_false, Bool.not_false, sel_true, Bool.and_false, Bool.false_and]
        rw [if_neg (show ¬ (state = 4 ∨ state = 5 ∨ state = 6) by omega)]
        simp
    · rw [decide_eq_false ht]
      simp only [Bool.not_false, sel_true, Bool.false_and]
      rw [if_neg (show ¬ (state = 4 ∨ state = 5 ∨ state = 6) by omega)]
      simp
  · rw [sel_neg h4, sel_neg (by omega), sel_neg (by omega), sel_neg (by omega), if_neg (by omega), if_neg (by omega), if_neg (by omega)]
    by_cases h44 : state = 4
    · rw [sel_pos h44, sel_pos h44, if_pos (.inl h44)]
    rw [sel_neg h44]
    by_cases h5 : state = 5
    · rw [sel_pos h5, sel_pos h5, if_pos (.inr (.inl h5))]
    rw [sel_neg h5]
    by_cases h6 : state = 6
    · rw [sel_pos h6, if_pos (.inr (.inr h6))]
    rw [sel_neg h6, if_neg (by omega)]
def goodE (e : Entry) : Prop := (0 ≤ e.1.1 ∧ e.1.1 ≤ 4294967295) ∧ 0 ≤ e.2.2.2.1 ∧ e.2.2.2.1 ≤ 18446744073709551615
def lensE (L : Nat) (e : Entry) : Prop := e.1.2.1.length ≤ L ∧ e.2.2.1.length ≤ L ∧ e.2.2.2.2.1.length ≤ L
theorem G12_is (k L : Nat) (h2 : 2 ≤ L) (hL : L ≤ 1000000) (hk : L + 100 < k) (e : Entry) (hl : lensE L e) (hg : goodE e) : G12 k (e, ()) = some (entryOK e, ()) := by
  obtain ⟨⟨ks, kr, ⟨⟩⟩, state, pan, amt, code, tries, cause, ⟨⟩⟩ := e
  obtain ⟨l1, l2, l3⟩ := hl
  (try simp only [] at l1 l2 l3)
  rw [G12_eq]
  unfold entryOK
  (try simp only [])
  rw [G38_is k L hL hk (ks, kr, ()) l1 h2 hg.1, ocall_some]
  (try simp only [])
  generalize keyOK (ks, kr, ()) = b1
  cases b1 with
  | false => rfl
  | true =>
    simp only [sel_true, Bool.true_and]
    rw [G39_is k pan (by omega) (by omega), ocall_some]
    cases hf : isFine pan with
    | false => rfl
    | true =>
      simp only [sel_true, Bool.true_and]
      rw [G40_is k (by omega) 2 pan (by rw [maxLen_eq]; omega) (by omega), ocall_some, rf2_fine hf]
      cases decide (pan.length < 20) with
      | false => rfl
      | true =>
        simp only [sel_true, Bool.true_and]
        by_cases ha : amt < 1000000000000
        · rw [sel_pos ha, decide_eq_true ha, G41_is k (by omega) (ks, kr, ()) state pan amt code tries cause (by omega) (by omega), ocall_some]; rfl
        · rw [sel_neg ha, decide_eq_false ha]; rfl
def zeroE : Entry := ((0, [], ()), 0, [], 0, [], 0, 0, ())
set_option synthInstance.maxSize 4000 in
set_option synthInstance.maxHeartbeats 400000 in
instance decE : DecidableEq Entry := fun a b => inferInstanceAs (Decidable ((a : (Int × Txt × Unit) × Int × Txt × Int × Txt × Int × Int × Unit) = b))
theorem sameE (a b : Entry) : (sameI a.1.1 b.1.1 && (sameS a.1.2.1 b.1.2.1 && true) && (sameI a.2.1 b.2.1 && (sameS a.2.2.1 b.2.2.1 && (sameI a.2.2.2.1 b.2.2.2.1 && (sameS a.2.2.2.2.1 b.2.2.2.2.1 && (sameI a.2.2.2.2.2.1 b.2.2.2.2.2.1 && (sameI a.2.2.2.2.2.2.1 b.2.2.2.2.2.2.1 && true))))))) = decide (a = b) := by
  obtain ⟨⟨a1, a2, ⟨⟩⟩, a3, a4, a5, a6, a7, a8, ⟨⟩⟩ := a
  obtain ⟨⟨b1, b2, ⟨⟩⟩, b3, b4, b5, b6, b7, b8, ⟨⟩⟩ := b
  simp only [sameI, sameS]
  by_cases h : (((a1, a2, ()), a3, a4, a5, a6, a7, a8, ()) : Entry) = ((b1, b2, ()), b3, b4, b5, b6, b7, b8, ())
  · rw [decide_eq_true h]
    simp only [Prod.mk.injEq, and_true] at h
    obtain ⟨⟨h1, h2⟩, h3, h4, h5, h6, h7, h8⟩ := h
    simp [h1, h2, h3, h4, h5, h6, h7, h8]
  · rw [decide_eq_false h]
    simp only [Prod.mk.injEq, and_true] at h
    cases hb : (decide (a1 = b1) && (decide (a2 = b2) && true) && (decide (a3 = b3) && (decide (a4 = b4) && (decide (a5 = b5) && (decide (a6 = b6) && (decide (a7 = b7) && (decide (a8 = b8) && true))))))) with
    | false => rfl
    | true =>
      exfalso
      simp only [Bool.and_eq_true, decide_eq_true_eq, and_true] at hb
      exact h ⟨hb.1, hb.2⟩
end Go.Proofs.YtcgnmecbdleehaaDoor.G
end
section
set_option linter.unusedVariables false
set_option linter.unusedSimpArgs false
set_option maxRecDepth 100000
namespace Go.Proofs.YtcgnmecbdleehaaDoor.G
open Go Go.Proofs.YtcgnmecbdleehaaDoor Th
def ordered : List Entry → Bool
  | [] => true
  | [_] => true
  | a :: b :: t => decide (ordK a.1 b.1 = -1) && ordered (b :: t)
theorem ordered_tail {a : Entry} {l : List Entry} (h : ordered (a :: l) = true) : ordered l = true := by
  cases l with
  | nil => rfl
  | cons b t => simp only [ordered, Bool.and_eq_true] at h; exact h.2
theorem ordered_lt {a : Entry} : ∀ {l : List Entry}, ordered (a :: l) = true → ∀ x ∈ l, ordK a.1 x.1 = -1 := by
  intro l
  induction l generalizing a with
  | nil => intro _ x hx; cases hx
  | cons b t ih =>
    intro h x hx
    simp only [ordered, Bool.and_eq_true, decide_eq_true_eq] at h
    rcases List.mem_cons.1 hx with rfl | hx
    · exact h.1
    · exact ordK_trans h.1 (ih h.2 x hx)
theorem ordered_cons {a : Entry} {l : List Entry} (h : ordered l = true) (h2 : ∀ x ∈ l, ordK a.1 x.1 = -1) : ordered (a :: l) = true := by
  cases l with
  | nil => rfl
  | cons b t => simp only [ordered, Bool.and_eq_true, decide_eq_true_eq]; exact ⟨h2 b (List.mem_cons_self ..), h⟩
theorem ordered_get : ∀ {l : List Entry}, ordered l = true → ∀ (x y : Nat) (hxy : x < y) (hy : y < l.length), ordK (l[x]'(Nat.lt_trans hxy hy)).1 l[y].1 = -1 := by
  intro l
  induction l with
  | nil => intro _ x y _ hy; exact absurd hy (Nat.not_lt_zero _)
  | cons a t ih =>
    intro h x y hxy hy
    obtain ⟨y, rfl⟩ : ∃ m, y = m + 1 := ⟨y - 1, by omega⟩
    have hy' : y < t.length := by simpa using hy
    cases x with
    | zero => exact ordered_lt h t[y] (List.getElem_mem hy')
    | succ x => exact ih (ordered_tail h) x y (by omega) hy'
def shardOK (l : List Entry) : Bool := l.all entryOK && ordered l && decide (l.length ≤ 128)
def goodL (l : List Entry) : Prop := ∀ e ∈ l, goodE e
def lensL (l : List Entry) : Prop := ∀ e ∈ l, lensE 300 e
theorem shard_loop (k : Nat) (hk : 1000 < k) (l : List Entry) (hl : lensL l) (hg : goodL l) (hn : l.length ≤ 1000) : ∀ (j i : Nat), i + 1 + j = l.length → ∀ n, j < n →
    G44_g0 k n (l, ((i + 1 : Nat) : Int), ()) = some ((l.drop (i + 1)).all entryOK && ordered (l.drop i) && decide (l.length ≤ 128), ()) := by
  intro j
  induction j with
  | zero =>
    intro i hij n hn'
    obtain ⟨n, rfl⟩ : ∃ m, n = m + 1 := ⟨n - 1, by omega⟩
    have hd : l.drop (i + 1) = [] := List.drop_eq_nil_of_le (by omega)
    rw [G44_g0_eq, sel_pos (by simp only [ofNat_len]; omega), List.drop_eq_getElem_cons (show i < l.length by omega), hd]
    simp only [List.all_nil, ordered, Bool.true_and]
    rw [show decide (((i + 1 : Nat) : Int) ≤ 128) = decide (l.length ≤ 128) from decide_eq_decide.2 (by omega)]
  | succ j ih =>
    intro i hij n hn'
    obtain ⟨n, rfl⟩ : ∃ m, n = m + 1 := ⟨n - 1, by omega⟩
    have hlt : i + 1 < l.length := by omega
    have hlt0 : i < l.length := by omega
    have hm := List.getElem_mem hlt
    have hR : G12 k ((((l[i + 1]).1.1, (l[i + 1]).1.2.1, ()), (l[i + 1]).2.1, (l[i + 1]).2.2.1, (l[i + 1]).2.2.2.1, (l[i + 1]).2.2.2.2.1, (l[i + 1]).2.2.2.2.2.1, (l[i + 1]).2.2.2.2.2.2.1, ()), ()) = _ := G12_is k 300 (by omega) (by omega) (by omega) l[i + 1] (hl _ hm) (hg _ hm)
    have hO : G32 k (((l[i]).1.1, (l[i]).1.2.1, ()), ((l[i + 1]).1.1, (l[i + 1]).1.2.1, ()), ()) = _ := G32_is k (by omega) l[i].1 l[i + 1].1
    have hw : IntKind.i64.wrap (((i + 1 : Nat) : Int) + 1) = ((i + 1 + 1 : Nat) : Int) := by rw [wrap64 (by omega) (by omega)]; omega
    have hw2 : IntKind.i64.wrap (((i + 1 : Nat) : Int) - 1) = (i : Int) := by rw [wrap64 (by omega) (by omega)]; omega
    rw [G44_g0_eq]
    simp only [ofNat_len, hw, hw2, Int.toNat_natCast, getD_of hlt, getD_of hlt0]
    rw [sel_neg (by omega), sel_pos (by omega), sel_pos (by omega), hR, ocall_some]
    have hd0 : l.drop i = l[i] :: l[i + 1] :: l.drop (i + 1 + 1) := by rw [List.drop_eq_getElem_cons hlt0, List.drop_eq_getElem_cons hlt]
    have hi := ih (i + 1) (by omega) n (by omega)
    rw [List.drop_eq_getElem_cons hlt] at hi ⊢
    rw [hd0]
    simp only [List.all_cons, ordered]
    by_cases he : entryOK l[i + 1] = true
    · rw [he]
      simp only [Bool.not_true, sel_false, Bool.true_and]
      rw [sel_pos (by omega), sel_pos (by omega), sel_pos (by omega), sel_pos (by omega), sel_pos (by omega), hO, ocall_some]
      by_cases ho : ordK l[i].1 l[i + 1].1 = -1
      · simp only [ho]
        rw [sel_neg (by decide), hi]
        simp
      · have := ordK_cases l[i].1 l[i + 1].1
        rw [sel_pos (show (0 : Int) ≤ ordK l[i].1 l[i + 1].1 by omega), decide_eq_false ho]
        simp
    · rw [Bool.eq_false_iff.2 he]; rfl
theorem G44_is (k : Nat) (hk : 1000 < k) (l : List Entry) (hl : lensL l) (hg : goodL l) (hn : l.length ≤ 1000) : G44 k (l, ()) = some (shardOK l, ()) := by
  have hlp := shard_loop k hk l hl hg hn
  rw [G44_eq]
  unfold shardOK
  simp only [ofNat_len]
  by_cases h0 : l.length = 0
  · obtain rfl : l = [] := List.eq_nil_of_length_eq_zero h0
    rw [sel_pos (by simp)]; rfl
  have hlt : 0 < l.length := by omega
  have hm := List.getElem_mem hlt
  have e0 : l.getD (Int.toNat 0) ((0, [], ()), 0, [], 0, [], 0, 0, ()) = l[0] := getD_of hlt _
  have hR : G12 k ((((l[0]).1.1, (l[0]).1.2.1, ()), (l[0]).2.1, (l[0]).2.2.1, (l[0]).2.2.2.1, (l[0]).2.2.2.2.1, (l[0]).2.2.2.2.2.1, (l[0]).2.2.2.2.2.2.1, ()), ()) = _ := G12_is k 300 (by omega) (by omega) (by omega) l[0] (hl _ hm) (hg _ hm)
  simp only [e0]
  have hw : IntKind.i64.wrap (0 + 1) = ((0 + 1 : Nat) : Int) := rfl
  rw [sel_neg (by omega), sel_pos (by omega), hR, ocall_some, hw, hlp (l.length - 1) 0 (by omega) k (by omega), ocall_some]
  have hd : l = l[0] :: l.drop 1 := by
    have := List.drop_eq_getElem_cons hlt
    rwa [List.drop_zero] at this
  have ha : l.all entryOK = (entryOK l[0] && (l.drop 1).all entryOK) := by
    conv => lhs; rw [hd]
    rfl
  rw [ha, List.drop_zero]
  by_cases he : entryOK l[0] = true
  · rw [he]; simp
  · rw [Bool.eq_false_iff.2 he]; rfl
end Go.Proofs.YtcgnmecbdleehaaDoor.G
end
section
set_option linter.unusedVariables false
set_option linter.unusedSimpArgs false
set_option maxRecDepth 100000
namespace Go.Proofs.YtcgnmecbdleehaaDoor.G
open Go Go.Proofs.YtcgnmecbdleehaaDoor Th
def ltK (key : Key) (e : Entry) : Bool := decide (ordK e.1 key = -1)
def posE (l : List Entry) (key : Key) : Nat := (l.takeWhile (ltK key)).length
def hasAt (l : List Entry) (key : Key) : Bool := match l[posE l key]? with
  | some e => decide (e.1 = key)
  | none => false
theorem posE_le (l : List Entry) (key : Key) : posE l key ≤ l.length := (List.takeWhile_sublist _).length_le
theorem posE_pos {x : Entry} {t : List Entry} {key : Key} (h : ordK x.1 key = -1) : posE (x :: t) key = posE t key + 1 := by
  unfold posE
  rw [List.takeWhile_cons, if_pos (show ltK key x = true from decide_eq_true h)]; rfl
theorem posE_zero {x : Entry} {t : List Entry} {key : Key} (h : ordK x.1 key ≠ -1) : posE (x :: t) key = 0 := by
  unfold posE
  rw [List.takeWhile_cons, if_neg (show ¬ ltK key x = true from fun e => h (of_decide_eq_true e))]; rfl
theorem posE_of (key : Key) : ∀ (l : List Entry) (i : Nat), i ≤ l.length → (∀ x (hx : x < l.length), x < i → ordK l[x].1 key = -1) → (∀ x (hx : x < l.length), i ≤ x → ordK l[x].1 key ≠ -1) → posE l key = i := by
  intro l
  induction l with
  | nil => intro i hi _ _; have : i = 0 := by simpa using hi
           rw [this]; rfl
  | cons a t ih =>
    intro i hi h1 h2
    cases i with
    | zero => exact posE_zero (h2 0 (by simp) (Nat.le_refl _))
    | succ i =>
      rw [posE_pos (x := a) (t := t) (h1 0 (by simp) (by omega)), ih i (by simpa using hi) (fun x hx hxi => h1 (x + 1) (by simpa using hx) (by omega)) (fun x hx hxi => h2 (x + 1) (by simpa using hx) (by omega))]
theorem mid_is (i j : Nat) (h : i + j ≤ 100000) : IntKind.i64.wrap ((IntKind.u64.wrap (IntKind.i64.wrap ((i : Int) + (j : Int)))).fdiv (2 ^ min (Int.toNat 1) 64)) = (((i + j) / 2 : Nat) : Int) := by
  have e2 : (2 : Int) ^ min (Int.toNat 1) 64 = 2 := by rfl
  rw [e2, wrap64 (n := (i : Int) + (j : Int)) (by omega) (by omega), wrapu64 (by omega) (by omega), Int.fdiv_eq_ediv_of_nonneg _ (by omega), wrap64 (by omega) (by omega)]
  omega
theorem bs_loop (k : Nat) (hk : 2 < k) (l : List Entry) (hn : l.length ≤ 1000) (ho : ordered l = true) (key : Key) (v1 : Int) : ∀ (d i j : Nat), i ≤ j → j ≤ l.length → j - i ≤ d → (∀ x (hx : x < l.length), x < i → ordK l[x].1 key = -1) → (∀ x (hx : x < l.length), j ≤ x → ordK l[x].1 key ≠ -1) → ∀ n, d < n →
    G7000010_3 k n (l, (), v1, (i : Int), (j : Int), key.1, key.2.1, ()) = some (l, (), v1, ((posE l key : Nat) : Int), key.1, key.2.1, ()) := by
  intro d
  induction d with
  | zero =>
    intro i j hij hj hd h1 h2 n hn'
    obtain ⟨n, rfl⟩ : ∃ m, n = m + 1 := ⟨n - 1, by omega⟩
    obtain rfl : i = j := by omega
    rw [G7000010_3_eq, sel_neg (by omega), posE_of key l i hj h1 h2]
  | succ d ih =>
    intro i j hij hj hd h1 h2 n hn'
    obtain ⟨n, rfl⟩ : ∃ m, n = m + 1 := ⟨n - 1, by omega⟩
    rw [G7000010_3_eq]
    by_cases hlt : i < j
    case neg =>
      obtain rfl : i = j := by omega
      rw [sel_neg (by omega), posE_of key l i hj h1 h2]
    have hm : (i + j) / 2 < l.length := by omega
    have hm1 : i ≤ (i + j) / 2 := by omega
    have hm2 : (i + j) / 2 < j := by omega
    simp only [mid_is i j (by omega)]
    generalize (i + j) / 2 = h at hm hm1 hm2
    have hC : G102 k ((((l[h]).1.1, (l[h]).1.2.1, ()), (l[h]).2.1, (l[h]).2.2.1, (l[h]).2.2.2.1, (l[h]).2.2.2.2.1, (l[h]).2.2.2.2.2.1, (l[h]).2.2.2.2.2.2.1, ()), (key.1, key.2.1, ()), ()) = some (ordK l[h].1 key, ()) := by
      rw [G102_eq]
      rw [show G32 k (((l[h]).1.1, (l[h]).1.2.1, ()), (key.1, key.2.1, ()), ()) = _ from G32_is k hk l[h].1 key, ocall_some]
    simp only [ofNat_len, Int.toNat_natCast, getD_of hm]
    rw [sel_pos (by omega), sel_pos (by omega), sel_pos (by omega), hC, ocall_some]
    have hw : IntKind.i64.wrap ((h : Int) + 1) = ((h + 1 : Nat) : Int) := by rw [wrap64 (by omega) (by omega)]; omega
    have hcs := ordK_cases l[h].1 key
    by_cases c : ordK l[h].1 key = -1
    · rw [sel_pos (show ordK l[h].1 key < 0 by omega), hw]
      refine ih (h + 1) j (by omega) hj (by omega) (fun x hx hxi => ?_) h2 n (by omega)
      rcases Nat.lt_or_eq_of_le (Nat.le_of_lt_succ hxi) with c2 | c2
      · exact ordK_trans (ordered_get ho x h c2 hm) c
      · simp only [c2]; exact c
    · rw [sel_neg (show ¬ ordK l[h].1 key < 0 by omega)]
      refine ih i h hm1 (by omega) (by omega) h1 (fun x hx hxi => ?_) n (by omega)
      rcases Nat.lt_or_eq_of_le hxi with c2 | c2
      · exact fun e => c (ordK_trans (ordered_get ho h x c2 hx) e)
      · simp only [← c2]; exact c
theorem G67_is (k : Nat) (hk : 1001 < k) (l : List Entry) (hn : l.length ≤ 1000) (ho : ordered l = true) (key : Key) : G67 k (l, key, ()) = some (((posE l key : Nat) : Int), hasAt l key, ()) := by
  have hb := bs_loop k (by omega) l hn ho key (l.length : Int) l.length 0 l.length (Nat.zero_le _) (Nat.le_refl _) (by omega) (fun x hx h => absurd h (Nat.not_lt_zero _)) (fun x hx h => by omega) k (by omega)
  rw [Int.natCast_zero] at hb
  have hp := posE_le l key
  have hC := fun (h : posE l key < l.length) => show G102 k ((((l[posE l key]).1.1, (l[posE l key]).1.2.1, ()), (l[posE l key]).2.1, (l[posE l key]).2.2.1, (l[posE l key]).2.2.2.1, (l[posE l key]).2.2.2.2.1, (l[posE l key]).2.2.2.2.2.1, (l[posE l key]).2.2.2.2.2.2.1, ()), (key.1, key.2.1, ()), ()) = some (ordK l[posE l key].1 key, ()) from by
    rw [G102_eq]
    rw [show G32 k (((l[posE l key]).1.1, (l[posE l key]).1.2.1, ()), (key.1, key.2.1, ()), ()) = _ from G32_is k (by omega) l[posE l key].1 key, ocall_some]
  unfold hasAt
  obtain ⟨k1, k2, ⟨⟩⟩ := key
  (try simp only [] at hb hC)
  rw [G67_eq, G7000010_eq]
  simp only [ofNat_len]
  rw [hb, ocall_some]
  simp only [ofNat_len, Int.toNat_natCast]
  generalize posE l (k1, k2, ()) = p at hp hC
  by_cases h : p < l.length
  · have hC := hC h
    simp only [getD_of h]
    rw [sel_pos (by omega), sel_pos (by omega), sel_pos (by omega), hC, ocall_some, ocall_some, List.getElem?_eq_getElem h]
    (try simp only [])
    rw [show decide (ordK l[p].1 (k1, k2, ()) = 0) = decide (l[p].1 = (k1, k2, ())) from decide_eq_decide.2 ordK_zero]
  · rw [sel_neg (by omega), ocall_some, List.getElem?_eq_none (by omega)]
end Go.Proofs.YtcgnmecbdleehaaDoor.G
end
section
set_option linter.unusedVariables false
set_option linter.unusedSimpArgs false
set_option maxRecDepth 100000
namespace Go.Proofs.YtcgnmecbdleehaaDoor.G
open Go Go.Proofs.YtcgnmecbdleehaaDoor Th
theorem eClone (k : Nat) (l : List Entry) (h : l.length ≤ 1000) : G69 k l = some (l, ()) := by
  rw [G69_eq, sel_pos (by omega)]
def keyIs (key : Key) (e : Entry) : Bool := decide (e.1 = key)
def findE (l : List Entry) (key : Key) : Option Entry := l.find? (keyIs key)
theorem find_loop (k : Nat) (l : List Entry) (hn : l.length ≤ 1000000) (key : Key) (v5 : Int) (v6 : Txt) (v7 : Int) (v8 : Txt) (v9 : Int) (v10 : Txt) (v11 v12 : Int) : ∀ (j i : Nat), i + j = l.length → ∀ n, j < n →
    G34_2 k n (l, (l.length : Int), (i : Int), key.1, key.2.1, v5, v6, v7, v8, v9, v10, v11, v12, ()) = some (match findE (l.drop i) key with
      | some e => .inr (true, e.1.1, e.1.2.1, e.2.1, e.2.2.1, e.2.2.2.1, e.2.2.2.2.1, e.2.2.2.2.2.1, e.2.2.2.2.2.2.1, ())
      | none => .inl (v5, v6, v7, v8, v9, v10, v11, v12, ())) := by
  intro j
  induction j with
  | zero =>
    intro i hij n hn'
    obtain ⟨n, rfl⟩ : ∃ m, n = m + 1 := ⟨n - 1, by omega⟩
    rw [G34_2_eq, sel_neg (by omega), List.drop_eq_nil_of_le (by omega)]
    rfl
  | succ j ih =>
    intro i hij n hn'
    obtain ⟨n, rfl⟩ : ∃ m, n = m + 1 := ⟨n - 1, by omega⟩
    have hlt : i < l.length := by omega
    have hi := ih (i + 1) (by omega) n (by omega)
    have hw : IntKind.i64.wrap ((i : Int) + 1) = ((i + 1 : Nat) : Int) := by rw [wrap64 (by omega) (by omega)]; omega
    have hs : (sameI (l[i]).1.1 key.1 && (sameS (l[i]).1.2.1 key.2.1 && true)) = decide ((l[i]).1 = key) := sameK (l[i]).1 key
    rw [G34_2_eq]
    simp only [ofNat_len, Int.toNat_natCast, getD_of hlt, hw]
    rw [sel_pos (by omega), sel_pos (by omega), sel_pos (by omega), hs, List.drop_eq_getElem_cons hlt]
    unfold findE at hi ⊢
    rw [List.find?_cons]
    unfold keyIs at hi ⊢
    cases c : decide ((l[i]).1 = key) with
    | true => rfl
    | false => exact hi
theorem G34_is (k : Nat) (l : List Entry) (hn : l.length ≤ 1000000) (hk : l.length < k) (key : Key) : G34 k (l, key, ()) = some (match findE l key with | some e => (e, true, ()) | none => (zeroE, false, ())) := by
  have h := find_loop k l hn key 0 [] 0 [] 0 [] 0 0 l.length 0 (by omega) k hk
  rw [List.drop_zero, Int.natCast_zero] at h
  obtain ⟨k1, k2, ⟨⟩⟩ := key
  rw [G34_eq]
  simp only [ofNat_len] at h ⊢
  rw [h, ocall_some]
  cases findE l (k1, k2, ()) with
  | some e => rfl
  | none => rfl
def placeE (key : Key) : List Entry → Nat → Option Nat
  | [], _ => none
  | e :: t, i => if e.1 = key then some i else placeE key t (i + 1)
theorem place_find (key : Key) : ∀ (l : List Entry) (i : Nat), match placeE key l i with
    | some p => i ≤ p ∧ ∃ h : p - i < l.length, findE l key = some l[p - i] ∧ (l[p - i]).1 = key
    | none => findE l key = none := by
  intro l
  induction l with
  | nil => intro i; rfl
  | cons a t ih =>
    intro i
    unfold placeE
    by_cases c : a.1 = key
    · rw [if_pos c]
      refine ⟨Nat.le_refl _, by rw [Nat.sub_self]; simp, ?_, ?_⟩
      · unfold findE
        rw [List.find?_cons, show keyIs key a = true from decide_eq_true c]
        simp only [Nat.sub_self, List.getElem_cons_zero]
      · simp only [Nat.sub_self, List.getElem_cons_zero]; exact c
    · rw [if_neg c]
      have h := ih (i + 1)
      have hf : findE (a :: t) key = findE t key := by
        unfold findE
        rw [List.find?_cons, show keyIs key a = false from decide_eq_false c]
      rw [hf]
      cases hp : placeE key t (i + 1) with
      | none => rw [hp] at h; exact h
      | some p =>
        rw [hp] at h
        obtain ⟨h1, h2, h3, h4⟩ := h
        have e : p - i = p - (i + 1) + 1 := by omega
        refine ⟨by omega, by rw [e]; simpa using h2, ?_, ?_⟩
        · simp only [e, List.getElem_cons_succ]; exact h3
        · simp only [e, List.getElem_cons_succ]; exact h4
theorem has_find {l : List Entry} (ho : ordered l = true) (key : Key) : findE l key = if hasAt l key = true then l[posE l key]? else none := by
  have hp := place_find key l 0
  cases hq : placeE key l 0 with
  | some p =>
    rw [hq] at hp
    obtain ⟨_, h2, h3, h4⟩ := hp
    rw [Nat.sub_zero] at h2
    simp only [Nat.sub_zero] at h3 h4
    have he : posE l key = p := by
      refine posE_of key l p (by omega) (fun x hx hxp => ?_) (fun x hx hxp => ?_)
      · have := ordered_get ho x p hxp h2
        rwa [h4] at this
      · rcases Nat.lt_or_eq_of_le hxp with c | c
        · intro e
          have := ordered_get ho p x c hx
          rw [h4] at this
          have h0 := ordK_trans this e
          rw [ordK_zero.2 rfl] at h0
          exact absurd h0 (by decide)
        · simp only [← c]
          rw [ordK_zero.2 h4]; decide
    have hh : hasAt l key = true := by
      unfold hasAt
      rw [he, List.getElem?_eq_getElem h2]
      exact decide_eq_true h4
    rw [if_pos hh, h3, he, List.getElem?_eq_getElem h2]
  | none =>
    rw [hq] at hp
    have hh : ¬ hasAt l key = true := by
      intro h
      unfold hasAt at h
      cases hg : l[posE l key]? with
      | none => rw [hg] at h; cases h
      | some e =>
        rw [hg] at h
        have hm := List.mem_of_getElem? hg
        have := List.find?_eq_none.1 hp e hm
        exact this h
    rw [if_neg hh, hp]
def insL (l : List Entry) (e : Entry) : List Entry := l.take (posE l e.1) ++ [e] ++ l.drop (posE l e.1)
theorem same_loop (k : Nat) (a b : List Entry) (hab : a.length = b.length) (hl : a.length ≤ 1000000) : ∀ (j i : Nat), i + j = a.length → ∀ n, j < n →
    G14_4 k n (a, b, (i : Int), ()) = some (sel (decide (a.drop i = b.drop i)) (.inl ()) (.inr (false, ()))) := by
  intro j
  induction j with
  | zero =>
    intro i hij n hn
    obtain ⟨n, rfl⟩ : ∃ m, n = m + 1 := ⟨n - 1, by omega⟩
    rw [G14_4_eq, sel_neg (by simp only [ofNat_len]; omega), List.drop_eq_nil_of_le (by omega), List.drop_eq_nil_of_le (by omega), decide_eq_true rfl]
    rfl
  | succ j ih =>
    intro i hij n hn
    obtain ⟨n, rfl⟩ : ∃ m, n = m + 1 := ⟨n - 1, by omega⟩
    have hlt : i < a.length := by omega
    have hlt' : i < b.length := by omega
    have hw : IntKind.i64.wrap ((i : Int) + 1) = ((i + 1 : Nat) : Int) := by rw [wrap64 (by omega) (by omega)]; omega
    rw [G14_4_eq]
    simp only [ofNat_len, Int.toNat_natCast, getD_of hlt, getD_of hlt', hw]
    rw [sel_pos (by omega), sel_pos (by omega), sel_pos (by omega), sel_pos (by omega), sel_pos (by omega), sameE, List.drop_eq_getElem_cons hlt, List.drop_eq_getElem_cons hlt', ih (i + 1) (by omega) n (by omega)]
    by_cases c : a[i] = b[i]
    · rw [decide_eq_true c, Bool.not_true, sel_false]
      have e : decide (a[i] :: a.drop (i + 1) = b[i] :: b.drop (i + 1)) = decide (a.drop (i + 1) = b.drop (i + 1)) := decide_eq_decide.2 ⟨fun h => (List.cons.inj h).2, fun h => by rw [c, h]⟩
      rw [e]
    · rw [decide_eq_false c, Bool.not_false, sel_true, decide_eq_false (fun h => c (List.cons.inj h).1)]; rfl
theorem G14_is (k : Nat) (a b : List Entry) (hl : a.length ≤ 1000000) (hk : a.length < k) : G14 k (a, b, ()) = some (decide (a = b), ()) := by
  rw [G14_eq]
  simp only [ofNat_len]
  by_cases h2 : a.length = b.length
  case neg => rw [sel_not, sel_neg (by omega), decide_eq_false (fun e => h2 (by rw [e]))]
  have := same_loop k a b h2 hl a.length 0 (by omega) k hk
  simp only [List.drop_zero, Int.natCast_zero] at this
  rw [sel_not, sel_pos (by omega), this, ocall_some]
  cases decide (a = b) <;> rfl
end Go.Proofs.YtcgnmecbdleehaaDoor.G
end
section
set_option linter.unusedVariables false
set_option linter.unusedSimpArgs false
set_option maxRecDepth 100000
namespace Go.Proofs.YtcgnmecbdleehaaDoor.G
open Go Go.Proofs.YtcgnmecbdleehaaDoor Th
theorem shard_parts {l : List Entry} (h : shardOK l = true) : l.all entryOK = true ∧ ordered l = true ∧ l.length ≤ 128 := by
  unfold shardOK at h
  simp only [Bool.and_eq_true, decide_eq_true_eq] at h
  exact ⟨h.1.1, h.1.2, h.2⟩
def insF (l : List Entry) (e : Entry) : List Entry × Int := if shardOK l = true ∧ entryOK e = true then (if hasAt l e.1 = true then (l, 6) else if l.length = 128 then (l, 7) else (insL l e, 0)) else (l, 1)
def swapF (l : List Entry) (st : Int) (e : Entry) : List Entry × Int := if shardOK l = true ∧ entryOK e = true then (if hasAt l e.1 = true then (if (l.getD (posE l e.1) zeroE).2.1 = st then (l.set (posE l e.1) e, 0) else (l, 8)) else (l, 5)) else (l, 1)
def remF (l : List Entry) (key : Key) : List Entry × Int := if shardOK l = true then (if hasAt l key = true then (l.take (posE l key) ++ l.drop (posE l key + 1), 0) else (l, 5)) else (l, 1)
theorem hasAt_lt {l : List Entry} {key : Key} (h : hasAt l key = true) : ∃ hp : posE l key < l.length, (l[posE l key]).1 = key := by
  unfold hasAt at h
  cases hg : l[posE l key]? with
  | none => rw [hg] at h; cases h
  | some e =>
    rw [hg] at h
    obtain ⟨hp, he⟩ := List.getElem?_eq_some_iff.1 hg
    exact ⟨hp, by rw [he]; exact of_decide_eq_true h⟩
theorem G36_is (k : Nat) (hk : 1001 < k) (l : List Entry) (hl : lensL l) (hg : goodL l) (hn : l.length ≤ 1000) (e : Entry) (hle : lensE 300 e) (hge : goodE e) : G36 k (l, e, ()) = some ((insF l e).1, (insF l e).2, ()) := by
  have hR := G44_is k (by omega) l hl hg hn
  have hE := G12_is k 300 (by omega) (by omega) (by omega) e hle hge
  have hP := fun ho => G67_is k hk l hn ho e.1
  have hp := posE_le l e.1
  unfold insF insL
  obtain ⟨⟨e1, e2, ⟨⟩⟩, e3, e4, e5, e6, e7, e8, ⟨⟩⟩ := e
  rw [G36_eq, hR, ocall_some]
  cases hs : shardOK l with
  | false => rw [if_neg (by simp)]; rfl
  | true =>
  obtain ⟨_, ho, h128⟩ := shard_parts hs
  simp only [Bool.not_true, sel_false]
  rw [hE, ocall_some]
  cases he : entryOK ((e1, e2, ()), e3, e4, e5, e6, e7, e8, ()) with
  | false => rw [if_neg (by simp)]; rfl
  | true =>
  have hP := hP ho
  simp only [Bool.not_true, sel_false] at hP hp ⊢
  first | rw [if_pos (⟨rfl, rfl⟩ : true = true ∧ true = true)] | rw [if_pos (⟨trivial, trivial⟩ : True ∧ True)]
  rw [hP, ocall_some]
  cases hh : hasAt l (e1, e2, ()) with
  | true => rw [if_pos rfl]; rfl
  | false =>
  rw [if_neg (by simp)]
  simp only [sel_false, ofNat_len]
  by_cases h7 : l.length = 128
  · rw [sel_pos (by omega), if_pos h7]
  rw [sel_neg (by omega), if_neg h7, eClone k l hn, ocall_some, G68_eq]
  simp only [ofNat_len]
  rw [sel_pos (by omega), sel_pos (by omega), sel_pos (by omega), sel_pos (by simp), ocall_some, Int.toNat_natCast]
theorem G46_is (k : Nat) (hk : 1001 < k) (l : List Entry) (hl : lensL l) (hg : goodL l) (hn : l.length ≤ 1000) (st : Int) (e : Entry) (hle : lensE 300 e) (hge : goodE e) : G46 k (l, st, e, ()) = some ((swapF l st e).1, (swapF l st e).2, ()) := by
  have hR := G44_is k (by omega) l hl hg hn
  have hE := G12_is k 300 (by omega) (by omega) (by omega) e hle hge
  have hP := fun ho => G67_is k hk l hn ho e.1
  have hlt := @hasAt_lt l e.1
  unfold swapF
  obtain ⟨⟨e1, e2, ⟨⟩⟩, e3, e4, e5, e6, e7, e8, ⟨⟩⟩ := e
  rw [G46_eq, hR, ocall_some]
  cases hs : shardOK l with
  | false => rw [if_neg (by simp)]; rfl
  | true =>
  obtain ⟨_, ho, h128⟩ := shard_parts hs
  simp only [Bool.not_true, sel_false]
  rw [hE, ocall_some]
  cases he : entryOK ((e1, e2, ()), e3, e4, e5, e6, e7, e8, ()) with
  | false => rw [if_neg (by simp)]; rfl
  | true =>
  have hP := hP ho
  simp only [Bool.not_true, sel_false] at hP hlt ⊢
  first | rw [if_pos (⟨rfl, rfl⟩ : true = true ∧ true = true)] | rw [if_pos (⟨trivial, trivial⟩ : True ∧ True)]
  rw [hP, ocall_some]
  cases hh : hasAt l (e1, e2, ()) with
  | false => rw [if_neg (by simp)]; rfl
  | true =>
  obtain ⟨h4, _⟩ := hlt hh
  rw [if_pos rfl]
  generalize posE l (e1, e2, ()) = p at h4
  unfold zeroE
  simp only [Bool.not_true, sel_false, ofNat_len, Int.toNat_natCast, getD_of h4]
  rw [sel_pos (by omega), sel_pos (by omega)]
  by_cases c : (l[p]).2.1 = st
  · rw [sel_not, sel_pos c, if_pos c, eClone k l hn, ocall_some]
    simp only [ofNat_len]
    rw [sel_pos (by omega), sel_pos (by omega), sel_pos (by omega)]
  · rw [sel_not, sel_neg c, if_neg c]
theorem G47_is (k : Nat) (hk : 1001 < k) (l : List Entry) (hl : lensL l) (hg : goodL l) (hn : l.length ≤ 1000) (key : Key) : G47 k (l, key, ()) = some ((remF l key).1, (remF l key).2, ()) := by
  have hR := G44_is k (by omega) l hl hg hn
  have hP := fun ho => G67_is k hk l hn ho key
  have hlt := @hasAt_lt l key
  unfold remF
  obtain ⟨e1, e2, ⟨⟩⟩ := key
  rw [G47_eq, hR, ocall_some]
  cases hs : shardOK l with
  | false => rw [if_neg (by simp)]; rfl
  | true =>
  obtain ⟨_, ho, h128⟩ := shard_parts hs
  simp only [Bool.not_true, sel_false]
  first | rw [if_pos (rfl : true = true)] | rw [if_pos trivial]
  rw [hP ho, ocall_some]
  cases hh : hasAt l (e1, e2, ()) with
  | false => rw [if_neg (by simp)]; rfl
  | true =>
  obtain ⟨h4, _⟩ := hlt hh
  rw [if_pos rfl]
  generalize posE l (e1, e2, ()) = p at h4
  simp only [Bool.not_true, sel_false]
  rw [eClone k l hn, ocall_some, wrap64 (by omega) (by omega), G79_eq]
  simp only [ofNat_len]
  rw [sel_pos (by omega), sel_pos (by omega), sel_pos (by omega), ocall_some, show ((p : Int) + 1).toNat = p + 1 by omega, Int.toNat_natCast]
end Go.Proofs.YtcgnmecbdleehaaDoor.G
end
section
set_option linter.unusedVariables false
set_option linter.unusedSimpArgs false
set_option maxRecDepth 100000
namespace Go.Proofs.YtcgnmecbdleehaaDoor.G
open Go Go.Proofs.YtcgnmecbdleehaaDoor Th
theorem shortE (k : Nat) (e : Entry) : G16 k (e, ()) = some (decide (e.1.2.1.length ≤ 300 ∧ e.2.2.1.length ≤ 300 ∧ e.2.2.2.2.1.length ≤ 300), ()) := by
  rw [G16_eq, G17_eq, ocall_some]
  simp only [ofNat_len]
  have a1 : decide ((e.1.2.1.length : Int) ≤ 300) = decide (e.1.2.1.length ≤ 300) := decide_eq_decide.2 (by omega)
  have a2 : decide ((e.2.2.1.length : Int) ≤ 300) = decide (e.2.2.1.length ≤ 300) := decide_eq_decide.2 (by omega)
  have a3 : decide ((e.2.2.2.2.1.length : Int) ≤ 300) = decide (e.2.2.2.2.1.length ≤ 300) := decide_eq_decide.2 (by omega)
  rw [a1, a2, a3]
  by_cases h1 : e.1.2.1.length ≤ 300 <;> by_cases h2 : e.2.2.1.length ≤ 300 <;> by_cases h3 : e.2.2.2.2.1.length ≤ 300 <;> simp [h1, h2, h3]
end Go.Proofs.YtcgnmecbdleehaaDoor.G
end
section
set_option linter.unusedVariables false
set_option linter.unusedSimpArgs false
set_option maxRecDepth 100000
namespace Go.Proofs.YtcgnmecbdleehaaDoor.G
open Go Go.Proofs.YtcgnmecbdleehaaDoor Th
instance decLE (L : Nat) (e : Entry) : Decidable (lensE L e) := inferInstanceAs (Decidable (_ ∧ _ ∧ _))
theorem shortEntry (k : Nat) (e : Entry) : G16 k (e, ()) = some (decide (lensE 300 e), ()) := by
  rw [shortE]
  rw [show decide (e.1.2.1.length ≤ 300 ∧ e.2.2.1.length ≤ 300 ∧ e.2.2.2.2.1.length ≤ 300) = decide (lensE 300 e) from decide_eq_decide.2 Iff.rfl]
theorem shortE_loop (k : Nat) (l : List Entry) : ∀ (j i : Nat), i + j = (l.take 200).length → ∀ n, j < n →
    G7_2 k n (l, (i : Int), ()) = some (sel (((l.take 200).drop i).all (fun e => decide (lensE 300 e))) (.inl (l, ())) (.inr (false, ()))) := by
  intro j
  induction j with
  | zero =>
    intro i hij n hn
    obtain ⟨n, rfl⟩ : ∃ m, n = m + 1 := ⟨n - 1, by omega⟩
    rw [List.drop_eq_nil_of_le (by omega), G7_2_eq]
    rw [List.length_take] at hij
    simp only [ofNat_len]
    by_cases h : i < l.length
    · rw [sel_pos (by omega), sel_neg (by omega)]; rfl
    · rw [sel_neg (by omega)]; rfl
  | succ j ih =>
    intro i hij n hn
    obtain ⟨n, rfl⟩ : ∃ m, n = m + 1 := ⟨n - 1, by omega⟩
    have hlt' : i < (l.take 200).length := by omega
    have hij' := hij
    rw [List.length_take] at hij'
    have hlt : i < l.length := by omega
    have hw : IntKind.i64.wrap ((i : Int) + 1) = ((i + 1 : Nat) : Int) := by rw [wrap64 (by omega) (by omega)]; omega
    have he : (l.take 200)[i] = l[i] := List.getElem_take
    have hS : G16 k ((((l[i]).1.1, (l[i]).1.2.1, ()), (l[i]).2.1, (l[i]).2.2.1, (l[i]).2.2.2.1, (l[i]).2.2.2.2.1, (l[i]).2.2.2.2.2.1, (l[i]).2.2.2.2.2.2.1, ()), ()) = _ := shortEntry k l[i]
    rw [G7_2_eq]
    simp only [ofNat_len, Int.toNat_natCast, getD_of hlt]
    rw [sel_pos (by omega), sel_pos (by omega), sel_pos (by omega), sel_pos (by omega), hS, ocall_some, List.drop_eq_getElem_cons hlt', he, List.all_cons]
    by_cases c : lensE 300 l[i]
    · rw [decide_eq_true c, Bool.not_true, sel_false, hw, ih (i + 1) (by omega) n (by omega), Bool.true_and]
    · rw [decide_eq_false c, Bool.not_false, sel_true, Bool.false_and]; rfl
theorem G7_is (k : Nat) (hk : 201 < k) (l : List Entry) : ∃ b, G7 k (l, ()) = some (b, ()) ∧ (b = true → l.length ≤ 200 ∧ lensL l) := by
  have h := shortE_loop k l (l.take 200).length 0 (by omega) k (by rw [List.length_take]; omega)
  rw [List.drop_zero, Int.natCast_zero] at h
  rw [G7_eq, h, ocall_some]
  cases c : (l.take 200).all (fun e => decide (lensE 300 e)) with
  | true =>
    rw [sel_true, esel_inl]
    refine ⟨_, rfl, fun h => ?_⟩
    have hle : l.length ≤ 200 := by have := of_decide_eq_true h; simp only [ofNat_len] at this; omega
    rw [List.take_of_length_le (by omega)] at c
    exact ⟨hle, fun e he => by simpa using List.all_eq_true.1 c e he⟩
  | false =>
    rw [sel_false, esel_inr]
    exact ⟨_, rfl, fun h => absurd h (by simp)⟩
def rS : Txt := [82, 82, 78, 48, 48, 48, 48, 48, 48, 48, 48, 49]
def eS0 : Entry := ((2, rS, ()), 1, [49, 56], 5, [], 0, 0, ())
def fS0 : Entry := ((1, rS, ()), 1, [49, 56], 5, [], 0, 0, ())
def eS1 : Entry := ((2, rS, ()), 2, [49, 56], 5, [48, 48], 0, 0, ())
theorem good1 {l : List Entry} (h : ∀ e ∈ l, e = eS0 ∨ e = fS0 ∨ e = eS1) : lensL l ∧ goodL l := by
  constructor <;> intro e he <;> rcases h e he with rfl | rfl | rfl <;> (first | exact ⟨by decide, by decide, by decide⟩ | exact ⟨⟨by decide, by decide⟩, by decide, by decide⟩)
end Go.Proofs.YtcgnmecbdleehaaDoor.G
end
section
set_option linter.unusedVariables false
set_option linter.unusedSimpArgs false
set_option maxRecDepth 100000
namespace Go.Proofs.YtcgnmecbdleehaaDoor.G
open Go Go.Proofs.YtcgnmecbdleehaaDoor Th
theorem ins_cons_lt {x : Entry} {t : List Entry} {e : Entry} (c : ordK x.1 e.1 = -1) : insL (x :: t) e = x :: insL t e := by
  unfold insL
  rw [posE_pos (t := t) c, List.take_succ_cons, List.drop_succ_cons]; rfl
theorem ins_cons_ge {x : Entry} {t : List Entry} {e : Entry} (c : ordK x.1 e.1 ≠ -1) : insL (x :: t) e = e :: x :: t := by
  unfold insL
  rw [posE_zero (t := t) c]; rfl
theorem hasAt_cons_lt {x : Entry} {t : List Entry} {key : Key} (c : ordK x.1 key = -1) : hasAt (x :: t) key = hasAt t key := by
  unfold hasAt; rw [posE_pos (t := t) c, List.getElem?_cons_succ]
theorem hasAt_cons_ge {x : Entry} {t : List Entry} {key : Key} (c : ordK x.1 key ≠ -1) : hasAt (x :: t) key = decide (x.1 = key) := by
  unfold hasAt; rw [posE_zero (t := t) c]; rfl
theorem ins_mem {l : List Entry} {e x : Entry} (h : x ∈ insL l e) : x ∈ l ∨ x = e := by
  unfold insL at h
  rcases List.mem_append.1 h with h | h
  · rcases List.mem_append.1 h with h | h
    · exact .inl (List.mem_of_mem_take h)
    · exact .inr (List.mem_singleton.1 h)
  · exact .inl (List.mem_of_mem_drop h)
theorem ins_length (l : List Entry) (e : Entry) : (insL l e).length = l.length + 1 := by
  have := posE_le l e.1
  unfold insL; simp only [List.length_append, List.length_take, List.length_drop, List.length_singleton]; omega
theorem ins_ordered (e : Entry) : ∀ (l : List Entry), ordered l = true → hasAt l e.1 = false → ordered (insL l e) = true := by
  intro l
  induction l with
  | nil => intro _ _; rfl
  | cons x t ih =>
    intro ho hh
    by_cases c : ordK x.1 e.1 = -1
    · rw [hasAt_cons_lt c] at hh
      rw [ins_cons_lt c]
      refine ordered_cons (ih (ordered_tail ho) hh) fun y hy => ?_
      rcases ins_mem hy with h | h
      · exact ordered_lt ho y h
      · rw [h]; exact c
    · rw [hasAt_cons_ge c] at hh
      have hne : x.1 ≠ e.1 := of_decide_eq_false hh
      rw [ins_cons_ge c]
      have hex : ordK e.1 x.1 = -1 := by
        have hf := ordK_flip x.1 e.1
        rcases ordK_cases x.1 e.1 with h | h | h
        · exact absurd h c
        · exact absurd (ordK_zero.1 h) hne
        · omega
      refine ordered_cons ho fun y hy => ?_
      rcases List.mem_cons.1 hy with h | h
      · rw [h]; exact hex
      · exact ordK_trans hex (ordered_lt ho y h)
theorem ins_pos (e : Entry) : ∀ (l : List Entry), posE (insL l e) e.1 = posE l e.1 := by
  have hee : ordK e.1 e.1 ≠ -1 := by rw [ordK_zero.2 rfl]; decide
  intro l
  induction l with
  | nil => exact posE_zero (t := []) hee
  | cons x t ih =>
    by_cases c : ordK x.1 e.1 = -1
    · rw [ins_cons_lt c, posE_pos c, posE_pos c, ih]
    · rw [ins_cons_ge c, posE_zero hee, posE_zero c]
theorem ins_get (l : List Entry) (e : Entry) : (insL l e)[posE l e.1]? = some e := by
  have := posE_le l e.1
  unfold insL
  rw [List.append_assoc, List.getElem?_append_right (by rw [List.length_take]; omega), List.length_take, Nat.min_eq_left this, Nat.sub_self]
  rfl
theorem ins_has (l : List Entry) (e : Entry) : hasAt (insL l e) e.1 = true := by
  unfold hasAt
  rw [ins_pos, ins_get]
  exact decide_eq_true rfl
theorem ins_ok {l : List Entry} {e : Entry} (h : shardOK l = true) (he : entryOK e = true) (hh : hasAt l e.1 = false) (h7 : l.length ≠ 128) : shardOK (insL l e) = true := by
  obtain ⟨h1, h2, h3⟩ := shard_parts h
  unfold shardOK
  rw [ins_ordered e l h2 hh, decide_eq_true (show (insL l e).length ≤ 128 by rw [ins_length]; omega)]
  have ha : (insL l e).all entryOK = true := List.all_eq_true.2 fun x hx => by
    rcases ins_mem hx with h | h
    · exact List.all_eq_true.1 h1 x h
    · rw [h]; exact he
  rw [ha]; rfl
theorem ins_find_other {l : List Entry} {e : Entry} {key : Key} (h : key ≠ e.1) : findE (insL l e) key = findE l key := by
  have hn : keyIs key e = false := decide_eq_false fun x => h x.symm
  have hl : l.find? (keyIs key) = ((l.take (posE l e.1)).find? (keyIs key)).or ((l.drop (posE l e.1)).find? (keyIs key)) := by
    rw [← List.find?_append, List.take_append_drop]
  unfold findE insL
  rw [hl, List.find?_append, List.find?_append, List.find?_cons, hn]
  simp
theorem ins_find (l : List Entry) (e : Entry) (ho : ordered (insL l e) = true) : findE (insL l e) e.1 = some e := by
  rw [has_find ho, if_pos (ins_has l e), ins_pos, ins_get]
end Go.Proofs.YtcgnmecbdleehaaDoor.G
end
section
set_option linter.unusedVariables false
set_option linter.unusedSimpArgs false
namespace Go.Proofs.YtcgnmecbdleehaaDoor.G
open Go Go.Proofs.YtcgnmecbdleehaaDoor Th
theorem dropAt {α : Type} {l : List α} {i : Nat} (h : i < l.length) : l.drop i = l[i] :: l.drop (i + 1) := List.drop_eq_getElem_cons h
theorem takeAt {α : Type} {l : List α} {i : Nat} (h : i < l.length) : l.take (i + 1) = l.take i ++ [l[i]] := by rw [List.take_add_one, List.getElem?_eq_getElem h]; rfl
theorem idx_loop {α : Type} (p : α → Bool) (l : List α) (L : Nat → Int → Option (Unit ⊕ (Int × Unit)))
    (h1 : ∀ (j t : Nat) (h : t < l.length), L (j + 1) (t : Int) = bif p l[t] then some (.inr ((t : Int), ())) else L j ((t + 1 : Nat) : Int)) (h0 : ∀ j : Nat, L (j + 1) (l.length : Int) = some (.inl ())) :
    ∀ (m i : Nat), i + m = l.length → (∀ x ∈ l.take i, p x = false) → ∀ n, m < n →
      (L n (i : Int) = some (.inl ()) ∧ ∀ x ∈ l, p x = false) ∨ ∃ t, ∃ h : t < l.length, L n (i : Int) = some (.inr ((t : Int), ())) ∧ p l[t] = true ∧ ∀ x ∈ l.take t, p x = false := by
  intro m
  induction m with
  | zero =>
    intro i hi ha n hn
    obtain ⟨n, rfl⟩ : ∃ m, n = m + 1 := ⟨n - 1, by omega⟩
    have e : i = l.length := by omega
    subst e
    rw [List.take_length] at ha
    exact .inl ⟨h0 n, ha⟩
  | succ m ih =>
    intro i hi ha n hn
    obtain ⟨n, rfl⟩ : ∃ m, n = m + 1 := ⟨n - 1, by omega⟩
    have hlt : i < l.length := by omega
    rw [h1 n i hlt]
    cases hp : p l[i] with
    | true => exact .inr ⟨i, hlt, rfl, hp, ha⟩
    | false =>
      refine ih (i + 1) (by omega) (fun x hx => ?_) n (by omega)
      rw [takeAt hlt, List.mem_append, List.mem_singleton] at hx
      rcases hx with hx | rfl
      · exact ha x hx
      · exact hp
end Go.Proofs.YtcgnmecbdleehaaDoor.G
end
section
set_option linter.unusedVariables false
set_option linter.unusedSimpArgs false
set_option maxRecDepth 100000
namespace Go.Proofs.YtcgnmecbdleehaaDoor.G
open Go Go.Proofs.YtcgnmecbdleehaaDoor Th
abbrev Tbl := Int × List (List Entry) × Unit
def lenS : List (List Entry) → Nat
  | [] => 0
  | l :: t => l.length + lenS t
theorem lenS_app (a b : List (List Entry)) : lenS (a ++ b) = lenS a + lenS b := by
  induction a with
  | nil => simp [lenS]
  | cons x a ih => rw [List.cons_append, lenS, lenS, ih]; omega
theorem lenS_flat (a : List (List Entry)) : lenS a = a.flatten.length := by
  induction a with
  | nil => rfl
  | cons x a ih => rw [lenS, ih, List.flatten_cons, List.length_append]
theorem many_loop (k : Nat) (l : List (List Entry)) (hl : l.length ≤ 1000000) (hs : lenS l ≤ 1000000) : ∀ (j i : Nat), i + j = l.length → ∀ n, j < n →
    G35_3 k n ((lenS (l.take i) : Int), l, Int.ofNat l.length, (i : Int), ()) = some ((lenS l : Int), ()) := by
  intro j
  induction j with
  | zero =>
    intro i hij n hn
    obtain ⟨n, rfl⟩ : ∃ m, n = m + 1 := ⟨n - 1, by omega⟩
    rw [List.take_of_length_le (by omega), G35_3_eq, sel_neg (by simp only [ofNat_len]; omega)]
  | succ j ih =>
    intro i hij n hn
    obtain ⟨n, rfl⟩ : ∃ m, n = m + 1 := ⟨n - 1, by omega⟩
    have hlt : i < l.length := by omega
    have hi := ih (i + 1) (by omega) n (by omega)
    have e : lenS (l.take (i + 1)) = lenS (l.take i) + l[i].length := by rw [takeAt hlt, lenS_app]; simp [lenS]
    have hle : lenS (l.take (i + 1)) ≤ lenS l := by
      have := lenS_app (l.take (i + 1)) (l.drop (i + 1))
      rw [List.take_append_drop] at this; omega
    rw [e] at hi hle
    rw [G35_3_eq]
    simp only [ofNat_len, Int.toNat_natCast, getD_of hlt]
    rw [sel_pos (by omega), sel_pos (by omega), sel_pos (by omega), wrap64 (by omega) (by omega), wrap64 (by omega) (by omega)]
    exact hi
theorem G35_is (k : Nat) (t : Tbl) (hl : t.2.1.length ≤ 1000000) (hk : t.2.1.length < k) (hs : lenS t.2.1 ≤ 1000000) : G35 k (t, ()) = some ((lenS t.2.1 : Int), ()) := by
  obtain ⟨r, l, ⟨⟩⟩ := t
  have h := many_loop k l hl hs l.length 0 (by omega) k hk
  rw [List.take_zero, Int.natCast_zero] at h
  rw [G35_eq, show G35_3 k k (0, l, Int.ofNat l.length, 0, ()) = _ from h, ocall_some]
def goodTb (t : Tbl) : Prop := (∀ l ∈ t.2.1, lensL l ∧ goodL l ∧ l.length ≤ 1000) ∧ t.2.1.length ≤ 1000 ∧ lenS t.2.1 ≤ 1000000
def elseE (n : Int) (i : Int) (e : Entry) : Bool := !decide (shardK e.1 n = i)
theorem else_is (k : Nat) (hk : 1000 < k) (t : Tbl) (i : Int) (l : List Entry) (hl : lensL l) (hg : goodL l) (hn : l.length ≤ 1000) :
    G7000009 k (l, ((t, (i, ()), ()), ())) = some (l.any (elseE t.2.1.length i), ()) := by
  obtain ⟨r, s, ⟨⟩⟩ := t
  have hp : ∀ e ∈ l, G42 k (e, ((r, s, ()), (i, ()), ())) = some (elseE s.length i e, ()) := fun e he => by
    have h := G43_is k 300 (by omega) (by omega) (by omega) e.1 (s.length : Int) (hl e he).1 (hg e he).1
    obtain ⟨⟨k1, k2, ⟨⟩⟩, e2, e3, e4, e5, e6, e7, ⟨⟩⟩ := e
    rw [G42_eq]
    simp only [ofNat_len]
    rw [h, ocall_some]
    rfl
  have hI := idx_loop (elseE s.length i) l (fun n t => G7000008_2 k n (l, ((r, s, ()), (i, ()), ()), Int.ofNat l.length, t, ())) (fun j t h => by
    have hO := hp l[t] (List.getElem_mem h)
    (try simp only [])
    rw [G7000008_2_eq]
    simp only [ofNat_len, Int.toNat_natCast, getD_of h]
    rw [sel_pos (by omega), sel_pos (by omega), sel_pos (by omega), show G42 k ((((l[t]).1.1, (l[t]).1.2.1, ()), (l[t]).2.1, (l[t]).2.2.1, (l[t]).2.2.2.1, (l[t]).2.2.2.2.1, (l[t]).2.2.2.2.2.1, (l[t]).2.2.2.2.2.2.1, ()), (r, s, ()), (i, ()), ()) = _ from hO, ocall_some, wrap64 (by omega) (by omega)]
    cases elseE s.length i l[t] <;> rfl) (fun j => by
    (try simp only [])
    rw [G7000008_2_eq, sel_neg (by simp only [ofNat_len]; omega)]) l.length 0 (by omega) (by simp) k (by omega)
  rw [Int.natCast_zero] at hI
  rw [G7000009_eq, G7000008_eq]
  rcases hI with ⟨e, ha⟩ | ⟨t, ht, e, hp, ha⟩
  · (try simp only [] at e)
    have h : l.any (elseE s.length i) = false := by rw [List.any_eq_false]; intro x hx; rw [ha x hx]; simp
    rw [e, ocall_some, esel_inl, ocall_some]
    simp only [h]
    rfl
  · (try simp only [] at e)
    have h : l.any (elseE s.length i) = true := List.any_eq_true.2 ⟨l[t], List.getElem_mem ht, hp⟩
    rw [e, ocall_some, esel_inr, ocall_some, decide_eq_true (by (try simp only []); omega)]
    simp only [h]
def rightS (n : Int) : Nat → List (List Entry) → Bool
  | _, [] => true
  | i, l :: t => shardOK l && !(l.any (elseE n i)) && rightS n (i + 1) t
def rightT (t : Tbl) : Bool := decide (0 ≤ t.1 ∧ t.1 ≤ 128 ∧ 1 ≤ t.2.1.length ∧ t.2.1.length ≤ 16 ∧ (lenS t.2.1 : Int) ≤ t.1) && rightS t.2.1.length 0 t.2.1
theorem right_loop (k : Nat) (hk : 1001 < k) (t : Tbl) (gt : goodTb t) : ∀ (j i : Nat), i + j = t.2.1.length → ∀ n, j < n →
    G13_4 k n (t, t.2.1, Int.ofNat t.2.1.length, (i : Int), ()) = some (sel (rightS t.2.1.length i (t.2.1.drop i)) (.inl ()) (.inr (false, ()))) := by
  obtain ⟨g1, g2, g3⟩ := gt
  intro j
  induction j with
  | zero =>
    intro i hij n hn
    obtain ⟨n, rfl⟩ : ∃ m, n = m + 1 := ⟨n - 1, by omega⟩
    obtain ⟨r, s, ⟨⟩⟩ := t
    (try simp only [] at hij ⊢)
    rw [List.drop_eq_nil_of_le (by omega), G13_4_eq, sel_neg (by simp only [ofNat_len]; omega)]
    rfl
  | succ j ih =>
    intro i hij n hn
    obtain ⟨n, rfl⟩ : ∃ m, n = m + 1 := ⟨n - 1, by omega⟩
    have hlt : i < t.2.1.length := by omega
    obtain ⟨a1, a2, a3⟩ := g1 _ (List.getElem_mem hlt)
    have hi := ih (i + 1) (by omega) n (by omega)
    have hR := G44_is k (by omega) t.2.1[i] a1 a2 a3
    have hE := else_is k (by omega) t i t.2.1[i] a1 a2 a3
    obtain ⟨r, s, ⟨⟩⟩ := t
    (try simp only [] at hij hlt hR hE hi g2 ⊢)
    rw [G13_4_eq]
    simp only [ofNat_len, Int.toNat_natCast, getD_of hlt]
    rw [sel_pos (by omega), sel_pos (by omega), sel_pos (by omega), hR, ocall_some, hE, ocall_some, wrap64 (by omega) (by omega), dropAt hlt, rightS]
    cases shardOK s[i] with
    | false => rfl
    | true =>
      rw [show (!((true, ()) : Bool × Unit).1) = false from rfl, sel_false]
      cases s[i].any (elseE s.length i) with
      | true => rfl
      | false =>
        rw [show ((false, ()) : Bool × Unit).1 = false from rfl, sel_false]
        simp only [Bool.true_and, Bool.not_false]
        exact hi
theorem G13_is (k : Nat) (hk : 1001 < k) (t : Tbl) (gt : goodTb t) : G13 k (t, ()) = some (rightT t, ()) := by
  have hM := G35_is k t (by have := gt.2.1; omega) (by have := gt.2.1; omega) gt.2.2
  have hL := right_loop k hk t gt t.2.1.length 0 (by omega) k (by have := gt.2.1; omega)
  have g2 := gt.2.1
  unfold rightT
  obtain ⟨r, s, ⟨⟩⟩ := t
  (try simp only [] at hM hL g2 ⊢)
  rw [List.drop_zero, Int.natCast_zero] at hL
  rw [G13_eq]
  simp only [ofNat_len]
  by_cases c1 : r < 0
  · rw [sel_pos c1, decide_eq_false (by omega)]; rfl
  rw [sel_neg c1]
  by_cases c2 : 128 < r
  · rw [sel_pos c2, decide_eq_false (by omega)]; rfl
  rw [sel_neg c2]
  by_cases c3 : (s.length : Int) < 1
  · rw [sel_pos c3, decide_eq_false (by omega)]; rfl
  rw [sel_neg c3]
  by_cases c4 : 16 < (s.length : Int)
  · rw [sel_pos c4, decide_eq_false (by omega)]; rfl
  rw [sel_neg c4, hM, ocall_some]
  by_cases c5 : r < (lenS s : Int)
  · rw [sel_pos c5, decide_eq_false (by omega)]; rfl
  rw [sel_neg c5, decide_eq_true (by omega), Bool.true_and]
  simp only [ofNat_len] at hL
  rw [hL, ocall_some]
  cases rightS s.length 0 s <;> rfl
def ofT (t : Tbl) (key : Key) : List Entry := if shardK key t.2.1.length < 0 then [] else t.2.1.getD (shardK key t.2.1.length).toNat []
theorem shardK_range (key : Key) (n : Nat) : shardK key n = -1 ∨ (0 ≤ shardK key n ∧ shardK key n < n ∧ keyOK key = true) := by
  unfold shardK
  split
  · rename_i h
    exact .inr ⟨Int.emod_nonneg _ (by omega), Int.emod_lt_of_pos _ (by omega), h.1⟩
  · exact .inl rfl
theorem shardK_ok {key : Key} {n : Nat} (h : keyOK key = true) (h1 : 1 ≤ n) (h2 : n ≤ 16) : 0 ≤ shardK key n ∧ shardK key n < n := by
  unfold shardK
  rw [if_pos ⟨h, by omega, by omega⟩]
  exact ⟨Int.emod_nonneg _ (by omega), Int.emod_lt_of_pos _ (by omega)⟩
theorem G33_is (k : Nat) (hk : 1000 < k) (t : Tbl) (key : Key) (hl : key.2.1.length ≤ 300) (hg : 0 ≤ key.1 ∧ key.1 ≤ 4294967295) : G33 k (t, key, ()) = some (ofT t key, shardK key t.2.1.length, ()) := by
  have h := G43_is k 300 (by omega) (by omega) (by omega) key (t.2.1.length : Int) hl hg
  have hr := shardK_range key t.2.1.length
  unfold ofT
  generalize shardK key t.2.1.length = q at h hr ⊢
  obtain ⟨r, s, ⟨⟩⟩ := t
  obtain ⟨k1, k2, ⟨⟩⟩ := key
  (try simp only [] at h hr ⊢)
  rw [G33_eq]
  simp only [ofNat_len]
  rw [h, ocall_some]
  by_cases c : q < 0
  · rw [sel_pos c, if_pos c]
  · rw [sel_neg c, if_neg c, sel_pos (by (try simp only []); omega), sel_pos (by (try simp only []); omega)]
def findT (t : Tbl) (key : Key) : Option Entry := findE (ofT t key) key
def foundT (t : Tbl) (key : Key) : Entry × Bool := if rightT t = true then (match findT t key with | some e => (e, true) | none => (zeroE, false)) else (zeroE, false)
theorem ofT_mem (t : Tbl) (key : Key) : ofT t key = [] ∨ ofT t key ∈ t.2.1 := by
  unfold ofT
  split
  · exact .inl rfl
  · by_cases h : (shardK key t.2.1.length).toNat < t.2.1.length
    · rw [getD_of h]; exact .inr (List.getElem_mem h)
    · rw [List.getD, List.getElem?_eq_none (by omega)]; exact .inl rfl
theorem ofT_good {t : Tbl} (gt : goodTb t) (key : Key) : lensL (ofT t key) ∧ goodL (ofT t key) ∧ (ofT t key).length ≤ 1000 := by
  rcases ofT_mem t key with h | h
  · rw [h]; exact ⟨(fun x hx => by cases hx), (fun x hx => by cases hx), Nat.zero_le _⟩
  · exact gt.1 _ h
theorem G10_is (k : Nat) (hk : 1001 < k) (t : Tbl) (gt : goodTb t) (key : Key) (hl : key.2.1.length ≤ 300) (hg : 0 ≤ key.1 ∧ key.1 ≤ 4294967295) : G10 k (t, key, ()) = some ((foundT t key).1, (foundT t key).2, ()) := by
  have hR := G13_is k hk t gt
  have hO := G33_is k (by omega) t key hl hg
  obtain ⟨_, _, ho⟩ := ofT_good gt key
  have hF := G34_is k (ofT t key) (by omega) (by omega) key
  unfold foundT findT
  obtain ⟨r, s, ⟨⟩⟩ := t
  obtain ⟨k1, k2, ⟨⟩⟩ := key
  rw [G10_eq, hR, ocall_some]
  cases rightT (r, s, ()) with
  | false => rfl
  | true =>
    rw [show (!((true, ()) : Bool × Unit).1) = false from rfl, sel_false, hO, ocall_some]
    (try simp only [])
    rw [hF, ocall_some, if_pos trivial]
    cases findE (ofT (r, s, ()) (k1, k2, ())) (k1, k2, ()) <;> rfl
end Go.Proofs.YtcgnmecbdleehaaDoor.G
end
section
set_option linter.unusedVariables false
set_option linter.unusedSimpArgs false
set_option maxRecDepth 100000
namespace Go.Proofs.YtcgnmecbdleehaaDoor.G
open Go Go.Proofs.YtcgnmecbdleehaaDoor Th
def Asc (l : List Entry) : Prop := l.Pairwise fun a b => ordK a.1 b.1 = -1
theorem asc_of {l : List Entry} (h : ordered l = true) : Asc l := by
  induction l with
  | nil => exact List.Pairwise.nil
  | cons a t ih => exact List.Pairwise.cons (ordered_lt h) (ih (ordered_tail h))
theorem of_asc {l : List Entry} (h : Asc l) : ordered l = true := by
  induction l with
  | nil => rfl
  | cons a t ih =>
    obtain ⟨h1, h2⟩ := List.pairwise_cons.1 h
    exact ordered_cons (ih h2) h1
theorem key_ne {a b : Key} (h : ordK a b = -1) : a ≠ b := fun e => by rw [ordK_zero.2 e] at h; cases h
theorem asc_one {l : List Entry} (h : Asc l) {a b : Entry} (ha : a ∈ l) (hb : b ∈ l) (e : a.1 = b.1) : a = b := by
  induction l with
  | nil => cases ha
  | cons x t ih =>
    obtain ⟨h1, h2⟩ := List.pairwise_cons.1 h
    rcases List.mem_cons.1 ha with rfl | ha'
    · rcases List.mem_cons.1 hb with rfl | hb'
      · rfl
      · exact absurd e (key_ne (h1 b hb'))
    · rcases List.mem_cons.1 hb with rfl | hb'
      · exact absurd e.symm (key_ne (h1 a ha'))
      · exact ih h2 ha' hb'
theorem find_mem {l : List Entry} (h : Asc l) {key : Key} {e : Entry} : findE l key = some e ↔ e ∈ l ∧ e.1 = key := by
  unfold findE
  constructor
  · intro hf
    have := List.find?_some hf
    exact ⟨List.mem_of_find?_eq_some hf, by unfold keyIs at this; exact of_decide_eq_true this⟩
  · rintro ⟨h1, h2⟩
    cases hf : l.find? (keyIs key) with
    | none =>
      have := List.find?_eq_none.1 hf e h1
      exact absurd (by unfold keyIs; exact decide_eq_true h2) this
    | some f =>
      have h3 := List.find?_some hf
      have h3 : f.1 = key := by unfold keyIs at h3; exact of_decide_eq_true h3
      rw [asc_one h (List.mem_of_find?_eq_some hf) h1 (h3.trans h2.symm)]
theorem find_none {l : List Entry} {key : Key} : findE l key = none ↔ ∀ e ∈ l, e.1 ≠ key := by
  unfold findE
  rw [List.find?_eq_none]
  refine forall_congr' fun e => forall_congr' fun he => ?_
  unfold keyIs
  simp
theorem opt_ext {α : Type} {a b : Option α} (h : ∀ e, a = some e ↔ b = some e) : a = b := by
  cases a with
  | none =>
    cases b with
    | none => rfl
    | some y => exact (h y).2 rfl
  | some x => exact ((h x).1 rfl).symm
theorem set_map {l : List Entry} {p : Nat} {e : Entry} (hp : p < l.length) (hk : (l[p]).1 = e.1) : (l.set p e).map (·.1) = l.map (·.1) := by
  apply List.ext_getElem
  · simp
  · intro i h1 h2
    simp only [List.getElem_map, List.getElem_set]
    split
    · rename_i h; subst h; exact hk.symm
    · rfl
theorem asc_map {l m : List Entry} (h : l.map (·.1) = m.map (·.1)) (ha : Asc m) : Asc l := by
  have h1 : ∀ (x : List Entry), Asc x ↔ (x.map (·.1)).Pairwise fun a b => ordK a b = -1 := fun x => by unfold Asc; rw [List.pairwise_map]
  rw [h1, h, ← h1]; exact ha
theorem swap_mem {l : List Entry} (ho : Asc l) {e : Entry} {p : Nat} (hp : p < l.length) (hk : (l[p]).1 = e.1) {x : Entry} : x ∈ l.set p e ↔ x = e ∨ (x ∈ l ∧ x.1 ≠ e.1) := by
  have hn := asc_map (set_map hp hk) ho
  have hmem : e ∈ l.set p e := List.mem_set hp e
  constructor
  · intro h
    by_cases hx : x.1 = e.1
    · exact .inl (asc_one hn h hmem hx)
    · rcases List.mem_or_eq_of_mem_set h with h | h
      · exact .inr ⟨h, hx⟩
      · exact absurd (by rw [h]) hx
  · rintro (rfl | ⟨h1, h2⟩)
    · exact hmem
    · obtain ⟨i, hi, rfl⟩ := List.getElem_of_mem h1
      have hne : p ≠ i := fun h => h2 (by subst h; exact hk)
      have : (l.set p e)[i]'(by rw [List.length_set]; exact hi) = l[i] := List.getElem_set_ne hne _
      rw [← this]; exact List.getElem_mem _
theorem swap_find {l : List Entry} (ho : Asc l) {e : Entry} {p : Nat} (hp : p < l.length) (hk : (l[p]).1 = e.1) (key : Key) : findE (l.set p e) key = if key = e.1 then some e else findE l key := by
  have hn := asc_map (set_map hp hk) ho
  refine opt_ext fun f => ?_
  rw [find_mem hn, swap_mem ho hp hk]
  split
  · rename_i h
    subst h
    constructor
    · rintro ⟨rfl | ⟨_, h1⟩, h2⟩
      · rfl
      · exact absurd h2 h1
    · intro h; cases h; exact ⟨.inl rfl, rfl⟩
  · rename_i h
    rw [find_mem ho]
    constructor
    · rintro ⟨rfl | ⟨h1, _⟩, h2⟩
      · exact absurd h2.symm h
      · exact ⟨h1, h2⟩
    · rintro ⟨h1, h2⟩; exact ⟨.inr ⟨h1, fun h3 => h (h2.symm.trans h3)⟩, h2⟩
theorem rem_find {l : List Entry} (ho : Asc l) {p : Nat} (hp : p < l.length) (key : Key) : findE (l.eraseIdx p) key = if key = (l[p]).1 then none else findE l key := by
  have hs : Asc (l.eraseIdx p) := ho.sublist (List.eraseIdx_sublist l p)
  have hnp : ∀ x ∈ l.eraseIdx p, x.1 ≠ (l[p]).1 := by
    intro x hx hk
    obtain ⟨i, hi, rfl⟩ := List.getElem_of_mem hx
    rw [List.getElem_eraseIdx] at hk
    rw [List.length_eraseIdx_of_lt hp] at hi
    split at hk
    · rename_i hlt
      exact absurd hk (key_ne (List.pairwise_iff_getElem.1 ho i p (by omega) hp hlt))
    · rename_i hge
      exact absurd hk.symm (key_ne (List.pairwise_iff_getElem.1 ho p (i + 1) hp (by omega) (by omega)))
  split
  · rename_i h
    subst h
    exact find_none.2 hnp
  · rename_i h
    refine opt_ext fun f => ?_
    rw [find_mem hs, find_mem ho]
    constructor
    · rintro ⟨h1, h2⟩; exact ⟨(List.eraseIdx_sublist l p).subset h1, h2⟩
    · rintro ⟨h1, h2⟩
      refine ⟨?_, h2⟩
      obtain ⟨i, hi, rfl⟩ := List.getElem_of_mem h1
      have hne : i ≠ p := fun e => h (by subst e; exact h2.symm)
      rw [List.mem_eraseIdx_iff_getElem]
      exact ⟨i, hi, hne, rfl⟩
theorem rem_is (l : List Entry) (p : Nat) : l.take p ++ l.drop (p + 1) = l.eraseIdx p := (List.eraseIdx_eq_take_drop_succ l p).symm
theorem rightS_get {n : Int} : ∀ {ls : List (List Entry)} {i : Nat}, rightS n i ls = true → ∀ (j : Nat) (h : j < ls.length), shardOK ls[j] = true ∧ ∀ e ∈ ls[j], shardK e.1 n = ((i + j : Nat) : Int) := by
  intro ls
  induction ls with
  | nil => intro i _ j h; simp at h
  | cons l t ih =>
    intro i h j hj
    rw [rightS, Bool.and_eq_true, Bool.and_eq_true] at h
    cases j with
    | zero =>
      refine ⟨h.1.1, fun e he => ?_⟩
      have h2 := h.1.2
      rw [Bool.not_eq_true', List.any_eq_false] at h2
      have h3 := h2 e he
      unfold elseE at h3
      simpa using h3
    | succ j =>
      have := ih h.2 j (by simpa using hj)
      rw [show i + 1 + j = i + (j + 1) by omega] at this
      exact this
theorem rightS_of {n : Int} : ∀ {ls : List (List Entry)} {i : Nat}, (∀ (j : Nat) (h : j < ls.length), shardOK ls[j] = true ∧ ∀ e ∈ ls[j], shardK e.1 n = ((i + j : Nat) : Int)) → rightS n i ls = true := by
  intro ls
  induction ls with
  | nil => intro i _; rfl
  | cons l t ih =>
    intro i h
    rw [rightS, Bool.and_eq_true, Bool.and_eq_true]
    have h0 := h 0 (by simp)
    refine ⟨⟨h0.1, ?_⟩, ih fun j hj => ?_⟩
    · rw [Bool.not_eq_true', List.any_eq_false]
      intro e he
      have := h0.2 e he
      unfold elseE
      simpa using this
    · have := h (j + 1) (by simpa using hj)
      rw [show i + (j + 1) = i + 1 + j by omega] at this
      exact this
theorem rightT_iff (t : Tbl) : rightT t = true ↔ (0 ≤ t.1 ∧ t.1 ≤ 128 ∧ 1 ≤ t.2.1.length ∧ t.2.1.length ≤ 16 ∧ (lenS t.2.1 : Int) ≤ t.1) ∧ ∀ (j : Nat) (h : j < t.2.1.length), shardOK t.2.1[j] = true ∧ ∀ e ∈ t.2.1[j], shardK e.1 t.2.1.length = (j : Int) := by
  unfold rightT
  rw [Bool.and_eq_true, decide_eq_true_eq]
  refine and_congr Iff.rfl ⟨fun h j hj => ?_, fun h => rightS_of fun j hj => ?_⟩
  · have := rightS_get h j hj
    rw [Nat.zero_add] at this
    exact this
  · rw [Nat.zero_add]; exact h j hj
def withT (t : Tbl) (a : Nat) (m : List Entry) : Tbl := (t.1, t.2.1.set a m, ())
theorem lenS_set {ls : List (List Entry)} {a : Nat} (h : a < ls.length) (m : List Entry) : lenS (ls.set a m) + ls[a].length = lenS ls + m.length := by
  have e : ls = ls.take a ++ ls[a] :: ls.drop (a + 1) := by rw [← dropAt h, List.take_append_drop]
  have e2 : ls.set a m = ls.take a ++ m :: ls.drop (a + 1) := by rw [List.set_eq_take_append_cons_drop, if_pos h]
  have h1 := congrArg lenS e
  have h2 := congrArg lenS e2
  rw [lenS_app, lenS] at h1 h2
  omega
theorem right_with {t : Tbl} (h : rightT t = true) {a : Nat} (ha : a < t.2.1.length) {m : List Entry} (hm : shardOK m = true) (hk : ∀ e ∈ m, shardK e.1 t.2.1.length = (a : Int)) (hs : (lenS t.2.1 : Int) + m.length ≤ t.1 + t.2.1[a].length) : rightT (withT t a m) = true := by
  obtain ⟨⟨h1, h2, h3, h4, h5⟩, h6⟩ := (rightT_iff t).1 h
  have hl := lenS_set ha m
  refine (rightT_iff _).2 ⟨⟨h1, h2, ?_, ?_, ?_⟩, fun j hj => ?_⟩
  · show 1 ≤ (t.2.1.set a m).length; rw [List.length_set]; exact h3
  · show (t.2.1.set a m).length ≤ 16; rw [List.length_set]; exact h4
  · show (lenS (t.2.1.set a m) : Int) ≤ t.1; omega
  · have hj' : j < t.2.1.length := by have : j < (t.2.1.set a m).length := hj; rw [List.length_set] at this; exact this
    have e1 : (t.2.1.set a m)[j]'(by rw [List.length_set]; exact hj') = if a = j then m else t.2.1[j] := List.getElem_set ..
    show shardOK ((t.2.1.set a m)[j]'(by rw [List.length_set]; exact hj')) = true ∧ ∀ e ∈ (t.2.1.set a m)[j]'(by rw [List.length_set]; exact hj'), shardK e.1 ((t.2.1.set a m).length : Int) = (j : Int)
    rw [e1, List.length_set]
    split
    · rename_i e; subst e; exact ⟨hm, hk⟩
    · exact h6 j hj'
theorem of_with {t : Tbl} {a : Nat} (ha : a < t.2.1.length) (m : List Entry) (key : Key) : ofT (withT t a m) key = if shardK key t.2.1.length = (a : Int) then m else ofT t key := by
  unfold ofT
  show (if shardK key ((t.2.1.set a m).length : Int) < 0 then [] else (t.2.1.set a m).getD (shardK key ((t.2.1.set a m).length : Int)).toNat []) = _
  rw [List.length_set]
  by_cases c : shardK key t.2.1.length = (a : Int)
  · rw [if_pos c, c, if_neg (by omega), Int.toNat_natCast, getD_of (by rw [List.length_set]; exact ha), List.getElem_set_self]
  · rw [if_neg c]
    by_cases c2 : shardK key t.2.1.length < 0
    · rw [if_pos c2, if_pos c2]
    · rw [if_neg c2, if_neg c2]
      rw [List.getD_eq_getElem?_getD, List.getD_eq_getElem?_getD, List.getElem?_set_ne (by omega)]
theorem of_right {t : Tbl} (h : rightT t = true) (key : Key) (hk : keyOK key = true) : ∃ (a : Nat) (ha : a < t.2.1.length), shardK key t.2.1.length = (a : Int) ∧ ofT t key = t.2.1[a] ∧ shardOK t.2.1[a] = true ∧ ∀ e ∈ t.2.1[a], shardK e.1 t.2.1.length = (a : Int) := by
  obtain ⟨⟨h1, h2, h3, h4, h5⟩, h6⟩ := (rightT_iff t).1 h
  obtain ⟨r1, r2⟩ := shardK_ok hk h3 h4
  have hlt : (shardK key t.2.1.length).toNat < t.2.1.length := by omega
  refine ⟨(shardK key t.2.1.length).toNat, hlt, by omega, ?_, (h6 _ hlt).1, (h6 _ hlt).2⟩
  unfold ofT
  rw [if_neg (by omega), getD_of hlt]
theorem of_asc' {t : Tbl} (h : rightT t = true) (key : Key) : Asc (ofT t key) := by
  rcases ofT_mem t key with e | e
  · rw [e]; exact List.Pairwise.nil
  · obtain ⟨j, hj, e2⟩ := List.getElem_of_mem e
    rw [← e2]
    exact asc_of (shard_parts (((rightT_iff t).1 h).2 j hj).1).2.1
theorem entry_key {e : Entry} (h : entryOK e = true) : keyOK e.1 = true := by
  unfold entryOK at h
  simp only [Bool.and_eq_true] at h
  exact h.1.1.1.1
theorem shard_entry {l : List Entry} (h : shardOK l = true) {e : Entry} (he : e ∈ l) : entryOK e = true := List.all_eq_true.1 (shard_parts h).1 e he
theorem mem_find {t : Tbl} (h : rightT t = true) {key : Key} {e : Entry} : findT t key = some e ↔ e ∈ t.2.1.flatten ∧ e.1 = key := by
  have hr := (rightT_iff t).1 h
  unfold findT
  rw [find_mem (of_asc' h key)]
  constructor
  · rintro ⟨h1, h2⟩
    refine ⟨?_, h2⟩
    rcases ofT_mem t key with e2 | e2
    · rw [e2] at h1; cases h1
    · exact List.mem_flatten.2 ⟨_, e2, h1⟩
  · rintro ⟨h1, h2⟩
    refine ⟨?_, h2⟩
    obtain ⟨l, hl, he⟩ := List.mem_flatten.1 h1
    obtain ⟨j, hj, rfl⟩ := List.getElem_of_mem hl
    obtain ⟨h3, h4⟩ := hr.2 j hj
    have h5 := h4 e he
    unfold ofT
    rw [← h2, h5, if_neg (by omega), Int.toNat_natCast, getD_of hj]
    exact he
theorem find_same {t u : Tbl} (ht : rightT t = true) (hu : rightT u = true) (hp : t.2.1.flatten.Perm u.2.1.flatten) (key : Key) : findT t key = findT u key :=
  opt_ext fun e => by rw [mem_find ht, mem_find hu, hp.mem_iff]
theorem find_with {t : Tbl} {a : Nat} (ha : a < t.2.1.length) (m : List Entry) (key : Key) : findT (withT t a m) key = if shardK key t.2.1.length = (a : Int) then findE m key else findT t key := by
  unfold findT
  rw [of_with ha]
  split <;> rfl
theorem flat_one {t : Tbl} (h : rightT t = true) {a b : Entry} (ha : a ∈ t.2.1.flatten) (hb : b ∈ t.2.1.flatten) (e : a.1 = b.1) : a = b := by
  have h1 := (mem_find h (key := a.1)).2 ⟨ha, rfl⟩
  have h2 := (mem_find h (key := a.1)).2 ⟨hb, e.symm⟩
  rw [h1] at h2
  exact Option.some.inj h2
end Go.Proofs.YtcgnmecbdleehaaDoor.G
end
section
set_option linter.unusedVariables false
set_option linter.unusedSimpArgs false
set_option maxRecDepth 100000
namespace Go.Proofs.YtcgnmecbdleehaaDoor.G
open Go Go.Proofs.YtcgnmecbdleehaaDoor Th
theorem G37_is (k : Nat) (t : Tbl) (a : Nat) (ha : a < t.2.1.length) (hn : t.2.1.length ≤ 1000) (m : List Entry) : G37 k (t, (a : Int), m, ()) = some (withT t a m, ()) := by
  obtain ⟨r, s, ⟨⟩⟩ := t
  (try simp only [] at ha hn)
  rw [G37_eq, G70_eq, sel_pos (by omega), ocall_some]
  simp only [ofNat_len, Int.toNat_natCast]
  rw [sel_pos (by omega), sel_pos (by omega), sel_pos (by omega)]
  rfl
theorem flatT_at {ls : List (List Entry)} {a : Nat} (h : a < ls.length) : ls.flatten = (ls.take a).flatten ++ (ls[a] ++ (ls.drop (a + 1)).flatten) := by
  have e : ls = ls.take a ++ ls[a] :: ls.drop (a + 1) := by rw [← dropAt h, List.take_append_drop]
  have e2 := congrArg List.flatten e
  rw [List.flatten_append, List.flatten_cons] at e2
  exact e2
theorem flatT_set {ls : List (List Entry)} {a : Nat} (h : a < ls.length) (m : List Entry) : (ls.set a m).flatten = (ls.take a).flatten ++ (m ++ (ls.drop (a + 1)).flatten) := by
  rw [List.set_eq_take_append_cons_drop, if_pos h, List.flatten_append, List.flatten_cons]
theorem has_none {l : List Entry} (ho : ordered l = true) {key : Key} (h : findE l key = none) : hasAt l key = false := by
  cases hh : hasAt l key with
  | false => rfl
  | true =>
    obtain ⟨hp, _⟩ := hasAt_lt hh
    rw [has_find ho, if_pos hh, List.getElem?_eq_getElem hp] at h
    cases h
theorem has_some {l : List Entry} (ho : ordered l = true) {key : Key} {e : Entry} (h : findE l key = some e) : hasAt l key = true ∧ ∃ hp : posE l key < l.length, l[posE l key] = e := by
  cases hh : hasAt l key with
  | false => rw [has_find ho, if_neg (by rw [hh]; simp)] at h; cases h
  | true =>
    obtain ⟨hp, _⟩ := hasAt_lt hh
    rw [has_find ho, if_pos hh, List.getElem?_eq_getElem hp] at h
    exact ⟨rfl, hp, Option.some.inj h⟩
theorem good_with {t : Tbl} (g : goodTb t) {a : Nat} (ha : a < t.2.1.length) {m : List Entry} (hm : lensL m ∧ goodL m ∧ m.length ≤ 1000) (hs : lenS t.2.1 + m.length ≤ 1000000) : goodTb (withT t a m) := by
  obtain ⟨g1, g2, g3⟩ := g
  refine ⟨fun l hl => ?_, ?_, ?_⟩
  · rcases List.mem_or_eq_of_mem_set (show l ∈ t.2.1.set a m from hl) with h | h
    · exact g1 l h
    · rw [h]; exact hm
  · show (t.2.1.set a m).length ≤ 1000; rw [List.length_set]; exact g2
  · have := lenS_set ha m
    show lenS (t.2.1.set a m) ≤ 1000000; omega
theorem lens_len {t : Tbl} (h : rightT t = true) : lenS t.2.1 ≤ 128 ∧ t.2.1.length ≤ 16 := by
  obtain ⟨⟨h1, h2, h3, h4, h5⟩, _⟩ := (rightT_iff t).1 h
  omega
theorem shard_le {t : Tbl} {a : Nat} (ha : a < t.2.1.length) : t.2.1[a].length ≤ lenS t.2.1 := by
  have := lenS_set ha []
  simp only [List.length_nil] at this
  omega
def insT (t : Tbl) (e : Entry) : Tbl × Int :=
  if rightT t = true ∧ entryOK e = true then
    (match findT t e.1 with
    | some _ => (t, 6)
    | none => if (lenS t.2.1 : Int) = t.1 then (t, 7) else (withT t (shardK e.1 t.2.1.length).toNat (insL (ofT t e.1) e), 0))
  else (t, 1)
theorem ins_laws {t : Tbl} {e : Entry} (h : rightT t = true) (he : entryOK e = true) (hf : findT t e.1 = none) (hn : (lenS t.2.1 : Int) ≠ t.1) :
    insF (ofT t e.1) e = (insL (ofT t e.1) e, 0) ∧ (shardK e.1 t.2.1.length).toNat < t.2.1.length ∧ 0 ≤ shardK e.1 t.2.1.length ∧ rightT (withT t (shardK e.1 t.2.1.length).toNat (insL (ofT t e.1) e)) = true ∧ lenS (withT t (shardK e.1 t.2.1.length).toNat (insL (ofT t e.1) e)).2.1 = lenS t.2.1 + 1 ∧
      (∀ key, findT (withT t (shardK e.1 t.2.1.length).toNat (insL (ofT t e.1) e)) key = if key = e.1 then some e else findT t key) ∧ (withT t (shardK e.1 t.2.1.length).toNat (insL (ofT t e.1) e)).2.1.flatten.Perm (e :: t.2.1.flatten) := by
  obtain ⟨a, ha, hs, ho, h1, h2⟩ := of_right h e.1 (entry_key he)
  obtain ⟨⟨q1, q2, q3, q4, q5⟩, q6⟩ := (rightT_iff t).1 h
  have hf' : findE t.2.1[a] e.1 = none := by unfold findT at hf; rw [ho] at hf; exact hf
  have hle := shard_le ha
  rw [hs, Int.toNat_natCast, ho]
  have hord := (shard_parts h1).2.1
  have hhas := has_none hord hf'
  have hok := ins_ok h1 he hhas (by omega)
  have hord2 := (shard_parts hok).2.1
  refine ⟨?_, ha, by omega, ?_, ?_, fun key => ?_, ?_⟩
  · unfold insF
    rw [if_pos ⟨h1, he⟩, hhas, if_neg (by simp), if_neg (by omega)]
  · refine right_with h ha hok (fun x hx => ?_) (by rw [ins_length]; omega)
    rcases ins_mem hx with hx | rfl
    · exact h2 x hx
    · exact hs
  · have := lenS_set ha (insL t.2.1[a] e)
    rw [ins_length] at this
    show lenS (t.2.1.set a _) = _
    omega
  · rw [find_with ha]
    by_cases c : shardK key t.2.1.length = (a : Int)
    · rw [if_pos c]
      by_cases c2 : key = e.1
      · rw [if_pos c2, c2]; exact ins_find _ _ hord2
      · rw [if_neg c2, ins_find_other c2]
        unfold findT ofT
        rw [c, if_neg (by omega), Int.toNat_natCast, getD_of ha]
    · rw [if_neg c, if_neg (fun c2 => c (by rw [c2]; exact hs))]
  · show (t.2.1.set a (insL t.2.1[a] e)).flatten.Perm _
    rw [flatT_set ha, flatT_at ha]
    have hp : (insL t.2.1[a] e).Perm (e :: t.2.1[a]) := by
      unfold insL
      have h3 := List.perm_middle (a := e) (l₁ := t.2.1[a].take (posE t.2.1[a] e.1)) (l₂ := t.2.1[a].drop (posE t.2.1[a] e.1))
      rw [List.take_append_drop] at h3
      rw [List.append_assoc]
      exact h3
    exact ((hp.append_right _).append_left _).trans List.perm_middle
theorem G11_is (k : Nat) (hk : 1001 < k) (t : Tbl) (gt : goodTb t) (e : Entry) (hle : lensE 300 e) (hge : goodE e) : G11 k (t, e, ()) = some ((insT t e).1, (insT t e).2, ()) := by
  have hR := G13_is k hk t gt
  have hE := G12_is k 300 (by omega) (by omega) (by omega) e hle hge
  have hO := G33_is k (by omega) t e.1 hle.1 hge.1
  obtain ⟨g1, g2, g3⟩ := ofT_good gt e.1
  have hF := G34_is k (ofT t e.1) (by omega) (by omega) e.1
  have hM := G35_is k t (by have := gt.2.1; omega) (by have := gt.2.1; omega) gt.2.2
  have hI := G36_is k hk (ofT t e.1) g1 g2 g3 e hle hge
  have hlaw := fun h1 h2 h3 h4 => ins_laws (t := t) (e := e) h1 h2 h3 h4
  have hW := fun ha => G37_is k t (shardK e.1 t.2.1.length).toNat ha gt.2.1 (insL (ofT t e.1) e)
  have hfind : findT t e.1 = findE (ofT t e.1) e.1 := rfl
  unfold insT
  generalize rightT t = rt at *
  generalize entryOK e = ok at *
  generalize ofT t e.1 = l at *
  generalize findT t e.1 = f at *
  subst hfind
  generalize hsk : shardK e.1 t.2.1.length = q at *
  obtain ⟨r, s, ⟨⟩⟩ := t
  obtain ⟨⟨k1, k2, ⟨⟩⟩, e2, e3, e4, e5, e6, e7, ⟨⟩⟩ := e
  rw [G11_eq, hR, ocall_some]
  cases rt with
  | false => rw [if_neg (by simp)]; rfl
  | true =>
  rw [show (!((true, ()) : Bool × Unit).1) = false from rfl, sel_false, hE, ocall_some]
  cases ok with
  | false => rw [if_neg (by simp)]; rfl
  | true =>
  rw [show (!((true, ()) : Bool × Unit).1) = false from rfl, sel_false, hO, ocall_some]
  rw [show G34 k (((l, q, ()) : List Entry × Int × Unit).1, (k1, k2, ()), ()) = _ from hF, ocall_some]
  simp only [and_self, if_true]
  cases hfe : findE l (k1, k2, ()) with
  | some w => rfl
  | none =>
  simp only [sel_false]
  rw [hM, ocall_some]
  by_cases c : (lenS s : Int) = r
  · rw [sel_pos c, if_pos c]
  · rw [sel_neg c, if_neg c]
    obtain ⟨h1, h2, h3, h4, h5, h6, h7⟩ := hlaw rfl rfl hfe c
    rw [h1] at hI
    rw [hI, ocall_some]
    simp only [decide_true, Bool.not_true, sel_false]
    have hW := hW h2
    rw [show ((q.toNat : Nat) : Int) = q by omega] at hW
    rw [hW, ocall_some]
end Go.Proofs.YtcgnmecbdleehaaDoor.G
end
section
set_option linter.unusedVariables false
set_option linter.unusedSimpArgs false
set_option maxRecDepth 100000
namespace Go.Proofs.YtcgnmecbdleehaaDoor.G
open Go Go.Proofs.YtcgnmecbdleehaaDoor Th
def swpT (t : Tbl) (st : Int) (e : Entry) : Tbl × Int :=
  if rightT t = true ∧ entryOK e = true then
    (match findT t e.1 with
    | none => (t, 5)
    | some w => if w.2.1 = st then (withT t (shardK e.1 t.2.1.length).toNat ((ofT t e.1).set (posE (ofT t e.1) e.1) e), 0) else (t, 8))
  else (t, 1)
theorem swp_laws {t : Tbl} {e w : Entry} (h : rightT t = true) (he : entryOK e = true) (hf : findT t e.1 = some w) :
    (∀ st, swapF (ofT t e.1) st e = if w.2.1 = st then ((ofT t e.1).set (posE (ofT t e.1) e.1) e, 0) else (ofT t e.1, 8)) ∧ (shardK e.1 t.2.1.length).toNat < t.2.1.length ∧ 0 ≤ shardK e.1 t.2.1.length ∧
      rightT (withT t (shardK e.1 t.2.1.length).toNat ((ofT t e.1).set (posE (ofT t e.1) e.1) e)) = true ∧ lenS (withT t (shardK e.1 t.2.1.length).toNat ((ofT t e.1).set (posE (ofT t e.1) e.1) e)).2.1 = lenS t.2.1 ∧
      (∀ key, findT (withT t (shardK e.1 t.2.1.length).toNat ((ofT t e.1).set (posE (ofT t e.1) e.1) e)) key = if key = e.1 then some e else findT t key) := by
  obtain ⟨a, ha, hs, ho, h1, h2⟩ := of_right h e.1 (entry_key he)
  obtain ⟨⟨q1, q2, q3, q4, q5⟩, q6⟩ := (rightT_iff t).1 h
  have hf' : findE t.2.1[a] e.1 = some w := by unfold findT at hf; rw [ho] at hf; exact hf
  rw [hs, Int.toNat_natCast, ho]
  have hord := (shard_parts h1).2.1
  have hasc := asc_of hord
  obtain ⟨hhas, hp, hw⟩ := has_some hord hf'
  have hkey : (t.2.1[a][posE t.2.1[a] e.1]).1 = e.1 := by rw [hw]; exact ((find_mem hasc).1 hf').2
  have hasc2 := asc_map (set_map hp hkey) hasc
  have hok : shardOK (t.2.1[a].set (posE t.2.1[a] e.1) e) = true := by
    obtain ⟨s1, s2, s3⟩ := shard_parts h1
    unfold shardOK
    rw [of_asc hasc2, decide_eq_true (by rw [List.length_set]; exact s3)]
    simp only [Bool.and_true]
    rw [List.all_eq_true] at s1 ⊢
    intro x hx
    rcases List.mem_or_eq_of_mem_set hx with hx | rfl
    · exact s1 x hx
    · exact he
  refine ⟨fun st => ?_, ha, by omega, ?_, ?_, fun key => ?_⟩
  · unfold swapF
    rw [if_pos ⟨h1, he⟩, if_pos hhas, getD_of hp, hw]
  · refine right_with h ha hok (fun x hx => ?_) (by rw [List.length_set]; omega)
    rcases List.mem_or_eq_of_mem_set hx with hx | rfl
    · exact h2 x hx
    · exact hs
  · have := lenS_set ha (t.2.1[a].set (posE t.2.1[a] e.1) e)
    rw [List.length_set] at this
    show lenS (t.2.1.set a _) = _
    omega
  · rw [find_with ha]
    by_cases c : shardK key t.2.1.length = (a : Int)
    · rw [if_pos c, swap_find hasc hp hkey]
      by_cases c2 : key = e.1
      · rw [if_pos c2, if_pos c2]
      · rw [if_neg c2, if_neg c2]
        unfold findT ofT
        rw [c, if_neg (by omega), Int.toNat_natCast, getD_of ha]
    · rw [if_neg c, if_neg (fun c2 => c (by rw [c2]; exact hs))]
theorem G18_is (k : Nat) (hk : 1001 < k) (t : Tbl) (gt : goodTb t) (st : Int) (e : Entry) (hle : lensE 300 e) (hge : goodE e) : G18 k (t, st, e, ()) = some ((swpT t st e).1, (swpT t st e).2, ()) := by
  have hR := G13_is k hk t gt
  have hE := G12_is k 300 (by omega) (by omega) (by omega) e hle hge
  have hO := G33_is k (by omega) t e.1 hle.1 hge.1
  obtain ⟨g1, g2, g3⟩ := ofT_good gt e.1
  have hI := G46_is k hk (ofT t e.1) g1 g2 g3 st e hle hge
  have hlaw := fun w h1 h2 h3 => swp_laws (t := t) (e := e) (w := w) h1 h2 h3
  have hW := fun ha => G37_is k t (shardK e.1 t.2.1.length).toNat ha gt.2.1 ((ofT t e.1).set (posE (ofT t e.1) e.1) e)
  have hnone : rightT t = true → entryOK e = true → findT t e.1 = none → swapF (ofT t e.1) st e = (ofT t e.1, 5) := by
    intro h he hf
    obtain ⟨a, ha, hs, ho, h1, h2⟩ := of_right h e.1 (entry_key he)
    have hf' : findE t.2.1[a] e.1 = none := by unfold findT at hf; rw [ho] at hf; exact hf
    rw [ho]
    unfold swapF
    rw [if_pos ⟨h1, he⟩, has_none (shard_parts h1).2.1 hf', if_neg (by simp)]
  unfold swpT
  generalize rightT t = rt at *
  generalize entryOK e = ok at *
  generalize ofT t e.1 = l at *
  generalize findT t e.1 = f at *
  generalize hsk : shardK e.1 t.2.1.length = q at *
  obtain ⟨r, s, ⟨⟩⟩ := t
  obtain ⟨⟨k1, k2, ⟨⟩⟩, e2, e3, e4, e5, e6, e7, ⟨⟩⟩ := e
  rw [G18_eq, hR, ocall_some]
  cases rt with
  | false => rw [if_neg (by simp)]; rfl
  | true =>
  rw [show (!((true, ()) : Bool × Unit).1) = false from rfl, sel_false, hE, ocall_some]
  cases ok with
  | false => rw [if_neg (by simp)]; rfl
  | true =>
  rw [show (!((true, ()) : Bool × Unit).1) = false from rfl, sel_false, hO, ocall_some]
  simp only [and_self, if_true]
  rw [hI, ocall_some]
  cases f with
  | none => rw [hnone rfl rfl rfl]; rfl
  | some w =>
  obtain ⟨h1, h2, h3, h4, h5, h6⟩ := hlaw w rfl rfl rfl
  rw [h1 st]
  by_cases c : w.2.1 = st
  · rw [if_pos c]
    simp only [decide_true, Bool.not_true, sel_false, if_pos c]
    have hW := hW h2
    rw [show ((q.toNat : Nat) : Int) = q by omega] at hW
    rw [hW, ocall_some]
  · rw [if_neg c]
    simp only [if_neg c]
    rfl
def retT (t : Tbl) (key : Key) : Tbl × Int :=
  if rightT t = true then
    (match findT t key with
    | none => (t, 5)
    | some w => if w.2.1 = 1 ∨ w.2.1 = 4 then (t, 8) else (withT t (shardK key t.2.1.length).toNat ((ofT t key).eraseIdx (posE (ofT t key) key)), 0))
  else (t, 1)
theorem find_ok {t : Tbl} {key : Key} {w : Entry} (h : rightT t = true) (hf : findT t key = some w) : entryOK w = true ∧ w.1 = key ∧ keyOK key = true := by
  obtain ⟨h1, h2⟩ := (mem_find h).1 hf
  obtain ⟨l, hl, hw⟩ := List.mem_flatten.1 h1
  obtain ⟨j, hj, rfl⟩ := List.getElem_of_mem hl
  have h3 := shard_entry (((rightT_iff t).1 h).2 j hj).1 hw
  exact ⟨h3, h2, by rw [← h2]; exact entry_key h3⟩
theorem ret_laws {t : Tbl} {key : Key} {w : Entry} (h : rightT t = true) (hf : findT t key = some w) :
    remF (ofT t key) key = ((ofT t key).eraseIdx (posE (ofT t key) key), 0) ∧ (shardK key t.2.1.length).toNat < t.2.1.length ∧ 0 ≤ shardK key t.2.1.length ∧
      rightT (withT t (shardK key t.2.1.length).toNat ((ofT t key).eraseIdx (posE (ofT t key) key))) = true ∧ lenS (withT t (shardK key t.2.1.length).toNat ((ofT t key).eraseIdx (posE (ofT t key) key))).2.1 + 1 = lenS t.2.1 ∧
      (∀ key2, findT (withT t (shardK key t.2.1.length).toNat ((ofT t key).eraseIdx (posE (ofT t key) key))) key2 = if key2 = key then none else findT t key2) := by
  obtain ⟨_, _, hkok⟩ := find_ok h hf
  obtain ⟨a, ha, hs, ho, h1, h2⟩ := of_right h key hkok
  obtain ⟨⟨q1, q2, q3, q4, q5⟩, q6⟩ := (rightT_iff t).1 h
  have hf' : findE t.2.1[a] key = some w := by unfold findT at hf; rw [ho] at hf; exact hf
  rw [hs, Int.toNat_natCast, ho]
  have hord := (shard_parts h1).2.1
  have hasc := asc_of hord
  obtain ⟨hhas, hp, hw⟩ := has_some hord hf'
  have hkey : (t.2.1[a][posE t.2.1[a] key]).1 = key := by rw [hw]; exact ((find_mem hasc).1 hf').2
  have hsub := List.eraseIdx_sublist t.2.1[a] (posE t.2.1[a] key)
  have hlen := List.length_eraseIdx_of_lt hp
  have hok : shardOK (t.2.1[a].eraseIdx (posE t.2.1[a] key)) = true := by
    obtain ⟨s1, s2, s3⟩ := shard_parts h1
    unfold shardOK
    rw [of_asc (hasc.sublist hsub), decide_eq_true (by omega)]
    simp only [Bool.and_true]
    rw [List.all_eq_true] at s1 ⊢
    intro x hx
    exact s1 x (hsub.subset hx)
  refine ⟨?_, ha, by omega, ?_, ?_, fun key2 => ?_⟩
  · unfold remF
    rw [if_pos h1, if_pos hhas, rem_is]
  · exact right_with h ha hok (fun x hx => h2 x (hsub.subset hx)) (by omega)
  · have := lenS_set ha (t.2.1[a].eraseIdx (posE t.2.1[a] key))
    show lenS (t.2.1.set a _) + 1 = _
    omega
  · rw [find_with ha]
    by_cases c : shardK key2 t.2.1.length = (a : Int)
    · rw [if_pos c, rem_find hasc hp, hkey]
      by_cases c2 : key2 = key
      · rw [if_pos c2, if_pos c2]
      · rw [if_neg c2, if_neg c2]
        unfold findT ofT
        rw [c, if_neg (by omega), Int.toNat_natCast, getD_of ha]
    · rw [if_neg c, if_neg (fun c2 => c (by rw [c2]; exact hs))]
theorem G20_is (k : Nat) (hk : 1001 < k) (t : Tbl) (gt : goodTb t) (key : Key) (hl : key.2.1.length ≤ 300) (hg : 0 ≤ key.1 ∧ key.1 ≤ 4294967295) : G20 k (t, key, ()) = some ((retT t key).1, (retT t key).2, ()) := by
  have hR := G13_is k hk t gt
  have hO := G33_is k (by omega) t key hl hg
  obtain ⟨g1, g2, g3⟩ := ofT_good gt key
  have hF := G34_is k (ofT t key) (by omega) (by omega) key
  have hI := G47_is k hk (ofT t key) g1 g2 g3 key
  have hlaw := fun w h1 h2 => ret_laws (t := t) (key := key) (w := w) h1 h2
  have hW := fun ha => G37_is k t (shardK key t.2.1.length).toNat ha gt.2.1 ((ofT t key).eraseIdx (posE (ofT t key) key))
  have hfind : findT t key = findE (ofT t key) key := rfl
  unfold retT
  generalize rightT t = rt at *
  generalize ofT t key = l at *
  generalize findT t key = f at *
  subst hfind
  generalize hsk : shardK key t.2.1.length = q at *
  obtain ⟨r, s, ⟨⟩⟩ := t
  obtain ⟨k1, k2, ⟨⟩⟩ := key
  rw [G20_eq, hR, ocall_some]
  cases rt with
  | false => rw [if_neg (by simp)]; rfl
  | true =>
  rw [show (!((true, ()) : Bool × Unit).1) = false from rfl, sel_false, hO, ocall_some]
  rw [show G34 k (((l, q, ()) : List Entry × Int × Unit).1, (k1, k2, ()), ()) = _ from hF, ocall_some]
  simp only [if_true]
  cases hfe : findE l (k1, k2, ()) with
  | none => rfl
  | some w =>
  simp only [Bool.not_true, sel_false]
  by_cases c1 : w.2.1 = 1
  · rw [sel_pos c1, sel_pos c1, if_pos (.inl c1)]
  rw [sel_neg c1]
  by_cases c4 : w.2.1 = 4
  · rw [sel_pos c4, if_pos (.inr c4)]
  rw [sel_neg c4, if_neg (fun h => h.elim c1 c4)]
  obtain ⟨h1, h2, h3, h4, h5, h6⟩ := hlaw w rfl hfe
  rw [hI, h1, ocall_some]
  have hW := hW h2
  rw [show ((q.toNat : Nat) : Int) = q by omega] at hW
  (try simp only [])
  rw [hW, ocall_some]
end Go.Proofs.YtcgnmecbdleehaaDoor.G
end
section
set_option linter.unusedVariables false
set_option linter.unusedSimpArgs false
set_option maxRecDepth 100000
namespace Go.Proofs.YtcgnmecbdleehaaDoor.G
open Go Go.Proofs.YtcgnmecbdleehaaDoor Th
theorem lenS_take (ls : List (List Entry)) (i : Nat) : lenS (ls.take i) ≤ lenS ls := by
  have := lenS_app (ls.take i) (ls.drop i)
  rw [List.take_append_drop] at this; omega
theorem lenS_next {ls : List (List Entry)} {i : Nat} (h : i < ls.length) : lenS (ls.take (i + 1)) = lenS (ls.take i) + ls[i].length := by rw [takeAt h, lenS_app]; simp [lenS]
theorem concat_loop1 (k : Nat) (ls : List (List Entry)) (hl : ls.length ≤ 1000000) (hs : lenS ls ≤ 1000000) : ∀ (j i : Nat), i + j = ls.length → ∀ n, j < n →
    G29_3 k n (ls, (lenS (ls.take i) : Int), ls, Int.ofNat ls.length, (i : Int), ()) = some (ls, (lenS ls : Int), ()) := by
  intro j
  induction j with
  | zero =>
    intro i hij n hn
    obtain ⟨n, rfl⟩ : ∃ m, n = m + 1 := ⟨n - 1, by omega⟩
    rw [List.take_of_length_le (by omega), G29_3_eq, sel_neg (by simp only [ofNat_len]; omega)]
  | succ j ih =>
    intro i hij n hn
    obtain ⟨n, rfl⟩ : ∃ m, n = m + 1 := ⟨n - 1, by omega⟩
    have hlt : i < ls.length := by omega
    have hi := ih (i + 1) (by omega) n (by omega)
    have hle := lenS_take ls (i + 1)
    rw [lenS_next hlt] at hi hle
    rw [G29_3_eq]
    simp only [ofNat_len, Int.toNat_natCast, getD_of hlt]
    rw [wrap64 (by omega) (by omega), wrap64 (by omega) (by omega), sel_pos (by omega), sel_pos (by omega), sel_pos (by omega), sel_neg (by omega)]
    exact hi
theorem concat_loop2 (k : Nat) (ls : List (List Entry)) (hl : ls.length ≤ 1000000) (hs : lenS ls ≤ 1000000) : ∀ (j i : Nat), i + j = ls.length → ∀ n, j < n →
    G29_11 k n ((ls.take i).flatten, ls, Int.ofNat ls.length, (i : Int), ()) = some (ls.flatten, ()) := by
  intro j
  induction j with
  | zero =>
    intro i hij n hn
    obtain ⟨n, rfl⟩ : ∃ m, n = m + 1 := ⟨n - 1, by omega⟩
    rw [List.take_of_length_le (by omega), G29_11_eq, sel_neg (by simp only [ofNat_len]; omega)]
  | succ j ih =>
    intro i hij n hn
    obtain ⟨n, rfl⟩ : ∃ m, n = m + 1 := ⟨n - 1, by omega⟩
    have hlt : i < ls.length := by omega
    have hi := ih (i + 1) (by omega) n (by omega)
    have hle := lenS_take ls (i + 1)
    rw [lenS_next hlt] at hle
    have hfl : (ls.take i).flatten.length = lenS (ls.take i) := (lenS_flat _).symm
    have e : (ls.take (i + 1)).flatten = (ls.take i).flatten ++ ls[i] := by rw [takeAt hlt, List.flatten_append]; simp
    rw [e] at hi
    rw [G29_11_eq]
    simp only [ofNat_len, Int.toNat_natCast, getD_of hlt]
    rw [wrap64 (by omega) (by omega), sel_pos (by omega), sel_pos (by omega), sel_pos (by omega), sel_pos (by omega)]
    exact hi
theorem concat_is (k : Nat) (ls : List (List Entry)) (hl : ls.length ≤ 1000000) (hk : ls.length < k) (hs : lenS ls ≤ 1000000) : G29 k (ls, ()) = some (ls.flatten, ()) := by
  have h1 := concat_loop1 k ls hl hs ls.length 0 (by omega) k hk
  have h2 := concat_loop2 k ls hl hs ls.length 0 (by omega) k hk
  rw [List.take_zero, Int.natCast_zero] at h1 h2
  rw [G29_eq, show G29_3 k k (ls, 0, ls, Int.ofNat ls.length, 0, ()) = _ from h1, ocall_some, G61_eq, sel_pos (by (try simp only []); omega), sel_pos (by (try simp only []); omega), ocall_some]
  rw [show G29_11 k k ([], ls, Int.ofNat ls.length, 0, ()) = _ from h2, ocall_some]
theorem order_is (k : Nat) (hk : 2 < k) (x y : Entry) : G31 k (x, y, ()) = some (ordK x.1 y.1, ()) := by
  have h := G32_is k hk x.1 y.1
  obtain ⟨⟨k1, k2, ⟨⟩⟩, e2, e3, e4, e5, e6, e7, ⟨⟩⟩ := x
  obtain ⟨⟨k1', k2', ⟨⟩⟩, e2', e3', e4', e5', e6', e7', ⟨⟩⟩ := y
  rw [G31_eq]
  (try simp only [] at h)
  rw [h, ocall_some]
theorem order_swo : Go.Sort.SWO (ltOf fun x y : Entry => ordK x.1 y.1) := by
  have hlt : ∀ x y : Entry, ltOf (fun x y : Entry => ordK x.1 y.1) x y = decide (ordK x.1 y.1 = -1) := fun x y => by
    unfold ltOf
    exact decide_eq_decide.2 (show ordK x.1 y.1 < 0 ↔ ordK x.1 y.1 = -1 from by have := ordK_cases x.1 y.1; omega)
  refine ⟨fun x => ?_, fun x y z h1 h2 => ?_, fun x y z h1 h2 => ?_⟩
  · rw [hlt, ordK_zero.2 rfl]; rfl
  · rw [hlt] at h1 h2 ⊢
    exact decide_eq_true (ordK_trans (of_decide_eq_true h1) (of_decide_eq_true h2))
  · rw [hlt] at h1 h2 ⊢
    have h1 := of_decide_eq_false h1
    have h2 := of_decide_eq_false h2
    refine decide_eq_false fun h3 => ?_
    have f1 := ordK_flip x.1 y.1
    have f2 := ordK_flip y.1 z.1
    have f3 := ordK_flip x.1 z.1
    rcases ordK_cases y.1 z.1 with c | c | c
    · exact h2 c
    · rw [ordK_zero.1 c] at h1; exact h1 h3
    · have := ordK_trans h3 (show ordK z.1 y.1 = -1 by omega)
      exact h1 this
theorem all_is (k : Nat) (hk : 1001 < k) (t : Tbl) (gt : goodTb t) : ∃ L, G9 k (t, ()) = some (L, ()) ∧ (rightT t = true → L.Perm t.2.1.flatten ∧ Asc L) ∧ (rightT t = false → L = []) := by
  have hR := G13_is k hk t gt
  have hC := concat_is k t.2.1 (by have := gt.2.1; omega) (by have := gt.2.1; omega) gt.2.2
  obtain ⟨L, h1, h2, h3⟩ := Sort30.sortO_is ((0, [], ()), 0, [], 0, [], 0, 0, ()) (c := fun x y : Entry => G31 k (x, y, ())) (fun x y => order_is k (by omega) x y) order_swo t.2.1.flatten (by rw [← lenS_flat]; have := gt.2.2; omega)
  by_cases hr : rightT t = true
  · refine ⟨L, ?_, fun _ => ⟨h2, ?_⟩, fun h => by rw [hr] at h; cases h⟩
    · obtain ⟨r, s, ⟨⟩⟩ := t
      rw [G9_eq, hR, hr, ocall_some]
      rw [show (!((true, ()) : Bool × Unit).1) = false from rfl, sel_false, hC, ocall_some, G7000011_eq, h1, ocall_some]
    · refine List.pairwise_iff_getElem.2 fun i j hi hj hij => ?_
      have h4 := h3 i j hj hij
      have h5 := ordK_flip L[i].1 L[j].1
      rcases ordK_cases L[i].1 L[j].1 with c | c | c
      · exact c
      · exfalso
        have hne : L[i] ≠ L[j] := by
          intro he
          have hnd : L.Nodup := by
            have hn : t.2.1.flatten.Nodup := by
              have hr' := (rightT_iff t).1 hr
              refine List.pairwise_flatten.2 ⟨fun l hl => ?_, ?_⟩
              · obtain ⟨a, ha, rfl⟩ := List.getElem_of_mem hl
                exact (asc_of (shard_parts (hr'.2 a ha).1).2.1).imp fun h => fun e => key_ne h (by rw [e])
              · refine List.pairwise_iff_getElem.2 fun a b ha hb hab x hx y hy hxy => ?_
                have e1 := (hr'.2 a ha).2 x hx
                have e2 := (hr'.2 b hb).2 y hy
                rw [hxy, e2] at e1
                omega
            exact h2.symm.nodup hn
          exact List.pairwise_iff_getElem.1 hnd i j hi hj hij he
        exact hne (flat_one hr (h2.mem_iff.1 (List.getElem_mem hi)) (h2.mem_iff.1 (List.getElem_mem hj)) (ordK_zero.1 c))
      · omega
  · have hr : rightT t = false := by simpa using hr
    refine ⟨[], ?_, (fun h => by rw [hr] at h; cases h), fun _ => rfl⟩
    obtain ⟨r, s, ⟨⟩⟩ := t
    rw [G9_eq, hR, hr, ocall_some]
    rfl
theorem asc_eq {l m : List Entry} (hl : Asc l) (hm : Asc m) (h : l.Perm m) : l = m :=
  List.Perm.eq_of_pairwise (fun a b _ _ h1 h2 => by
    have := ordK_flip a.1 b.1
    omega) hl hm h
def newT (room n : Int) : Tbl := (room, List.replicate n.toNat [], ())
theorem lenS_rep (n : Nat) : lenS (List.replicate n []) = 0 := by
  induction n with
  | zero => rfl
  | succ n ih => rw [List.replicate_succ, lenS, ih]; rfl
theorem new_good {room n : Int} (h2 : n ≤ 16) : goodTb (newT room n) := by
  refine ⟨fun l hl => ?_, ?_, ?_⟩
  · rw [(List.mem_replicate.1 (show l ∈ List.replicate n.toNat [] from hl)).2]
    exact ⟨(fun x hx => by cases hx), (fun x hx => by cases hx), Nat.zero_le _⟩
  · show (List.replicate n.toNat ([] : List Entry)).length ≤ 1000
    rw [List.length_replicate]; omega
  · show lenS (List.replicate n.toNat []) ≤ 1000000
    rw [lenS_rep]; omega
theorem new_right {room n : Int} (h1 : 1 ≤ n) (h2 : n ≤ 16) (r1 : 0 ≤ room) (r2 : room ≤ 128) : rightT (newT room n) = true := by
  refine (rightT_iff _).2 ⟨⟨r1, r2, ?_, ?_, ?_⟩, fun j hj => ?_⟩
  · show 1 ≤ (List.replicate n.toNat ([] : List Entry)).length
    rw [List.length_replicate]; omega
  · show (List.replicate n.toNat ([] : List Entry)).length ≤ 16
    rw [List.length_replicate]; omega
  · show (lenS (List.replicate n.toNat []) : Int) ≤ room
    rw [lenS_rep]; omega
  · have : (newT room n).2.1[j] = [] := List.getElem_replicate ..
    rw [this]
    exact ⟨rfl, fun e he => by cases he⟩
theorem new_find (room n : Int) (key : Key) : findT (newT room n) key = none := by
  unfold findT
  rcases ofT_mem (newT room n) key with h | h
  · rw [h]; rfl
  · rw [(List.mem_replicate.1 (show ofT (newT room n) key ∈ List.replicate n.toNat [] from h)).2]; rfl
theorem new_flat (room n : Int) : (newT room n).2.1.flatten = [] := by
  show (List.replicate n.toNat ([] : List Entry)).flatten = []
  simp
theorem G8_is (k : Nat) (hk : 1001 < k) (room n : Int) (h1 : 1 ≤ n) (h2 : n ≤ 16) (r1 : 0 ≤ room) (r2 : room ≤ 128) : G8 k (room, n, ()) = some (newT room n, 0, ()) := by
  have hR := G13_is k hk (newT room n) (new_good h2)
  rw [new_right h1 h2 r1 r2] at hR
  rw [G8_eq, sel_neg (by omega), sel_neg (by omega), sel_pos (by omega), sel_pos (by omega), sel_pos (by omega), sel_pos (by simp only [Int.ofNat_eq_natCast]; omega)]
  rw [show G13 k ((room, List.replicate n.toNat [], ()), ()) = _ from hR, ocall_some]
  rfl
end Go.Proofs.YtcgnmecbdleehaaDoor.G
end
section
set_option linter.unusedVariables false
set_option linter.unusedSimpArgs false
set_option maxRecDepth 100000
namespace Go.Proofs.YtcgnmecbdleehaaDoor.G
open Go Go.Proofs.YtcgnmecbdleehaaDoor Th
theorem eS0_ok : entryOK eS0 = true := by decide
theorem fS0_ok : entryOK fS0 = true := by decide
theorem eS1_ok : entryOK eS1 = true := by decide
theorem one_good {e : Entry} (h : e = eS0 ∨ e = fS0 ∨ e = eS1) : lensE 300 e ∧ goodE e := by
  have := good1 (l := [e]) (fun x hx => by rw [List.mem_singleton.1 hx]; exact h)
  exact ⟨this.1 e (by simp), this.2 e (by simp)⟩
theorem lensL_ins {l : List Entry} {e : Entry} (h : lensL l) (he : lensE 300 e) : lensL (insL l e) := fun x hx => (ins_mem hx).elim (h x) (fun e2 => by rw [e2]; exact he)
theorem goodL_ins {l : List Entry} {e : Entry} (h : goodL l) (he : goodE e) : goodL (insL l e) := fun x hx => (ins_mem hx).elim (h x) (fun e2 => by rw [e2]; exact he)
theorem insT_good {t : Tbl} (g : goodTb t) {e : Entry} (hle : lensE 300 e) (hge : goodE e) : goodTb (insT t e).1 := by
  unfold insT
  by_cases h : rightT t = true ∧ entryOK e = true
  · rw [if_pos h]
    cases hf : findT t e.1 with
    | some _ => exact g
    | none =>
      (try simp only [])
      by_cases c : (lenS t.2.1 : Int) = t.1
      · rw [if_pos c]; exact g
      · rw [if_neg c]
        obtain ⟨_, ha, _, _, _, _, _⟩ := ins_laws h.1 h.2 hf c
        obtain ⟨g1, g2, g3⟩ := ofT_good g e.1
        have hl := lens_len h.1
        have hsl : (ofT t e.1).length ≤ 128 := by
          rcases ofT_mem t e.1 with q | q
          · rw [q]; simp
          · obtain ⟨j, hj, q2⟩ := List.getElem_of_mem q
            rw [← q2]; have := shard_le hj; omega
        exact good_with g ha ⟨lensL_ins g1 hle, goodL_ins g2 hge, by rw [ins_length]; omega⟩ (by rw [ins_length]; omega)
  · rw [if_neg h]; exact g
theorem ofT_le {t : Tbl} (h : rightT t = true) (key : Key) : (ofT t key).length ≤ 128 := by
  have hl := lens_len h
  rcases ofT_mem t key with q | q
  · rw [q]; simp
  · obtain ⟨j, hj, q2⟩ := List.getElem_of_mem q
    rw [← q2]; have := shard_le hj; omega
theorem swpT_good {t : Tbl} (g : goodTb t) (st : Int) {e : Entry} (hle : lensE 300 e) (hge : goodE e) : goodTb (swpT t st e).1 := by
  unfold swpT
  by_cases h : rightT t = true ∧ entryOK e = true
  · rw [if_pos h]
    cases hf : findT t e.1 with
    | none => exact g
    | some w =>
      (try simp only [])
      by_cases c : w.2.1 = st
      · rw [if_pos c]
        obtain ⟨_, ha, _, _, _, _⟩ := swp_laws h.1 h.2 hf
        obtain ⟨g1, g2, g3⟩ := ofT_good g e.1
        have hl := lens_len h.1
        have hsl := ofT_le h.1 e.1
        refine good_with g ha ⟨fun x hx => ?_, fun x hx => ?_, by rw [List.length_set]; omega⟩ (by rw [List.length_set]; omega)
        · exact (List.mem_or_eq_of_mem_set hx).elim (g1 x) (fun e2 => by rw [e2]; exact hle)
        · exact (List.mem_or_eq_of_mem_set hx).elim (g2 x) (fun e2 => by rw [e2]; exact hge)
      · rw [if_neg c]; exact g
  · rw [if_neg h]; exact g
theorem retT_good {t : Tbl} (g : goodTb t) (key : Key) : goodTb (retT t key).1 := by
  unfold retT
  by_cases h : rightT t = true
  · rw [if_pos h]
    cases hf : findT t key with
    | none => exact g
    | some w =>
      (try simp only [])
      by_cases c : w.2.1 = 1 ∨ w.2.1 = 4
      · rw [if_pos c]; exact g
      · rw [if_neg c]
        obtain ⟨_, ha, _, _, _, _⟩ := ret_laws h hf
        obtain ⟨g1, g2, g3⟩ := ofT_good g key
        have hl := lens_len h
        have hsl := ofT_le h key
        have hsub := List.eraseIdx_sublist (ofT t key) (posE (ofT t key) key)
        have hle := hsub.length_le
        exact good_with g ha ⟨fun x hx => g1 x (hsub.subset hx), fun x hx => g2 x (hsub.subset hx), by omega⟩ (by omega)
  · rw [if_neg h]; exact g
theorem G6_is (k : Nat) (hk : 2000 < k) : G6 k () = some (true, ()) := by
  obtain ⟨le0, ge0⟩ := one_good (e := eS0) (.inl rfl)
  obtain ⟨lf0, gf0⟩ := one_good (e := fS0) (.inr (.inl rfl))
  obtain ⟨le1, ge1⟩ := one_good (e := eS1) (.inr (.inr rfl))
  have r0 := new_right (room := 1) (n := 4) (by omega) (by omega) (by omega) (by omega)
  have g0 := new_good (room := 1) (n := 4) (by omega)
  have hN := G8_is k (by omega) 1 4 (by omega) (by omega) (by omega) (by omega)
  have hz : lenS (newT 1 4).2.1 = 0 := lenS_rep _
  have hroom : (newT 1 4).1 = 1 := rfl
  -- put
  have hI := G11_is k (by omega) (newT 1 4) g0 eS0 le0 ge0
  have g1 := insT_good g0 le0 ge0
  have f0 := new_find 1 4 eS0.1
  obtain ⟨_, _, _, i4, i5, i6, _⟩ := ins_laws r0 eS0_ok f0 (by rw [hz, hroom]; omega)
  have v1 : insT (newT 1 4) eS0 = (withT (newT 1 4) (shardK eS0.1 (newT 1 4).2.1.length).toNat (insL (ofT (newT 1 4) eS0.1) eS0), 0) := by
    unfold insT; rw [if_pos ⟨r0, eS0_ok⟩, f0]; (try simp only []); rw [if_neg (by rw [hz, hroom]; omega)]
  rw [v1] at hI g1
  generalize hT1 : withT (newT 1 4) (shardK eS0.1 (newT 1 4).2.1.length).toNat (insL (ofT (newT 1 4) eS0.1) eS0) = T1 at hI g1 i4 i5 i6
  have g1 : goodTb T1 := g1
  have room1 : T1.1 = 1 := by rw [← hT1]; rfl
  clear hT1 v1
  have hne : fS0.1 ≠ eS0.1 := by decide
  have hI2 := G11_is k (by omega) T1 g1 fS0 lf0 gf0
  have v2 : insT T1 fS0 = (T1, 7) := by
    unfold insT; rw [if_pos ⟨i4, fS0_ok⟩, i6, if_neg hne, new_find]; (try simp only []); rw [if_pos (by rw [i5, hz, room1]; rfl)]
  rw [v2] at hI2
  have fe : findT T1 eS0.1 = some eS0 := by rw [i6, if_pos rfl]
  have hR1 := G20_is k (by omega) T1 g1 eS0.1 le0.1 ge0.1
  have v3 : retT T1 eS0.1 = (T1, 8) := by
    unfold retT; rw [if_pos i4, fe]; (try simp only []); rw [if_pos (.inl rfl)]
  rw [v3] at hR1
  -- swapped
  have hk1 : eS1.1 = eS0.1 := rfl
  have fe1 : findT T1 eS1.1 = some eS0 := fe
  have hS := G18_is k (by omega) T1 g1 1 eS1 le1 ge1
  have g2 := swpT_good g1 1 le1 ge1
  obtain ⟨_, _, _, s4, s5, s6⟩ := swp_laws i4 eS1_ok fe1
  have v4 : swpT T1 1 eS1 = (withT T1 (shardK eS1.1 T1.2.1.length).toNat ((ofT T1 eS1.1).set (posE (ofT T1 eS1.1) eS1.1) eS1), 0) := by
    unfold swpT; rw [if_pos ⟨i4, eS1_ok⟩, fe1]; (try simp only []); rw [if_pos (show eS0.2.1 = 1 from rfl)]
  rw [v4] at hS g2
  generalize withT T1 (shardK eS1.1 T1.2.1.length).toNat ((ofT T1 eS1.1).set (posE (ofT T1 eS1.1) eS1.1) eS1) = T2 at hS g2 s4 s5 s6
  have g2 : goodTb T2 := g2
  have fe2 : findT T2 eS0.1 = some eS1 := by rw [s6, hk1, if_pos rfl]
  have hF := G10_is k (by omega) T2 g2 eS0.1 le0.1 ge0.1
  have v5 : foundT T2 eS0.1 = (eS1, true) := by unfold foundT; rw [if_pos s4, fe2]
  rw [v5] at hF
  have hR2 := G20_is k (by omega) T2 g2 eS0.1 le0.1 ge0.1
  have g3 := retT_good g2 eS0.1
  obtain ⟨_, _, _, t4, t5, t6⟩ := ret_laws s4 fe2
  have v6 : retT T2 eS0.1 = (withT T2 (shardK eS0.1 T2.2.1.length).toNat ((ofT T2 eS0.1).eraseIdx (posE (ofT T2 eS0.1) eS0.1)), 0) := by
    unfold retT; rw [if_pos s4, fe2]; (try simp only []); rw [if_neg (by decide)]
  rw [v6] at hR2 g3
  generalize withT T2 (shardK eS0.1 T2.2.1.length).toNat ((ofT T2 eS0.1).eraseIdx (posE (ofT T2 eS0.1) eS0.1)) = T3 at hR2 g3 t4 t5 t6
  have g3 : goodTb T3 := g3
  obtain ⟨A2, hA2, a2, _⟩ := all_is k (by omega) T2 g2
  obtain ⟨A3, hA3, a3, _⟩ := all_is k (by omega) T3 g3
  have n2 : A2.length = 1 := by rw [(a2 s4).1.length_eq, ← lenS_flat, s5, i5, hz]
  have n3 : A3.length = 0 := by rw [(a3 t4).1.length_eq, ← lenS_flat]; omega
  have hRt := G13_is k (by omega) T2 g2
  rw [s4] at hRt
  generalize newT 1 4 = T0 at hN hI
  obtain ⟨x0, y0, ⟨⟩⟩ := T0
  obtain ⟨x1, y1, ⟨⟩⟩ := T1
  obtain ⟨x2, y2, ⟨⟩⟩ := T2
  obtain ⟨x3, y3, ⟨⟩⟩ := T3
  unfold eS0 rS at hI hR1 hF hR2
  unfold fS0 rS at hI2
  unfold eS1 rS at hS hF
  rw [G6_eq, hN, ocall_some]
  (try simp only [] at hI hI2 hR1 hS hF hR2 ⊢)
  rw [hI, ocall_some, hI2, ocall_some, hR1, ocall_some, hS, ocall_some, hF, ocall_some, hR2, ocall_some]
  (try simp only [])
  rw [hA2, ocall_some, hA3, ocall_some, hRt, ocall_some]
  simp only [ofNat_len, n2, n3]
  rfl
end Go.Proofs.YtcgnmecbdleehaaDoor.G
end
section
set_option linter.unusedVariables false
set_option linter.unusedSimpArgs false
set_option maxRecDepth 100000
namespace Go.Proofs.YtcgnmecbdleehaaDoor.PureTableHolds
open Go Go.Proofs.YtcgnmecbdleehaaDoor Th G
structure Inv (t u : Tbl) : Prop where
  gt : goodTb t
  gu : goodTb u
  rt : rightT t = true
  ru : rightT u = true
  room : t.1 = u.1
  flat : t.2.1.flatten.Perm u.2.1.flatten
theorem Inv.len {t u : Tbl} (h : Inv t u) : lenS t.2.1 = lenS u.2.1 := by rw [lenS_flat, lenS_flat, h.flat.length_eq]
theorem step {t u : Tbl} (h : Inv t u) {e : G.Entry} (le : lensE 300 e) (ge : goodE e) :
    (insT t e).2 = (insT u e).2 ∧ ((insT t e).2 = 0 ↔ entryOK e = true ∧ (foundT t e.1).2 = false ∧ (lenS t.2.1 : Int) < t.1) ∧ (entryOK e = true → (foundT t e.1).2 = true → (insT t e).2 = 6) ∧
      ((insT t e).2 = 0 → foundT (insT t e).1 e.1 = (e, true) ∧ lenS (insT t e).1.2.1 = lenS t.2.1 + 1) ∧ Inv (insT t e).1 (insT u e).1 := by
  have g1 := insT_good h.gt le ge
  have g2 := insT_good h.gu le ge
  have hlen := h.len
  have hsame := find_same h.rt h.ru h.flat e.1
  have hle : (lenS t.2.1 : Int) ≤ t.1 := ((rightT_iff t).1 h.rt).1.2.2.2.2
  by_cases he : entryOK e = true
  case neg =>
    have v1 : insT t e = (t, 1) := by unfold insT; rw [if_neg (fun x => he x.2)]
    have v2 : insT u e = (u, 1) := by unfold insT; rw [if_neg (fun x => he x.2)]
    rw [v1, v2]
    exact ⟨rfl, ⟨(fun x => by cases x), (fun x => absurd x.1 he)⟩, (fun x => absurd x he), (fun x => by cases x), h⟩
  cases hf : findT t e.1 with
  | some w =>
    have hf2 : findT u e.1 = some w := by rw [← hsame, hf]
    have v1 : insT t e = (t, 6) := by unfold insT; rw [if_pos ⟨h.rt, he⟩, hf]
    have v2 : insT u e = (u, 6) := by unfold insT; rw [if_pos ⟨h.ru, he⟩, hf2]
    have hF : foundT t e.1 = (w, true) := by unfold foundT; rw [if_pos h.rt, hf]
    rw [v1, v2, hF]
    exact ⟨rfl, ⟨(fun x => by cases x), fun x => by cases x.2.1⟩, fun _ _ => rfl, (fun x => by cases x), h⟩
  | none =>
    have hf2 : findT u e.1 = none := by rw [← hsame, hf]
    have hF : foundT t e.1 = (zeroE, false) := by unfold foundT; rw [if_pos h.rt, hf]
    by_cases c : (lenS t.2.1 : Int) = t.1
    · have v1 : insT t e = (t, 7) := by unfold insT; rw [if_pos ⟨h.rt, he⟩, hf]; (try simp only []); rw [if_pos c]
      have v2 : insT u e = (u, 7) := by unfold insT; rw [if_pos ⟨h.ru, he⟩, hf2]; (try simp only []); rw [if_pos (by rw [← hlen, ← h.room]; exact c)]
      rw [v1, v2, hF]
      exact ⟨rfl, ⟨(fun x => by cases x), fun x => by have := x.2.2; omega⟩, (fun _ x => by cases x), (fun x => by cases x), h⟩
    · have c2 : (lenS u.2.1 : Int) ≠ u.1 := by rw [← hlen, ← h.room]; exact c
      obtain ⟨_, _, _, i4, i5, i6, i7⟩ := ins_laws h.rt he hf c
      obtain ⟨_, _, _, j4, j5, j6, j7⟩ := ins_laws h.ru he hf2 c2
      have v1 : insT t e = (withT t (shardK e.1 t.2.1.length).toNat (insL (ofT t e.1) e), 0) := by unfold insT; rw [if_pos ⟨h.rt, he⟩, hf]; (try simp only []); rw [if_neg c]
      have v2 : insT u e = (withT u (shardK e.1 u.2.1.length).toNat (insL (ofT u e.1) e), 0) := by unfold insT; rw [if_pos ⟨h.ru, he⟩, hf2]; (try simp only []); rw [if_neg c2]
      rw [v1] at g1 ⊢
      rw [v2] at g2 ⊢
      rw [hF]
      refine ⟨rfl, ⟨fun _ => ⟨he, rfl, by omega⟩, fun _ => rfl⟩, (fun _ x => by cases x), fun _ => ⟨?_, i5⟩, ⟨g1, g2, i4, j4, h.room, ?_⟩⟩
      · unfold foundT; rw [if_pos i4, i6, if_pos rfl]
      · exact i7.trans ((h.flat.cons e).trans j7.symm)
theorem loop (k : Nat) (hk : 2000 < k) (l : List G.Entry) (hl : l.length ≤ 60) (ll : lensL l) (gl : goodL l) : ∀ (j i : Nat), i + j = l.length → ∀ (t u : Tbl), Inv t u → ∀ n, j < n →
    ∃ t' u', Inv t' u' ∧ G3_10 k n (l, (i : Int), t.1, t.2.1, u.1, u.2.1, ()) = some (.inl (t'.1, t'.2.1, u'.1, u'.2.1, ())) := by
  intro j
  induction j with
  | zero =>
    intro i hij t u h n hn
    obtain ⟨n, rfl⟩ : ∃ m, n = m + 1 := ⟨n - 1, by omega⟩
    refine ⟨t, u, h, ?_⟩
    rw [G3_10_eq, sel_neg (by simp only [ofNat_len]; omega)]
  | succ j ih =>
    intro i hij t u h n hn
    obtain ⟨n, rfl⟩ : ∃ m, n = m + 1 := ⟨n - 1, by omega⟩
    have hlt : i < l.length := by omega
    have hm := List.getElem_mem hlt
    have le := ll _ hm
    have ge := gl _ hm
    obtain ⟨p1, p2, p3, p4, p5⟩ := step h le ge
    obtain ⟨t', u', hI, hi⟩ := ih (i + 1) (by omega) _ _ p5 n (by omega)
    refine ⟨t', u', hI, ?_⟩
    obtain ⟨L, hL, hL2, _⟩ := all_is k (by omega) t h.gt
    obtain ⟨LX, hLX, hLX2, _⟩ := all_is k (by omega) (insT t l[i]).1 p5.gt
    have n1 : L.length = lenS t.2.1 := by rw [(hL2 h.rt).1.length_eq, lenS_flat]
    have n2 : LX.length = lenS (insT t l[i]).1.2.1 := by rw [(hLX2 p5.rt).1.length_eq, lenS_flat]
    have hlen := lens_len h.rt
    have hF := G10_is k (by omega) t h.gt l[i].1 le.1 ge.1
    have hX := G11_is k (by omega) t h.gt l[i] le ge
    have hY := G11_is k (by omega) u h.gu l[i] le ge
    have hE := G12_is k 300 (by omega) (by omega) (by omega) l[i] le ge
    have hRX := G13_is k (by omega) (insT t l[i]).1 p5.gt
    rw [p5.rt] at hRX
    have hFX := G10_is k (by omega) (insT t l[i]).1 p5.gt l[i].1 le.1 ge.1
    have hsE := G.sameE l[i] l[i]
    rw [← n1] at p2
    have p4' : (insT t l[i]).2 = 0 → foundT (insT t l[i]).1 l[i].1 = (l[i], true) ∧ LX.length = L.length + 1 := fun c => ⟨(p4 c).1, by rw [n2, n1]; exact (p4 c).2⟩
    rw [G3_10_eq]
    simp only [ofNat_len, Int.toNat_natCast, getD_of hlt]
    clear p4 p5 hI n2 hL2 hLX2 ih h
    have h0 : (0 : Int) ≤ (i : Int) := by omega
    have h1 : (i : Int) < (l.length : Int) := by omega
    simp only [sel_pos h0, sel_pos h1]
    rw [show IntKind.i64.wrap ((i : Int) + 1) = ((i + 1 : Nat) : Int) from by rw [wrap64 (by omega) (by omega)]; omega]
    generalize foundT (insT t l[i]).1 l[i].1 = FX at *
    generalize foundT t l[i].1 = F at *
    generalize insT t l[i] = X at *
    generalize insT u l[i] = Y at *
    generalize entryOK l[i] = ok at *
    generalize l[i] = e at *
    obtain ⟨r, s, ⟨⟩⟩ := t
    obtain ⟨r2, s2, ⟨⟩⟩ := u
    obtain ⟨⟨x1, x2, ⟨⟩⟩, xc⟩ := X
    obtain ⟨⟨y1, y2, ⟨⟩⟩, yc⟩ := Y
    obtain ⟨⟨k1, k2, ⟨⟩⟩, e2, e3, e4, e5, e6, e7, ⟨⟩⟩ := e
    (try simp only [] at hL hF hX hY hE hRX hLX hFX hi hsE p1 p2 p3 p4' n1 hlen ⊢)
    rw [hL, ocall_some, hF, ocall_some, hX, ocall_some, hY, ocall_some, hE, ocall_some]
    (try simp only [])
    rw [sel_not, sel_pos p1]
    have hcont : (ocall (G13 k ((x1, x2, ()), ())) fun r_5 => sel (!r_5.1) (some (Sum.inr (false, ()))) (sel (decide (xc = 0)) (ocall (G10 k ((x1, x2, ()), (k1, k2, ()), ())) fun r_6 => sel (!r_6.2.1) (some (Sum.inr (false, ()))) (sel (!(sameI r_6.1.1.1 k1 && (sameS r_6.1.1.2.1 k2 && true) && (sameI r_6.1.2.1 e2 && (sameS r_6.1.2.2.1 e3 && (sameI r_6.1.2.2.2.1 e4 && (sameS r_6.1.2.2.2.2.1 e5 && (sameI r_6.1.2.2.2.2.2.1 e6 && (sameI r_6.1.2.2.2.2.2.2.1 e7 && true))))))))
        (some (Sum.inr (false, ()))) (ocall (G9 k ((x1, x2, ()), ())) fun r_7 => sel (!decide (((r_7.1.length : Nat) : Int) = IntKind.i64.wrap ((L.length : Int) + 1))) (some (Sum.inr (false, ()))) (G3_10 k n (l, ((i + 1 : Nat) : Int), x1, x2, y1, y2, ())))))
        (G3_10 k n (l, ((i + 1 : Nat) : Int), x1, x2, y1, y2, ())))) = some (.inl (t'.1, t'.2.1, u'.1, u'.2.1, ())) := by
      rw [hRX, ocall_some, show (!((true, ()) : Bool × Unit).1) = false from rfl, sel_false]
      by_cases c : xc = 0
      · obtain ⟨q1, q2⟩ := p4' c
        rw [q1] at hFX
        rw [sel_pos c, hFX, ocall_some]
        (try simp only [])
        rw [Bool.not_true, sel_false, hsE, sel_not, sel_pos trivial, hLX, ocall_some]
        (try simp only [])
        rw [sel_not, sel_pos (show (LX.length : Int) = IntKind.i64.wrap ((L.length : Int) + 1) from by rw [wrap64 (by omega) (by omega)]; omega)]
        exact hi
      · rw [sel_neg c]; exact hi
    clear p1 p4' hsE hFX hRX hLX hX hY hF hE hL hi
    cases ok with
    | false =>
      have q : ¬ xc = 0 := fun c => by have := (p2.1 c).1; cases this
      rw [decide_eq_false q] at hcont ⊢
      exact hcont
    | true =>
      cases hs : F.2 with
      | true =>
        have q : xc = 6 := p3 rfl hs
        subst q
        exact hcont
      | false =>
        by_cases c : (L.length : Int) < r
        · have q : xc = 0 := p2.2 ⟨rfl, hs, by first | exact c | omega⟩
          subst q
          rw [decide_eq_true c]
          exact hcont
        · have q : ¬ xc = 0 := fun c2 => c (by have := (p2.1 c2).2.2; first | exact this | omega)
          rw [decide_eq_false q] at hcont
          rw [decide_eq_false q, decide_eq_false c]
          exact hcont
theorem room_of {x : Int} (h0 : 0 ≤ x) (h1 : x ≤ 255) : IntKind.i64.wrap x = x ∧ 0 ≤ x.tmod 129 ∧ x.tmod 129 ≤ 128 ∧ 1 ≤ IntKind.i64.wrap (x.tmod 16 + 1) ∧ IntKind.i64.wrap (x.tmod 16 + 1) ≤ 16 := by
  have e1 : x.tmod 16 = x % 16 := Int.tmod_eq_emod_of_nonneg h0
  have e2 : x.tmod 129 = x % 129 := Int.tmod_eq_emod_of_nonneg h0
  rw [e1, e2, wrap64 (by omega) (by omega), wrap64 (by omega) (by omega)]
  omega
theorem main (x0 x1 x2 : Int) (l : List G.Entry) (r0 : 0 ≤ x0 ∧ x0 ≤ 255) (r1 : 0 ≤ x1 ∧ x1 ≤ 255) (r2 : 0 ≤ x2 ∧ x2 ≤ 255) (gl : goodL l) : G3 6000 (x0, x1, x2, l, ()) = some (true, ()) := by
  obtain ⟨b, hSh, hb⟩ := G7_is 6000 (by omega) l
  obtain ⟨w0, a0, a1, _, _⟩ := room_of r0.1 r0.2
  obtain ⟨w1, _, _, b0, b1⟩ := room_of r1.1 r1.2
  obtain ⟨w2, _, _, c0, c1⟩ := room_of r2.1 r2.2
  rw [G3_eq, G6_is 6000 (by omega), ocall_some, show (!((true, ()) : Bool × Unit).1) = false from rfl, sel_false, w0, w1, w2]
  by_cases h60 : 60 < l.length
  · rw [sel_pos (by simp only [ofNat_len]; omega)]
  rw [sel_neg (by simp only [ofNat_len]; omega), hSh, ocall_some]
  cases b with
  | false => rfl
  | true =>
  rw [show (!((true, ()) : Bool × Unit).1) = false from rfl, sel_false]
  generalize hR : x0.tmod 129 = R at *
  generalize hS : IntKind.i64.wrap (x1.tmod 16 + 1) = A at *
  generalize hU : IntKind.i64.wrap (x2.tmod 16 + 1) = B at *
  rw [G8_is 6000 (by omega) R A b0 b1 a0 a1, ocall_some, G8_is 6000 (by omega) R B c0 c1 a0 a1, ocall_some]
  rw [sel_not, sel_pos rfl, sel_not, sel_pos rfl]
  have hI : Inv (newT R A) (newT R B) := ⟨new_good b1, new_good c1, new_right b0 b1 a0 a1, new_right c0 c1 a0 a1, rfl, by rw [new_flat, new_flat]⟩
  obtain ⟨t, u, h, hl⟩ := loop 6000 (by omega) l (by omega) (fun e he => (hb rfl).2 e he) gl l.length 0 (by omega) _ _ hI 6000 (by omega)
  rw [Int.natCast_zero] at hl
  rw [hl, ocall_some, esel_inl]
  obtain ⟨L, hL, hL2, _⟩ := all_is 6000 (by omega) t h.gt
  obtain ⟨M, hM, hM2, _⟩ := all_is 6000 (by omega) u h.gu
  have e1 := hL2 h.rt
  have e2 := hM2 h.ru
  have e3 : L = M := asc_eq e1.2 e2.2 (e1.1.trans (h.flat.trans e2.1.symm))
  subst e3
  have n1 : L.length = lenS t.2.1 := by rw [e1.1.length_eq, lenS_flat]
  have hlen := lens_len h.rt
  have hle : (lenS t.2.1 : Int) ≤ t.1 := ((rightT_iff t).1 h.rt).1.2.2.2.2
  have hSm := G14_is 6000 L L (by omega) (by omega)
  rw [decide_eq_true rfl] at hSm
  obtain ⟨r, s, ⟨⟩⟩ := t
  obtain ⟨r2, s2, ⟨⟩⟩ := u
  (try simp only [] at hL hM hle n1 ⊢)
  rw [hL, ocall_some, hM, ocall_some, hSm, ocall_some, sel_true, ocall_some]
  simp only [ofNat_len]
  rw [decide_eq_true (by omega)]
theorem pure (x0 : Ty.den (.int .u8)) (x1 : Ty.den (.int .u8)) (x2 : Ty.den (.int .u8)) (x3 : Ty.den (.slice (.st (.cons (.st (.cons (.int .u32) (.cons .str .nil))) (.cons (.int .i64) (.cons .str (.cons (.int .u64) (.cons .str (.cons (.int .i64) (.cons (.int .i64) .nil)))))))))) (g0 : Ty.Good (.int .u8) x0) (g1 : Ty.Good (.int .u8) x1) (g2 : Ty.Good (.int .u8) x2) (g3 : Ty.Good (.slice (.st (.cons (.st (.cons (.int .u32) (.cons .str .nil))) (.cons (.int .i64) (.cons .str (.cons (.int .u64) (.cons .str (.cons (.int .i64) (.cons (.int .i64) .nil))))))))) x3) : ∃ k, F3 k (x0, (x1, (x2, (x3, PUnit.unit)))) = some (true, PUnit.unit) :=
  ⟨6000, main x0 x1 x2 x3 (good_u8 g0) (good_u8 g1) (good_u8 g2) (fun e he => have h := g3.2.2 e he; ⟨good_u32 h.1.1, good_u64 h.2.2.2.1⟩)⟩
end Go.Proofs.YtcgnmecbdleehaaDoor.PureTableHolds
end
section
set_option linter.unusedVariables false
set_option linter.unusedSimpArgs false
namespace Go.Proofs.YtcgnmecbdleehaaDoor
open Go Go.ChangeShapes Go.WideShapes Go.ChangeAt Go.RowKit Th
theorem own : ownKnob Tryd.prog.godebug = none := by kernel_rfl
theorem laidOut : laidOutB Tryd.prog = true := by kernel_rfl
theorem gTypes : Tryd.prog.globalNamed "paydesk/deal.types" = some 0 := by kernel_rfl
theorem tTypes : (Tryd.prog.globals[0]?).map (·.type) = some 167 := by kernel_rfl
theorem mapsRowed' : mapsRowed Tryd.prog = true := by kernel_rfl
theorem stopsHeard' : Tryd.prog.stopsHeard = true := by kernel_rfl
theorem stops' : Tryd.prog.stops = [] := by kernel_rfl
theorem stopKnobs' : Tryd.prog.stopKnobs = [] := by kernel_rfl
theorem plainKeys' : Tryd.prog.plainKeys = Rows.tableHoldsRow.plainKeys := by kernel_rfl
def ioL : List Char := [Char.ofNat 104, Char.ofNat 97, Char.ofNat 114, Char.ofNat 110, Char.ofNat 101, Char.ofNat 115, Char.ofNat 115, Char.ofNat 32, Char.ofNat 100, Char.ofNat 52, Char.ofNat 54, Char.ofNat 48, Char.ofNat 48, Char.ofNat 56, Char.ofNat 99, Char.ofNat 102, Char.ofNat 98, Char.ofNat 51, Char.ofNat 101, Char.ofNat 99, Char.ofNat 48, Char.ofNat 101, Char.ofNat 56, Char.ofNat 53, Char.ofNat 52, Char.ofNat 102, Char.ofNat 50, Char.ofNat 98, Char.ofNat 100, Char.ofNat 55, Char.ofNat 51, Char.ofNat 50, Char.ofNat 51, Char.ofNat 99, Char.ofNat 55, Char.ofNat 100, Char.ofNat 50, Char.ofNat 102, Char.ofNat 54, Char.ofNat 97, Char.ofNat 98, Char.ofNat 48, Char.ofNat 55, Char.ofNat 102, Char.ofNat 102, Char.ofNat 101, Char.ofNat 51, Char.ofNat 50, Char.ofNat 52, Char.ofNat 49, Char.ofNat 56, Char.ofNat 56, Char.ofNat 56, Char.ofNat 53, Char.ofNat 101, Char.ofNat 55, Char.ofNat 48, Char.ofNat 49, Char.ofNat 52, Char.ofNat 99, Char.ofNat 100, Char.ofNat 99, Char.ofNat 49, Char.ofNat 55, Char.ofNat 56, Char.ofNat 97, Char.ofNat 56, Char.ofNat 97, Char.ofNat 99, Char.ofNat 51, Char.ofNat 51, Char.ofNat 100, Char.ofNat 32, Char.ofNat 99, Char.ofNat 117, Char.ofNat 116, Char.ofNat 32, Char.ofNat 97, Char.ofNat 116, Char.ofNat 32, Char.ofNat 112, Char.ofNat 97, Char.ofNat 121, Char.ofNat 100, Char.ofNat 101, Char.ofNat 115, Char.ofNat 107, Char.ofNat 47, Char.ofNat 112, Char.ofNat 97, Char.ofNat 121, Char.ofNat 100, Char.ofNat 101, Char.ofNat 115, Char.ofNat 107, Char.ofNat 108, Char.ofNat 97, Char.ofNat 119, Char.ofNat 49, Char.ofNat 49, Char.ofNat 46, Char.ofNat 84, Char.ofNat 97, Char.ofNat 98, Char.ofNat 108, Char.ofNat 101, Char.ofNat 72, Char.ofNat 111, Char.ofNat 108, Char.ofNat 100, Char.ofNat 115, Char.ofNat 32, Char.ofNat 112, Char.ofNat 97, Char.ofNat 121, Char.ofNat 100, Char.ofNat 101, Char.ofNat 115, Char.ofNat 107, Char.ofNat 47, Char.ofNat 112, Char.ofNat 97, Char.ofNat 121, Char.ofNat 100, Char.ofNat 101, Char.ofNat 115, Char.ofNat 107, Char.ofNat 108, Char.ofNat 97, Char.ofNat 119, Char.ofNat 49, Char.ofNat 49, Char.ofNat 46, Char.ofNat 84, Char.ofNat 97, Char.ofNat 98, Char.ofNat 108, Char.ofNat 101, Char.ofNat 83, Char.ofNat 119, Char.ofNat 97, Char.ofNat 112, Char.ofNat 115, Char.ofNat 32, Char.ofNat 112, Char.ofNat 97, Char.ofNat 121, Char.ofNat 100, Char.ofNat 101, Char.ofNat 115, Char.ofNat 107, Char.ofNat 47, Char.ofNat 112, Char.ofNat 97, Char.ofNat 121, Char.ofNat 100, Char.ofNat 101, Char.ofNat 115, Char.ofNat 107, Char.ofNat 108, Char.ofNat 97, Char.ofNat 119, Char.ofNat 50, Char.ofNat 49, Char.ofNat 46, Char.ofNat 84, Char.ofNat 114, Char.ofNat 97, Char.ofNat 99, Char.ofNat 101, Char.ofNat 79, Char.ofNat 116, Char.ofNat 104, Char.ofNat 101, Char.ofNat 114, Char.ofNat 115]
theorem io0 : Tryd.prog.initOrder = String.ofList ioL := by kernel_rfl
theorem io : Tryd.prog.initOrder.toList = ioL := by rw [io0, String.toList_ofList]
def ioW : List (List Char) := wordsSigns ioL
theorem ws : wordsSigns Tryd.prog.initOrder.toList = ioW := by rw [io]; rfl
def mainOf (l : List (List Char)) : Option (Bool × List Char) := match l with
  | h :: s :: _ => if !isSumSigns s then none else if h == "harness".toList then some (true, s) else if h == "ownmain".toList then some (false, s) else none
  | _ => none
theorem mainIs_of {P : Program} {W : List (List Char)} (h : wordsSigns P.initOrder.toList = W) : P.mainIs = mainOf W := by
  unfold Program.mainIs; rw [h]; rfl
theorem sha : (ioL.drop 8).take 64 = "d46008cfb3ec0e854f2bd7323c7d2f6ab07ffe32418885e7014cdc178a8ac33d".toList := by
  have : "d46008cfb3ec0e854f2bd7323c7d2f6ab07ffe32418885e7014cdc178a8ac33d" = String.ofList ((ioL.drop 8).take 64) := by kernel_rfl
  rw [this, String.toList_ofList]
theorem main0 : mainOf ioW = some (true, (ioL.drop 8).take 64) := by kernel_rfl
theorem mainIs' : Tryd.prog.mainIs = some (true, "d46008cfb3ec0e854f2bd7323c7d2f6ab07ffe32418885e7014cdc178a8ac33d".toList) := by
  rw [← sha, ← main0]; exact mainIs_of ws
def mayOf (l : List (List Char)) (laysLater bearsReflect : Bool) (fits : List String → Bool) : Bool := match behindMainWord l with
  | c :: rest =>
    ((c == "gc".toList || c == "spec".toList) && (rest.isEmpty || rest.head? == some "stop".toList)) ||
    (c == "carried".toList && rest.take 2 == ["gc".toList, "cut".toList] && !laysLater && !bearsReflect) ||
    ((stripLifts liftWords (c :: rest)).2.head? == some "cut".toList &&
      ((stripLifts liftWords (c :: rest)).1.contains "finals" || !laysLater) && ((stripLifts liftWords (c :: rest)).1.contains "reflectrows" || !bearsReflect) &&
      ((stripLifts liftWords (c :: rest)).1.contains "reflectrows" || !(stripLifts liftWords (c :: rest)).1.contains "leanrows") &&
      fits (stripLifts liftWords (c :: rest)).1)
  | [] => false
theorem may_of {P : Program} {W : List (List Char)} (h : wordsSigns P.initOrder.toList = W) : P.mayEnter = mayOf W P.laysLater P.bearsReflect P.doorFits := by
  unfold Program.mayEnter; rw [h]; rfl
theorem lays : Tryd.prog.laysLater = false := by kernel_rfl
theorem bears : Tryd.prog.bearsReflect = false := by kernel_rfl
theorem strip0 : mayOf ioW false false (fun l => decide (l = [])) = true := by kernel_rfl
theorem fits0 : Tryd.prog.doorFits [] = true := by kernel_rfl
theorem may_mono {W : List (List Char)} {a b : Bool} {f g : List String → Bool} (hfg : ∀ l, f l = true → g l = true) (h : mayOf W a b f = true) : mayOf W a b g = true := by
  unfold mayOf at h ⊢
  split at h
  · simp only [Bool.or_eq_true, Bool.and_eq_true] at h ⊢
    rcases h with (h | h) | h
    · exact .inl (.inl h)
    · exact .inl (.inr h)
    · exact .inr ⟨h.1, hfg _ h.2⟩
  · exact h
theorem mayEnter' : Tryd.prog.mayEnter = true := by
  rw [may_of ws, lays, bears]
  exact may_mono (fun l h => by rw [decide_eq_true_eq] at h; rw [h]; exact fits0) strip0
def liftsOf (l : List (List Char)) : List String :=
  let r := stripLifts liftWords (behindMainWord l)
  if r.2.head? == some "cut".toList then r.1 else []
theorem headLifts_of {P : Program} {W : List (List Char)} (h : wordsSigns P.initOrder.toList = W) : P.headLifts = liftsOf W := by
  unfold Program.headLifts; rw [h]; rfl
theorem headLifts' : Tryd.prog.headLifts = [] := (headLifts_of ws).trans (by kernel_rfl)
def finalOf (l : List (List Char)) (hl : List String) : Bool :=
  let ws := behindMainWord l
  (ws.head? == some "carried".toList && ws.take 3 != ["carried".toList, "gc".toList, "cut".toList]) || hl.contains "finals"
theorem liftsFinal_of {P : Program} {W : List (List Char)} (h : wordsSigns P.initOrder.toList = W) : P.liftsFinal = finalOf W P.headLifts := by
  unfold Program.liftsFinal; rw [h]; rfl
theorem liftsFinal' : Tryd.prog.liftsFinal = Rows.tableHoldsRow.lifted := by rw [liftsFinal_of ws, headLifts']; kernel_rfl
def makeOf (l : List (List Char)) (hl : List String) : Option Make :=
  match behindMainWord l with
  | c :: rest => if c == "gc".toList || c == "spec".toList then some .whole else if c == "cut".toList || (c == "finals".toList && rest.head? == some "cut".toList) then some .cut else if c == "carried".toList then some .carried else if hl.isEmpty then none else some (.lifted hl)
  | [] => none
theorem make_of {P : Program} {W : List (List Char)} (h : wordsSigns P.initOrder.toList = W) : P.make = makeOf W P.headLifts := by
  unfold Program.make; rw [h]; rfl
theorem make' : Tryd.prog.make = some Rows.tableHoldsRow.make := by rw [make_of ws, headLifts']; kernel_rfl
abbrev laidL : List (String × DataW Unit) := [("paydesk/deal.types", Rows.laid_paydesk_deal_types)]
theorem door_met (os : Os) (args : Array Value) : laidMetH Tryd.prog laidL ((World.doorLaid Tryd.prog 400 os).forCall (fun _ _ => 0) ⟨#[], args, []⟩).memory :=
  laidMetH_of_parts3 (fuel := 8) (laidMet_of_run' 8 (by kernel_rfl) (by kernel_rfl)) (by kernel_rfl) (by kernel_rfl)
theorem glob_of_laid {W : World} (h : laidMetH Tryd.prog laidL W) : GlobOK W (Old W) := by
  rw [MakeChecks.laidMetH_plain _ _ _ (by kernel_rfl)] at h
  obtain ⟨ps, ⟨g0, t0, cs0, f0, p0, q0, hg0, ht0, hv0, hd0, _, _⟩, _, _⟩ := h
  obtain rfl := Option.some.inj (gTypes.symm.trans hg0)
  obtain rfl := Option.some.inj (tTypes.symm.trans ht0)
  obtain ⟨xs, m1, rfl, hx1, hlen, hn8, hel⟩ := DataW.trod_array Tryd.underlying167 hd0
  have c9 : Tryd.prog.cellsOf 9 = 1 := by kernel_rfl
  have cA : Tryd.prog.cellsOf 167 = 8 := by kernel_rfl
  simp only [Prod.mk.injEq] at hx1
  have hx1 : (DataW.agg [.lit (.string []), .lit (.string [48, 49, 48, 48]), .lit (.string [48, 49, 49, 48]), .lit (.string [48, 52, 48, 48]), .lit (.string [48, 52, 49, 48]), .lit (.string [48, 52, 50, 48]), .lit (.string [48, 52, 50, 49]), .lit (.string [48, 52, 51, 48])] : DataW Unit) = .agg (xs.map (·.1)) := hx1.1
  simp only [DataW.agg.injEq] at hx1
  have key : ∀ (j : Nat) (s : List UInt8), ([[], [48, 49, 48, 48], [48, 49, 49, 48], [48, 52, 48, 48], [48, 52, 49, 48], [48, 52, 50, 48], [48, 52, 50, 49], [48, 52, 51, 48]] : List (List UInt8))[j]? = some s → W.cell? ⟨0, j, none⟩ = some (strV s) := by
    intro j s hs
    have hj : j < 8 := by have := (List.getElem?_eq_some_iff.1 hs).1; simpa using this
    have he := hel j hj
    rw [c9, Nat.mul_one] at he
    have hxj : xs[j]? = some xs[j] := by simp [show j < xs.length by omega]
    rw [hxj] at he
    obtain ⟨b, e1, e2, _⟩ := DataW.trod_string Tryd.underlying9 he
    have hlit : xs[j].1 = .lit (.string s) := by
      have e3 : (xs.map (·.1))[j]? = some xs[j].1 := by rw [List.getElem?_map, hxj]; rfl
      rw [← hx1] at e3
      have h8 : j = 0 ∨ j = 1 ∨ j = 2 ∨ j = 3 ∨ j = 4 ∨ j = 5 ∨ j = 6 ∨ j = 7 := by omega
      rcases h8 with rfl | rfl | rfl | rfl | rfl | rfl | rfl | rfl <;> (simp only [List.getElem?_cons_zero, List.getElem?_cons_succ, Option.some.injEq] at e3 hs; subst hs; exact e3.symm)
    rw [e2] at hlit
    have hb : b.data.toList = s := by simpa using hlit
    have hc : cs0[j]? = some (.string b) := by
      have : (cs0.toList.drop j).take 1 = [.string b] := e1
      have h1 : ((cs0.toList.drop j).take 1)[0]? = some (.string b) := by rw [this]; rfl
      rw [List.getElem?_take_of_lt (by omega), List.getElem?_drop, Nat.add_zero, Array.getElem?_toList] at h1
      exact h1
    rw [World.var?_cell gTypes hv0 j, hc]
    unfold strV
    rw [← hb]
  have h0 : 0 < W.heap.size := by
    have := key 0 [] rfl
    unfold World.cell? at this
    split at this
    · rename_i hb; exact (Array.getElem?_eq_some_iff.1 hb).1
    · cases this
  intro n r hr
  have hn : n = 0 := by
    unfold gtab at hr
    cases hb : Nat.beq n 0 with
    | false => rw [hb] at hr; cases hr
    | true => exact Nat.eq_of_beq_eq_true hb
  subst hn
  have hr : r = ⟨9, .str, [[], [48, 49, 48, 48], [48, 49, 49, 48], [48, 52, 48, 48], [48, 52, 49, 48], [48, 52, 50, 48], [48, 52, 50, 49], [48, 52, 51, 48]]⟩ := (Option.some.inj hr).symm
  subst hr
  refine ⟨_, rfl, fun j x hx => ⟨[strV x], rfl, fun i u hu => ?_, rfl⟩⟩
  have hi : i = 0 := by have := (List.getElem?_eq_some_iff.1 hu).1; simp at this; omega
  subst hi
  have hu : u = strV x := by simpa using hu.symm
  subst hu
  have ha : (⟨0, 0, none⟩ : Addr).add (j * (Ty.size .str) + 0) = ⟨0, j, none⟩ := by
    show (⟨0, 0, none⟩ : Addr).add (j * 1 + 0) = _
    unfold Addr.add; split <;> simp_all
  rw [ha]
  exact ⟨key j x hx, h0⟩
end Go.Proofs.YtcgnmecbdleehaaDoor
end
section
set_option linter.unusedVariables false
set_option linter.unusedSimpArgs false
namespace Go.Proofs.YtcgnmecbdleehaaDoor.tableHolds
open Go.ChangeShapes Go.WideShapes Go.ChangeAt Go.RowKit Go.Proofs.YtcgnmecbdleehaaDoor Th G
open Go.ChangeMaps (open_string shut_string)
theorem own : ownKnob Tryd.prog.godebug = none := by kernel_rfl
theorem laidOut : laidOutB Tryd.prog = true := by kernel_rfl
set_option maxRecDepth 100000 in
theorem lifted (os : Os) (started : os.Started) (H : Type) (enc : TypeId × Value → H) :
    ReturnsInHanded {} Tryd.checked os 3 .any (fun w args => (Rows.tableHoldsSpec.pre enc Tryd.prog Tryd.f3 [] false w args ∧ laidMetH Tryd.prog laidL w) ∧ sizedMet enc Tryd.prog Tryd.f3 (OpenSpec.ofChange Rows.tableHoldsSpec) false w args) (Rows.tableHoldsSpec.post enc Tryd.prog Tryd.f3 false true false false) := by
  refine returnsInHanded_of_change_and (C := Tryd.checked) (X := fun w _ => laidMetH Tryd.prog laidL w) (fun _ _ _ hh h => h.of_heap hh) own started (by kernel_rfl) Tryd.func3
    (ChangeSpec.witness_shaped (enc := enc) (C := Tryd.checked) (os := os) (X := fun w _ => laidMetH Tryd.prog laidL w) false (World.doorLaid Tryd.prog 400 os) #[.int .u8 0, .int .u8 0, .int .u8 0, .slice none 0 0] 8 rfl (World.shaped_of_RefB (by kernel_rfl) (by kernel_rfl)) (by kernel_rfl) (by kernel_rfl) (by kernel_rfl) (door_met os _)) ?_
  intro W base args ds gs before hval0 hW hcnd hsz0 hL _
  have hsz : (DataW.weightsEach Tryd.prog (Tryd.f3.params.toList ++ Rows.tableHoldsSpec.plain.varTypes Tryd.prog) (ds ++ gs)).all (· ≤ reachBytes) = true := hsz0
  have hval : ∀ (j : Nat) t v, Tryd.f3.params[j]? = some t → args[j]? = some v → Value.okWide Tryd.prog W .any base t v := hval0
  have hW' := hW
  obtain ⟨p, q, hA0, hV, rfl, hfz, hnd⟩ := hW
  have hA : DataW.TrodAll enc Tryd.prog W 0 (fun _ => true) true Tryd.f3.params.toList args.toList ds p := hA0
  rw [Tryd.params3] at hA hval hsz
  obtain ⟨v0, vs0, d0, ds0, p0, q0, hargs, rfl, rfl, h0, r0⟩ := trodAll_cons hA
  obtain ⟨v1, vs1, d1, ds1, p1, q1, rfl, rfl, rfl, h1, r1⟩ := trodAll_cons r0
  obtain ⟨v2, vs2, d2, ds2, p2, q2, rfl, rfl, rfl, h2, r2⟩ := trodAll_cons r1
  obtain ⟨v3, vs3, d3, ds3, p3, q3, rfl, rfl, rfl, h3, r3⟩ := trodAll_cons r2
  obtain ⟨rfl, rfl, rfl⟩ := trodAll_nil r3
  obtain rfl : args = #[v0, v1, v2, v3] := by cases args; simp_all
  obtain ⟨rfl, rfl⟩ := trodVars_none hV
  obtain ⟨x0, a0, g0⟩ := open_arg (T := (.int .u8)) (by kernel_rfl) (hval 0 5 v0 rfl rfl) h0 (weights_of hsz (j := 0) (t := 5) rfl rfl)
  have k0 := h0
  have lt0 : ∀ x ∈ p0, x.block < W.heap.size := by obtain ⟨m, hm⟩ := k0; exact DataW.trod_lt m _ _ _ hm
  obtain ⟨x1, a1, g1⟩ := open_arg (T := (.int .u8)) (by kernel_rfl) (hval 1 5 v1 rfl rfl) h1 (weights_of hsz (j := 1) (t := 5) rfl rfl)
  have k1 := h1
  have lt1 : ∀ x ∈ p1, x.block < W.heap.size := by obtain ⟨m, hm⟩ := k1; exact DataW.trod_lt m _ _ _ hm
  obtain ⟨x2, a2, g2⟩ := open_arg (T := (.int .u8)) (by kernel_rfl) (hval 2 5 v2 rfl rfl) h2 (weights_of hsz (j := 2) (t := 5) rfl rfl)
  have k2 := h2
  have lt2 : ∀ x ∈ p2, x.block < W.heap.size := by obtain ⟨m, hm⟩ := k2; exact DataW.trod_lt m _ _ _ hm
  obtain ⟨x3, a3, g3⟩ := open_arg (T := (.slice (.st (.cons (.st (.cons (.int .u32) (.cons .str .nil))) (.cons (.int .i64) (.cons .str (.cons (.int .u64) (.cons .str (.cons (.int .i64) (.cons (.int .i64) .nil)))))))))) (by kernel_rfl) (hval 3 22 v3 rfl rfl) h3 (weights_of hsz (j := 3) (t := 22) rfl rfl)
  have k3 := h3
  have lt3 : ∀ x ∈ p3, x.block < W.heap.size := by obtain ⟨m, hm⟩ := k3; exact DataW.trod_lt m _ _ _ hm
  obtain ⟨k, hk⟩ := PureTableHolds.pure x0 x1 x2 x3 g0 g1 g2 g3
  clear hA0 hval0 hsz0 hsz
  refine (law_of (fn3 k [Ty.av (.int .u8) x0, Ty.av (.int .u8) x1, Ty.av (.int .u8) x2, Ty.av (.slice (.st (.cons (.st (.cons (.int .u32) (.cons .str .nil))) (.cons (.int .i64) (.cons .str (.cons (.int .u64) (.cons .str (.cons (.int .i64) (.cons (.int .i64) .nil))))))))) x3] (x0, (x1, (x2, (x3, PUnit.unit)))) (true, PUnit.unit) rfl rfl hk) (glob_of_laid hL) (us := [v0, v1, v2, v3]) ⟨a0, a1, a2, a3, trivial⟩).mono fun e W' ⟨he, bel⟩ => ?_
  subst he
  exact ⟨_, rfl, _, _, _, [], _, [], hW', trodAll_mk1 (shut_bool Tryd.underlying4 _), (trodAll_cons_mk (Below.trod laidOut (by kernel_rfl) (of_decide_eq_true (by kernel_rfl)) k0 bel lt0) (trodAll_cons_mk (Below.trod laidOut (by kernel_rfl) (of_decide_eq_true (by kernel_rfl)) k1 bel lt1) (trodAll_cons_mk (Below.trod laidOut (by kernel_rfl) (of_decide_eq_true (by kernel_rfl)) k2 bel lt2) (trodAll_cons_mk (Below.trod laidOut (by kernel_rfl) (of_decide_eq_true (by kernel_rfl)) k3 bel lt3) trodAll_mk0)))), rfl, bel.frame _, fun h => by cases h⟩
theorem inP : Tryd.prog.inPlace 3 = ["slices.overlaps[paydesk/api.Entry]"] := by kernel_rfl
theorem unf : Tryd.prog.unfollowed 3 = true := by kernel_rfl
theorem rec' : Tryd.prog.recurses 3 = true := by kernel_rfl
theorem nam : Tryd.prog.varsNamed 3 = ["paydesk/deal.types"] := by kernel_rfl
theorem lk : false = Tryd.prog.looks [] := by kernel_rfl
theorem gb : false = Rows.tableHoldsRow.goesBy Tryd.prog := by kernel_rfl
theorem facts : joinedFacts Tryd.prog 3 Tryd.f3 Rows.tableHoldsSpec Rows.tableHoldsRow = true := by
  unfold joinedFacts
  rw [laidOut, mapsRowed', stopsHeard', mayEnter', plainKeys', liftsFinal', make', stops', stopKnobs', inP, unf, rec', nam]
  kernel_rfl
theorem over : Rows.tableHoldsRow.holds Tryd.pinned (OpenSpec.ofChange Rows.tableHoldsSpec) :=
  OpenClaim.holds_of_wide 3 Tryd.f3 rfl rfl rfl rfl rfl rfl rfl ⟨rfl, rfl, rfl, rfl, rfl⟩ rfl rfl rfl rfl rfl (by kernel_rfl) Tryd.func3 facts
    (of_decide_eq_true (by kernel_rfl)) (by unfold Func.isWrapper; first | (rw [if_pos (by decide +kernel)]; kernel_rfl) | (rw [if_neg (by decide +kernel)]; exact ⟨rfl, rfl⟩))
    (fun os started H enc _ => lifted os started H enc)
end Go.Proofs.YtcgnmecbdleehaaDoor.tableHolds
namespace Go.Proofs.YtcgnmecbdleehaaDoor
theorem tableHolds_card_holds : Rows.TableHoldsCardSaid :=
  Claim7.holds_tied_plain_at .later [] [.data] true (true, "d46008cfb3ec0e854f2bd7323c7d2f6ab07ffe32418885e7014cdc178a8ac33d") false
    tableHolds.over (fun _ h => by cases h) (by kernel_rfl) (fun _ h => by cases h) tableHolds_row_tie rfl ⟨rfl, rfl⟩ mainIs' rfl
    (fun f fn hf hfn => by
      obtain rfl : f = 3 := Option.some.inj ((show Tryd.prog.funcNamed "paydesk/paydesklaw11.TableHolds" = some 3 by kernel_rfl).symm.trans hf) |>.symm
      obtain rfl : fn = Tryd.f3 := (Option.some.inj (Tryd.func3.symm.trans hfn)).symm
      exact ⟨tableHolds.lk, fun j t ht => by
        rw [Tryd.params3] at ht
        have hm : t ∈ [5, 5, 5, 22] := by simpa using Array.mem_of_getElem? ht
        have hall : ([5, 5, 5, 22].all fun u => !Tryd.prog.wantsStandIn u) = true := by kernel_rfl
        exact (show Tryd.prog.wantsStandIn t = false by simpa using List.all_eq_true.1 hall t hm)⟩)
    tableHolds.gb
end Go.Proofs.YtcgnmecbdleehaaDoor
end
