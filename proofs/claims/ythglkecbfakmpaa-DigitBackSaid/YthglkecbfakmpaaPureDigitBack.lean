/- What comes of DigitBack: always true. -/
import Derived.Test.YthglkecbfakmpaaDigit2
set_option linter.unusedVariables false
set_option linter.unusedSimpArgs false
namespace Go.Proofs.Ythglkecbfakmpaa.PureDigitBack
open Go Go.Proofs.Ythglkecbfakmpaa Th G

theorem val_snoc (a : Nat) (s : List UInt8) (c : UInt8) : val a (s ++ [c]) = 10 * val a s + (c.toNat - 48) := by
  unfold val; rw [List.foldl_append, List.foldl_cons, List.foldl_nil]

theorem val_digs : ∀ (n v : Nat), val 0 (digs v n) = v % 10 ^ n
  | 0, v => by simp [digs, val, Nat.mod_one]
  | n + 1, v => by
    have h10 : v % 10 < 10 := Nat.mod_lt _ (by omega)
    rw [digs, val_snoc, val_digs n, chr_dig (by omega), Nat.pow_succ, Nat.mul_comm (10 ^ n) 10, Nat.mod_mul]
    omega

theorem digs_dig : ∀ (n v : Nat), (digs v n).all dgt = true
  | 0, _ => rfl
  | n + 1, v => by
    have h10 : v % 10 < 10 := Nat.mod_lt _ (by omega)
    rw [digs, List.all_append, digs_dig n]
    simp only [List.all_cons, List.all_nil, Bool.and_true, Bool.true_and]
    exact chr_dgt (by omega)

theorem isDig_digs (n v : Nat) (h : 0 < n) : isDig (digs v n) = true := by
  simp [isDig, digs_len, digs_dig, h]

theorem div_lt_of {v n : Nat} (h : v / 10 ^ n = 0) : v < 10 ^ n := by
  have hp : 0 < 10 ^ n := Nat.pow_pos (by omega)
  exact (Nat.div_eq_zero_iff_lt hp).1 h

theorem chr_back {c : UInt8} (h : dgt c = true) : UInt8.ofNat (48 + (c.toNat - 48)) = c := by
  rw [dgt_iff] at h
  rw [show 48 + (c.toNat - 48) = c.toNat from by omega]
  simp

theorem digs_val : ∀ (n : Nat) (s : List UInt8), s.length = n → s.all dgt = true → digs (val 0 s) n = s ∧ val 0 s < 10 ^ n := by
  intro n
  induction n with
  | zero => intro s hs _; have : s = [] := List.length_eq_zero_iff.1 hs; subst this; exact ⟨rfl, by simp [val]⟩
  | succ n ih =>
    intro s hs hd
    obtain ⟨t, c, rfl⟩ : ∃ t c, s = t ++ [c] := ⟨s.dropLast, s.getLast (by intro h; rw [h] at hs; simp at hs), (List.dropLast_concat_getLast _).symm⟩
    simp only [List.all_append, List.all_cons, List.all_nil, Bool.and_true, Bool.and_eq_true] at hd
    obtain ⟨h1, h2⟩ := ih t (by simpa using hs) hd.1
    have hc := hd.2
    rw [dgt_iff] at hc
    rw [val_snoc]
    have e1 : (10 * val 0 t + (c.toNat - 48)) / 10 = val 0 t := by omega
    have e2 : (10 * val 0 t + (c.toNat - 48)) % 10 = c.toNat - 48 := by omega
    refine ⟨by rw [digs, e1, e2, h1, chr_back hd.2], ?_⟩
    rw [Nat.pow_succ]; omega

theorem bytesLess_snoc (c d : UInt8) : ∀ (a b : List UInt8), a.length = b.length → Op.bytesLess (a ++ [c]) (b ++ [d]) = (Op.bytesLess a b || (decide (a = b) && decide (c < d)))
  | [], [], _ => by simp [Op.bytesLess]
  | x :: a, y :: b, h => by
    simp only [List.cons_append, Op.bytesLess, bytesLess_snoc c d a b (by simpa using h)]
    by_cases e : x = y
    · subst e
      have : ¬ x < x := UInt8.lt_irrefl x
      simp [this]
    · have : (x == y) = false := by simpa using e
      simp [this, e]
  | [], _ :: _, h => by simp at h
  | _ :: _, [], h => by simp at h

theorem digs_inj {n v w : Nat} (hv : v < 10 ^ n) (hw : w < 10 ^ n) (h : digs v n = digs w n) : v = w := by
  have := val_digs n v
  rw [h, val_digs, Nat.mod_eq_of_lt hv, Nat.mod_eq_of_lt hw] at this
  exact this.symm

theorem less_digs : ∀ (n v w : Nat), v < 10 ^ n → w < 10 ^ n → Op.bytesLess (digs v n) (digs w n) = decide (v < w)
  | 0, v, w, hv, hw => by
    simp at hv hw; subst hv hw; simp [digs, Op.bytesLess]
  | n + 1, v, w, hv, hw => by
    rw [Nat.pow_succ] at hv hw
    have h1 : v / 10 < 10 ^ n := by omega
    have h2 : w / 10 < 10 ^ n := by omega
    rw [digs, digs, bytesLess_snoc _ _ _ _ (by rw [digs_len, digs_len]), less_digs n _ _ h1 h2]
    have e1 : decide (digs (v / 10) n = digs (w / 10) n) = decide (v / 10 = w / 10) := decide_eq_decide.2 ⟨digs_inj h1 h2, fun h => by rw [h]⟩
    have e2 : decide (UInt8.ofNat (48 + v % 10) < UInt8.ofNat (48 + w % 10)) = decide (v % 10 < w % 10) := decide_eq_decide.2 (by
      rw [UInt8.lt_iff_toNat_lt, chr_dig (by omega), chr_dig (by omega)]; omega)
    rw [e1, e2]
    by_cases a : v < w
    · rw [decide_eq_true a]
      by_cases b : v / 10 < w / 10
      · simp [b]
      · have b1 : v / 10 = w / 10 := by omega
        have b2 : v % 10 < w % 10 := by omega
        simp [b1, b2]
    · rw [decide_eq_false a]
      have b : ¬ v / 10 < w / 10 := by omega
      have c : ¬ (v / 10 = w / 10 ∧ v % 10 < w % 10) := by omega
      simp only [b, decide_false, Bool.false_or]
      rw [← Bool.decide_and, decide_eq_false c]

theorem get_digs (n v : Nat) (h0 : 0 < n) (h19 : n ≤ 19) (hv : v / 10 ^ n = 0) : getOK (digs v n) = (v, 0) := by
  unfold getOK
  rw [digs_len, if_neg (by omega), if_neg (by omega), isDig_digs n v h0, if_pos rfl, val_digs, Nat.mod_eq_of_lt (div_lt_of hv)]

theorem last (s : List UInt8) (x : Int) (hs : s.length ≤ 140737488351232) :
    (ocall (G40 5000 (s, ())) fun (r : Int × Int × Unit) =>
      sel (!decide (r.snd.fst = (0 : Int))) (some (decide (r.fst = (0 : Int)), ()))
        (ocall (G38 5000 (r.fst, Int.ofNat s.length, ())) fun (r : List UInt8 × Int × Unit) =>
          sel (decide (r.snd.fst = (0 : Int))) (some (decide (r.fst = s), ())) (some (false, ())))) = some (true, ()) := by
  rw [G40_is 5000 s (by omega), ocall_some]
  unfold getOK
  by_cases c1 : s.length = 0
  · simp [c1]
  rw [if_neg c1]
  by_cases c2 : 19 < s.length
  · simp [c2]
  rw [if_neg c2]
  cases hd : isDig s with
  | false => simp
  | true =>
    rw [if_pos rfl]
    obtain ⟨h1, h2⟩ := digs_val s.length s rfl (all_of_isDig hd)
    have h3 : 10 ^ s.length ≤ 10 ^ 19 := pow_le19 (by omega)
    simp only [decide_true, Bool.not_true, sel_false]
    rw [G38_is 5000 (by omega) (val 0 s) _ (by omega), ocall_some]
    have : putOK (val 0 s) (Int.ofNat s.length) = (s, 0) := by
      unfold putOK
      rw [if_neg (by simp only [Int.ofNat_eq_natCast]; omega)]
      simp only [Int.ofNat_eq_natCast, Int.toNat_natCast]
      rw [if_pos (Nat.div_eq_of_lt h2), h1]
    rw [this]
    simp

theorem main (s : List UInt8) (v w : Nat) (n : Int) (hv : v < 18446744073709551616) (hw : w < 18446744073709551616) (hn : 0 ≤ n ∧ n ≤ 255) (hs : s.length ≤ 140737488351232) : G8 5000 ((v : Int), (w : Int), n, s, ()) = some (true, ()) := by
  rw [G8_eq, G37_is 5000 (by omega), ocall_some]
  have hL := last s 0 hs
  simp only [Bool.not_true, sel_false]
  have e1 : IntKind.i64.wrap n = n := wrap64 (by omega) (by omega)
  have e2 : n.tmod 19 = n % 19 := Int.tmod_eq_emod_of_nonneg hn.1
  have e3 : IntKind.i64.wrap (n % 19 + 1) = (((n % 19).toNat + 1 : Nat) : Int) := by rw [wrap64 (by omega) (by omega)]; omega
  simp only [e1, e2, e3]
  obtain ⟨m, hm⟩ : ∃ m, (n % 19).toNat + 1 = m := ⟨_, rfl⟩
  rw [hm]
  have hm1 : 1 ≤ m := by omega
  have hm2 : m ≤ 19 := by omega
  rw [G38_is 5000 (by omega) v _ hv, G38_is 5000 (by omega) w _ hw, ocall_some, ocall_some]
  have p : ∀ u : Nat, putOK u (m : Int) = if u / 10 ^ m = 0 then (digs u m, 0) else ([], 10) := by
    intro u
    unfold putOK
    rw [if_neg (by omega), Int.toNat_natCast]
  rw [p, p]
  by_cases c1 : v / 10 ^ m = 0
  · rw [if_pos c1]
    simp only [decide_true, sel_true]
    rw [G40_is 5000 _ (by omega), get_digs m v (by omega) hm2 c1, ocall_some]
    simp only [decide_true, Bool.not_true, sel_false, digs_len, Int.ofNat_eq_natCast]
    rw [G44_is 5000 _ (by rw [digs_len, maxLen_eq]; omega) (by rw [digs_len]; omega), isDig_digs m v (by omega), ocall_some]
    simp only [Bool.not_true, sel_false]
    by_cases c2 : w / 10 ^ m = 0
    · rw [if_pos c2]
      simp only [decide_true, sel_true]
      rw [less_digs m v w (div_lt_of c1) (div_lt_of c2)]
      have : decide ((v : Int) < (w : Int)) = decide (v < w) := decide_eq_decide.2 (by omega)
      rw [this]
      rw [beq_self_eq_true, Bool.not_true, sel_false]
      exact hL
    · rw [if_neg c2]
      rw [show (decide ((10 : Int) = 0)) = false from rfl, sel_false]
      exact hL
  · rw [if_neg c1]
    rw [show (decide ((([] : List UInt8), (10 : Int)).snd = 0)) = false from rfl, sel_false]
    exact hL

theorem pure (x0 : Ty.den (.int .u64)) (x1 : Ty.den (.int .u64)) (x2 : Ty.den (.int .u8)) (x3 : Ty.den .str) (g0 : Ty.Good (.int .u64) x0) (g1 : Ty.Good (.int .u64) x1) (g2 : Ty.Good (.int .u8) x2) (g3 : Ty.Good .str x3) : ∃ k, F8 k (x0, (x1, (x2, (x3, PUnit.unit)))) = some (true, PUnit.unit) := by
  have a := good_u64 g0
  have b := good_u64 g1
  refine ⟨5000, ?_⟩
  have e : x0 = ((Int.toNat x0 : Nat) : Int) := (Int.toNat_of_nonneg a.1).symm
  have e' : x1 = ((Int.toNat x1 : Nat) : Int) := (Int.toNat_of_nonneg b.1).symm
  have := main x3 (Int.toNat x0) (Int.toNat x1) x2 (by have := a.2; omega) (by have := b.2; omega) (good_u8 g2) g3
  rw [← e, ← e'] at this
  exact this
end Go.Proofs.Ythglkecbfakmpaa.PureDigitBack
