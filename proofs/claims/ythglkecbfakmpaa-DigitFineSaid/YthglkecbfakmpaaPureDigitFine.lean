/- What comes of DigitFine: always true. -/
import Derived.Test.YthglkecbfakmpaaDigit2
set_option linter.unusedVariables false
set_option linter.unusedSimpArgs false
namespace Go.Proofs.Ythglkecbfakmpaa.PureDigitFine
open Go Go.Proofs.Ythglkecbfakmpaa Th G

theorem fs_set (x : UInt8) : ∀ (l : List UInt8) (k : Nat) (h : k < l.length), ∃ p : Bool, fs false (l.set k x) + gd p ((l[k]).toNat - 48) = fs false l + gd p (x.toNat - 48)
  | [], k, h => by simp at h
  | c :: t, 0, _ => ⟨(false != decide (t.length % 2 = 1)), by simp only [List.set_cons_zero, fs, List.getElem_cons_zero]; omega⟩
  | c :: t, k + 1, h => by
    obtain ⟨p, hp⟩ := fs_set x t k (by simpa using h)
    refine ⟨p, ?_⟩
    simp only [List.set_cons_succ, fs, List.getElem_cons_succ, List.length_set]
    omega

theorem gd_inj {p : Bool} {d e : Nat} (hd : d ≤ 9) (he : e ≤ 9) (h : gd p d % 10 = gd p e % 10) : d = e := by
  unfold gd at h
  cases p
  · simp at h; omega
  · simp only [if_true] at h; omega

theorem fine_set (l : List UInt8) (k : Nat) (h : k < l.length) (hf : isFine l = true) (e : Nat) (he : e ≤ 9) : isFine (l.set k (UInt8.ofNat (48 + e))) = decide (48 + e = (l[k]).toNat) := by
  unfold isFine at hf ⊢
  simp only [Bool.and_eq_true, decide_eq_true_eq] at hf
  obtain ⟨h1, h2⟩ := hf
  have hall := all_of_isDig h1
  have hk := List.all_eq_true.1 hall l[k] (List.getElem_mem _)
  rw [dgt_iff] at hk
  have hd : isDig (l.set k (UInt8.ofNat (48 + e))) = true := by
    simp only [isDig, List.length_set, Bool.and_eq_true, decide_eq_true_eq]
    refine ⟨by omega, List.all_eq_true.2 fun x hx => ?_⟩
    rcases List.mem_or_eq_of_mem_set hx with h | h
    · exact List.all_eq_true.1 hall x h
    · rw [h]; exact chr_dgt he
  rw [hd, Bool.true_and]
  obtain ⟨p, hp⟩ := fs_set (UInt8.ofNat (48 + e)) l k h
  rw [chr_dig he, show 48 + e - 48 = e from by omega] at hp
  refine decide_eq_decide.2 ⟨fun h3 => ?_, fun h3 => ?_⟩
  · have := gd_inj (p := p) (d := (l[k]).toNat - 48) (e := e) (by omega) he (by omega)
    omega
  · have : (l[k]).toNat - 48 = e := by omega
    rw [this] at hp
    omega

theorem toBytes_len (l : List UInt8) : (toBytes l).length = l.length := by simp [toBytes]
theorem toBytes_at (l : List UInt8) (k : Nat) (h : k < l.length) (d : Int) : (toBytes l).getD k d = ((l[k]).toNat : Int) := by rw [getD_of (by rw [toBytes_len]; exact h)]; simp [toBytes]
theorem ofBytes_set (l : List UInt8) (k : Nat) (n : Nat) : ofBytes ((toBytes l).set k (n : Int)) = l.set k (UInt8.ofNat n) := by
  have : ofBytes (toBytes l) = l := by
    unfold ofBytes toBytes
    rw [List.map_map]
    conv => rhs; rw [← List.map_id l]
    apply List.map_congr_left
    intro c _
    simp
  unfold ofBytes at this ⊢
  rw [List.map_set, this]
  simp

theorem main (s : List UInt8) (at_ by_ : Int) (ha : 0 ≤ at_ ∧ at_ ≤ 65535) (hb : 0 ≤ by_ ∧ by_ ≤ 255) (hs : s.length ≤ 140737488351232) : G9 5000 (s, at_, by_, ()) = some (true, ()) := by
  rw [G9_eq, G37_is 5000 (by omega), ocall_some]
  simp only [Bool.not_true, sel_false, ofNat_len]
  by_cases c : (3000 : Int) < s.length
  · rw [sel_pos c]
  rw [sel_neg c, G42_is 5000 s (by omega) (by omega) (by omega), ocall_some]
  unfold chkOK
  cases hd : isDig s with
  | false =>
    rw [if_neg (by simp), G44_is 5000 s (by rw [maxLen_eq]; omega) (by omega), hd, G46_is 5000 s (by omega) (by omega)]
    simp [isFine, hd]
  | true =>
    rw [if_pos rfl]
    have hc := chk_lt s
    obtain ⟨x, hx⟩ : ∃ x, UInt8.ofNat (48 + chk s) = x := ⟨_, rfl⟩
    have hxd : isDig [x] = true := by rw [← hx]; show (decide (0 < 1) && (dgt (UInt8.ofNat (48 + chk s)) && true)) = true; rw [chr_dgt (by omega)]; rfl
    have hF : isFine (s ++ [x]) = true := by rw [← hx, isFine_snoc s _ hd (by omega)]; simp
    rw [hx]
    obtain ⟨l, hl⟩ : ∃ l, s ++ [x] = l := ⟨_, rfl⟩
    have hl' : s.append [x] = l := hl
    have hll : l.length = s.length + 1 := by rw [← hl]; simp
    simp only [decide_true, Bool.not_true, sel_false, List.length_singleton, hl']
    rw [hl] at hF
    have hone : (((1 : Nat) : Int) = 1) := rfl
    simp only [hone, decide_true, Bool.not_true, sel_false]
    rw [G44_is 5000 [x] (by simp [maxLen]) (by simp), hxd, ocall_some]
    simp only [Bool.not_true, sel_false]
    rw [sel_pos (by omega), G46_is 5000 l (by omega) (by omega), hF, ocall_some]
    simp only [Bool.not_true, sel_false]
    rw [sel_pos (by omega)]
    have e1 : IntKind.i64.wrap at_ = at_ := wrap64 (by omega) (by omega)
    have e2 : at_.tmod (l.length : Int) = at_ % (l.length : Int) := Int.tmod_eq_emod_of_nonneg ha.1
    have h3 : 0 ≤ at_ % (l.length : Int) := Int.emod_nonneg _ (by omega)
    have h4 : at_ % (l.length : Int) < l.length := Int.emod_lt_of_pos _ (by omega)
    obtain ⟨k, hk⟩ : ∃ k : Nat, at_ % (l.length : Int) = (k : Int) := ⟨(at_ % (l.length : Int)).toNat, by omega⟩
    have hkl : k < l.length := by omega
    have hne : ¬ ((l.length : Int) = 0) := by omega
    simp only [toBytes_len, e1, e2, hk, hne, decide_false, Bool.not_false, sel_true, Int.toNat_natCast, toBytes_at l k hkl]
    have hdk := List.all_eq_true.1 (all_of_isDig (by unfold isFine at hF; simp only [Bool.and_eq_true] at hF; exact hF.1)) l[k] (List.getElem_mem _)
    rw [dgt_iff] at hdk
    obtain ⟨d, hdd⟩ : ∃ d, (l[k]).toNat = 48 + d := ⟨(l[k]).toNat - 48, by omega⟩
    obtain ⟨b, hbb⟩ : ∃ b : Nat, by_.tmod 10 = (b : Int) ∧ b ≤ 9 := ⟨(by_ % 10).toNat, by rw [Int.tmod_eq_emod_of_nonneg hb.1]; omega⟩
    have w1 : IntKind.u8.wrap (((48 + d : Nat) : Int) - 48) = (d : Int) := by rw [wrapu8 (by omega) (by omega)]; omega
    have w2 : IntKind.u8.wrap ((d : Int) + (b : Int)) = ((d + b : Nat) : Int) := by rw [wrapu8 (by omega) (by omega)]; omega
    have w3 : IntKind.u8.wrap ((((d + b) % 10 : Nat) : Int) + 48) = ((48 + (d + b) % 10 : Nat) : Int) := by rw [wrapu8 (by omega) (by omega)]; omega
    simp only [hdd, w1, hbb.1, w2, tmod10, w3, ofBytes_set]
    rw [sel_pos (by omega), sel_pos (by omega), sel_pos (by omega), sel_pos (by omega), sel_pos (by omega), sel_pos (by omega), sel_pos (by omega), sel_pos (by omega), sel_pos (by omega)]
    rw [G46_is 5000 _ (by rw [List.length_set]; omega) (by rw [List.length_set]; omega), fine_set l k hkl hF _ (by omega), ocall_some, hdd]
    have : decide ((((48 + (d + b) % 10 : Nat) : Int)) = ((48 + d : Nat) : Int)) = decide (48 + (d + b) % 10 = 48 + d) := decide_eq_decide.2 (by omega)
    rw [this]
    simp

theorem pure (x0 : Ty.den .str) (x1 : Ty.den (.int .u16)) (x2 : Ty.den (.int .u8)) (g0 : Ty.Good .str x0) (g1 : Ty.Good (.int .u16) x1) (g2 : Ty.Good (.int .u8) x2) : ∃ k, F9 k (x0, (x1, (x2, PUnit.unit))) = some (true, PUnit.unit) := by
  exact ⟨5000, main x0 x1 x2 (good_u16 g1) (good_u8 g2) g0⟩
end Go.Proofs.Ythglkecbfakmpaa.PureDigitFine
