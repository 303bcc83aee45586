/- The statement LineParts, out of what its function answers. No condition. -/
import Derived.Test.YtjgnpmdbkgeakaaDoorQLineParts3
import Derived.Test.YtjgnpmdbkgeakaaDoorRows
import Derived.JoinedOf
import Derived.LaidMore
import Derived.FnData
import Derived.ChangeBears2
import Derived.Stop.Joined
import Derived.Carry
import Derived.Test.YtjgnpmdbkgeakaaDoorCards
import Derived.Test.YtjgnpmdbkgeakaaDoorTie
import Derived.SevenTiedAt
section
set_option linter.unusedVariables false
set_option linter.unusedSimpArgs false
namespace Go.Proofs.YtjgnpmdbkgeakaaDoor.G
open Go Go.Proofs.YtjgnpmdbkgeakaaDoor Th
theorem put_len {d : Def} (hd : d ∈ D) {n : Nat} (h : sized d n = true) (ha : ahead d.2.1 ≠ 0) : putOK n ((ahead d.2.1 : Nat) : Int) = (digs n (ahead d.2.1), 0) := by
  obtain ⟨_, _, _, _, h1, h2, h3⟩ := D_all d hd
  unfold sized at h
  rw [if_neg ha] at h
  simp only [Bool.and_eq_true, decide_eq_true_eq] at h
  rcases ahead_cases (kind := d.2.1) with e | e | e
  · exact absurd e ha
  · have := h3 (ahead_two e)
    rw [e]
    unfold putOK
    rw [if_neg (by omega), Int.toNat_natCast, if_pos (Nat.div_eq_of_lt (by omega))]
  · rw [e]
    unfold putOK
    rw [if_neg (by omega), Int.toNat_natCast, if_pos (Nat.div_eq_of_lt (by omega))]
theorem rightF_some {n : Int} {d : Def} (hd : defOf n = some d) (s : List UInt8) : rightF n s = (sized d s.length && signs d s) := by unfold rightF; rw [hd]
theorem sized_le {d : Def} (hd : d ∈ D) {n : Nat} (h : sized d n = true) : 1 ≤ n ∧ n ≤ 999 := by
  obtain ⟨_, _, _, _, h1, h2, h3⟩ := D_all d hd
  unfold sized at h
  split at h
  · simp only [decide_eq_true_eq] at h; omega
  · simp only [Bool.and_eq_true, decide_eq_true_eq] at h; omega
theorem G139_is (k : Nat) (hk : 20 < k) (n : Int) (d : Def) (hd : defOf n = some d) (s : List UInt8) (hs : s.length ≤ 140737488351232) (hks : s.length < k) :
    G139 k (n, s, ()) = some (if rightF n s = true then (toBytes (writeF d s), 0, ()) else ([], 1, ())) := by
  obtain ⟨hm, _⟩ := defOf_mem hd
  rw [G139_eq, G175_is k hk, ocall_some]
  have e : defR n = (d, true) := by unfold defR; rw [hd]
  rw [e]
  simp only [Bool.not_true, sel_false]
  rw [G117_is k hk n s (by rw [maxLen_eq]; omega) hks, ocall_some]
  cases hr : rightF n s with
  | false => rfl
  | true =>
    rw [rightF_some hd] at hr
    simp only [Bool.and_eq_true] at hr
    simp only [Bool.not_true, sel_false, G176_is, ocall_some]
    unfold writeF
    by_cases ha : ahead d.2.1 = 0
    · rw [if_pos ha, esel_inr, G247_eq, ocall_some, if_pos ha]
      rfl
    · have hsz := sized_le hm hr.1
      rw [if_neg ha, esel_inl, G245_eq, ocall_some, if_neg ha]
      simp only [ofNat_len]
      rw [sel_pos (by omega), wrapu64 (by omega) (by omega), G105_is k hk s.length _ (by omega), put_len hm hr.1 ha, ocall_some]
      (try simp only [])
      rw [sel_pos (by rw [digs_len]; rcases ahead_cases (kind := d.2.1) with e | e | e <;> omega)]
      rfl
theorem ofBytes_len (b : List Int) : (ofBytes b).length = b.length := by simp [ofBytes]
theorem ofBytes_take (b : List Int) (n : Nat) : ofBytes (b.take n) = (ofBytes b).take n := by simp [ofBytes, List.map_take]
theorem ofBytes_drop (b : List Int) (n : Nat) : ofBytes (b.drop n) = (ofBytes b).drop n := by simp [ofBytes, List.map_drop]
def lenF (d : Def) (b : List UInt8) : Int × Int :=
  if ahead d.2.1 = 0 then (d.2.2.1, 0) else if b.length < ahead d.2.1 then (0, 2)
  else if (getOK (b.take (ahead d.2.1))).2 = 0 ∧ (getOK (b.take (ahead d.2.1))).1 ≠ 0 then
    (if d.2.2.1 < ((getOK (b.take (ahead d.2.1))).1 : Int) then (0, 4) else (((getOK (b.take (ahead d.2.1))).1 : Int), 0)) else (0, 3)
theorem G195_is (k : Nat) (hk : 20 < k) (d : Def) (hm : d ∈ D) (b : List Int) (hb : b.length ≤ 9223372036854775807) : G195 k ((d.1, d.2.1, d.2.2.1, ()), b, ()) = some ((lenF d (ofBytes b)).1, (lenF d (ofBytes b)).2, ()) := by
  obtain ⟨_, _, _, _, h1, h2, h3⟩ := D_all d hm
  rw [G195_eq]
  simp only [G176_is, ocall_some]
  unfold lenF
  by_cases ha : ahead d.2.1 = 0
  · rw [if_pos ha, esel_inr, G247_eq, ocall_some, if_pos ha]
    rfl
  · rw [if_neg ha, esel_inl, G245_eq, ocall_some, if_neg ha, ofBytes_len]
    simp only [ofNat_len]
    rw [sel_neg (by omega)]
    by_cases hl : b.length < ahead d.2.1
    · rw [sel_pos (by omega), if_pos hl]
    · rw [sel_neg (by omega), if_neg hl, sel_pos (by simp only [Int.ofNat_eq_natCast]; omega), sel_pos (by omega), sel_pos (by omega)]
      simp only [Int.toNat_natCast]
      rw [show (Int.ofNat 0).toNat = 0 from rfl, List.drop_zero, ofBytes_take, G172_is k _ hk, ocall_some]
      generalize getOK ((ofBytes b).take (ahead d.2.1)) = g
      obtain ⟨g1, g2⟩ := g
      (try simp only [])
      have w1 : IntKind.u64.wrap d.2.2.1 = d.2.2.1 := wrapu64 (by omega) (by omega)
      simp only [w1]
      by_cases c1 : g2 = 0
      · subst c1
        simp only [decide_true, Bool.not_true, sel_false, true_and]
        by_cases c2 : g1 = 0
        · subst c2
          rw [if_neg (by simp)]
          rfl
        · rw [if_pos c2, sel_neg (by omega)]
          by_cases c3 : d.2.2.1 < (g1 : Int)
          · rw [sel_pos c3, if_pos c3]
          · rw [sel_neg c3, if_neg c3, wrap64 (by omega) (by omega)]
      · simp only [c1, decide_false, Bool.not_false, sel_true, false_and, if_false]
theorem lenF_le {d : Def} (hm : d ∈ D) {b : List UInt8} (h : (lenF d b).2 = 0) : 1 ≤ (lenF d b).1 ∧ (lenF d b).1 ≤ d.2.2.1 := by
  obtain ⟨_, _, _, _, h1, h2, h3⟩ := D_all d hm
  unfold lenF at h ⊢
  split
  · exact ⟨h1, Int.le_refl _⟩
  · rename_i ha
    rw [if_neg ha] at h
    split
    · rename_i hb; rw [if_pos hb] at h; cases h
    · rename_i hb
      rw [if_neg hb] at h
      split
      · rename_i hg
        rw [if_pos hg] at h
        split
        · rename_i hc; rw [if_pos hc] at h; cases h
        · rename_i hc
          have := hg.2
          (try simp only []); omega
      · rename_i hg; rw [if_neg hg] at h; cases h
def readF (d : Def) (b : List UInt8) : List UInt8 × Int × Int :=
  if (lenF d b).2 = 0 then
    (if (b.length : Int) < (ahead d.2.1 : Int) + (lenF d b).1 then ([], 0, 2)
     else if signs d ((b.take ((ahead d.2.1 : Int) + (lenF d b).1).toNat).drop (ahead d.2.1)) = true then ((b.take ((ahead d.2.1 : Int) + (lenF d b).1).toNat).drop (ahead d.2.1), (ahead d.2.1 : Int) + (lenF d b).1, 0)
     else ([], 0, 3))
  else ([], 0, (lenF d b).2)
theorem G144_is (k : Nat) (hk : 1100 < k) (n : Int) (d : Def) (hd : defOf n = some d) (b : List Int) (hb : b.length ≤ 9223372036854775807) :
    G144 k (n, b, ()) = some ((readF d (ofBytes b)).1, (readF d (ofBytes b)).2.1, (readF d (ofBytes b)).2.2, ()) := by
  obtain ⟨hm, _⟩ := defOf_mem hd
  obtain ⟨_, _, _, _, h1, h2, h3⟩ := D_all d hm
  have ha3 := ahead_cases (kind := d.2.1)
  rw [G144_eq, G175_is k (by omega), ocall_some]
  have e : defR n = (d, true) := by unfold defR; rw [hd]
  rw [e]
  simp only [Bool.not_true, sel_false]
  rw [G195_is k (by omega) d hm b hb, ocall_some]
  unfold readF
  by_cases c0 : (lenF d (ofBytes b)).2 = 0
  · obtain ⟨l1, l2⟩ := lenF_le hm c0
    rw [if_pos c0]
    simp only [c0, decide_true, Bool.not_true, sel_false]
    rw [ofBytes_len]
    have hin : ∀ (a : Int), a = ((ahead d.2.1 : Nat) : Int) →
        (sel (decide (Int.ofNat b.length < IntKind.i64.wrap (a + (lenF d (ofBytes b)).1))) (some (([] : List UInt8), (0 : Int), (2 : Int), ()))
          (sel (decide ((0 : Int) ≤ a)) (sel (decide (a ≤ IntKind.i64.wrap (a + (lenF d (ofBytes b)).1))) (sel (decide (IntKind.i64.wrap (a + (lenF d (ofBytes b)).1) ≤ Int.ofNat b.length))
            (sel (decide (Int.ofNat b.length ≤ Int.ofNat b.length))
              (ocall (G177 k ((d.1, d.2.1, d.2.2.1, ()), ofBytes (List.drop a.toNat (List.take (IntKind.i64.wrap (a + (lenF d (ofBytes b)).1)).toNat b)), ())) fun (r : Bool × Unit) =>
                sel (!r.fst) (some (([] : List UInt8), (0 : Int), (3 : Int), ()))
                  (some (ofBytes (List.drop a.toNat (List.take (IntKind.i64.wrap (a + (lenF d (ofBytes b)).1)).toNat b)), IntKind.i64.wrap (a + (lenF d (ofBytes b)).1), (0 : Int), ())))
              none) none) none) none)) =
        some ((if (b.length : Int) < (ahead d.2.1 : Int) + (lenF d (ofBytes b)).1 then (([], 0, 2) : List UInt8 × Int × Int)
         else if signs d (((ofBytes b).take ((ahead d.2.1 : Int) + (lenF d (ofBytes b)).1).toNat).drop (ahead d.2.1)) = true then (((ofBytes b).take ((ahead d.2.1 : Int) + (lenF d (ofBytes b)).1).toNat).drop (ahead d.2.1), (ahead d.2.1 : Int) + (lenF d (ofBytes b)).1, 0)
         else ([], 0, 3)).1, (if (b.length : Int) < (ahead d.2.1 : Int) + (lenF d (ofBytes b)).1 then (([], 0, 2) : List UInt8 × Int × Int)
         else if signs d (((ofBytes b).take ((ahead d.2.1 : Int) + (lenF d (ofBytes b)).1).toNat).drop (ahead d.2.1)) = true then (((ofBytes b).take ((ahead d.2.1 : Int) + (lenF d (ofBytes b)).1).toNat).drop (ahead d.2.1), (ahead d.2.1 : Int) + (lenF d (ofBytes b)).1, 0)
         else ([], 0, 3)).2.1, (if (b.length : Int) < (ahead d.2.1 : Int) + (lenF d (ofBytes b)).1 then (([], 0, 2) : List UInt8 × Int × Int)
         else if signs d (((ofBytes b).take ((ahead d.2.1 : Int) + (lenF d (ofBytes b)).1).toNat).drop (ahead d.2.1)) = true then (((ofBytes b).take ((ahead d.2.1 : Int) + (lenF d (ofBytes b)).1).toNat).drop (ahead d.2.1), (ahead d.2.1 : Int) + (lenF d (ofBytes b)).1, 0)
         else ([], 0, 3)).2.2, ()) := by
      rintro a rfl
      have w : IntKind.i64.wrap (((ahead d.2.1 : Nat) : Int) + (lenF d (ofBytes b)).1) = ((ahead d.2.1 : Nat) : Int) + (lenF d (ofBytes b)).1 := wrap64 (by omega) (by omega)
      simp only [w, Int.toNat_natCast, ofNat_len, ofBytes_drop, ofBytes_take]
      by_cases c1 : (b.length : Int) < (ahead d.2.1 : Int) + (lenF d (ofBytes b)).1
      · rw [sel_pos c1]; simp only [c1, if_true]
      · rw [sel_neg c1, sel_pos (by omega), sel_pos (by omega), sel_pos (by omega), sel_pos (by omega)]
        rw [G177_is k d _ (by rw [maxLen_eq]; simp; omega) (by simp; omega), ocall_some]
        simp only [c1, if_false]
        cases signs d (((ofBytes b).take ((ahead d.2.1 : Int) + (lenF d (ofBytes b)).1).toNat).drop (ahead d.2.1)) <;> rfl
    rw [G176_is, ocall_some]
    by_cases ha : ahead d.2.1 = 0
    · rw [if_pos ha, esel_inr, G247_eq, ocall_some]
      exact hin 0 (by rw [ha]; rfl)
    · rw [if_neg ha, esel_inl, G245_eq, ocall_some]
      exact hin _ rfl
  · rw [if_neg c0]
    simp only [c0, decide_false, Bool.not_false, sel_true]
end Go.Proofs.YtjgnpmdbkgeakaaDoor.G
end
section
set_option linter.unusedVariables false
set_option linter.unusedSimpArgs false
namespace Go.Proofs.YtjgnpmdbkgeakaaDoor.G
open Go Go.Proofs.YtjgnpmdbkgeakaaDoor Th
theorem val_lt : ∀ (s : List UInt8) (a : Nat), s.all dgt = true → val a s < (a + 1) * 10 ^ s.length
  | [], a, _ => by simp [val]
  | c :: t, a, h => by
    simp only [List.all_cons, Bool.and_eq_true, dgt_iff] at h
    have := val_lt t (10 * a + (c.toNat - 48)) h.2
    rw [val_cons]
    have h2 : (10 * a + (c.toNat - 48) + 1) * 10 ^ t.length ≤ ((a + 1) * 10) * 10 ^ t.length := Nat.mul_le_mul_right _ (by omega)
    rw [List.length_cons, Nat.pow_succ, Nat.mul_comm (10 ^ t.length) 10, ← Nat.mul_assoc]
    omega
end Go.Proofs.YtjgnpmdbkgeakaaDoor.G
end
section
set_option linter.unusedVariables false
set_option linter.unusedSimpArgs false
set_option maxRecDepth 100000
namespace Go.Proofs.YtjgnpmdbkgeakaaDoor.G
open Go Go.Proofs.YtjgnpmdbkgeakaaDoor Th
abbrev Txt := List UInt8
abbrev Item := Int × Txt × Unit
abbrev Msg := Txt × List Item × Unit
def KT : List Txt := [[48, 49, 48, 48], [48, 49, 49, 48], [48, 52, 48, 48], [48, 52, 49, 48], [48, 52, 50, 48], [48, 52, 50, 49], [48, 52, 51, 48]]
def knownT (s : Txt) : Bool := KT.contains s
theorem G121_is (k : Nat) (s : Txt) : G121 k (s, ()) = some (knownT s, ()) := by
  rw [G121_eq]
  unfold knownT KT
  simp only [sel_dec, List.contains_cons, List.contains_nil, Bool.or_false]
  by_cases h1 : s = [48, 49, 48, 48]
  · simp [h1]
  by_cases h2 : s = [48, 49, 49, 48]
  · simp [h2]
  by_cases h3 : s = [48, 52, 48, 48]
  · simp [h3]
  by_cases h4 : s = [48, 52, 49, 48]
  · simp [h4]
  by_cases h5 : s = [48, 52, 50, 48]
  · simp [h5]
  by_cases h6 : s = [48, 52, 50, 49]
  · simp [h6]
  by_cases h7 : s = [48, 52, 51, 48] <;> simp [h1, h2, h3, h4, h5, h6, h7]
def itemsOK : Int → List Item → Bool
  | _, [] => true
  | last, x :: l => decide (last < x.1) && rightF x.1 x.2.1 && itemsOK x.1 l
def msgRight (m : Msg) : Bool := itemsOK 0 m.2.1 && knownT m.1 && decide (0 < m.2.1.length)
theorem G44_3_is (k : Nat) (hk : 20 < k) (l l0 : List Item) (typ : Txt) (hl : l.length ≤ 1000000000) (hx : ∀ x ∈ l, x.2.1.length ≤ maxLen ∧ x.2.1.length < k) :
    ∀ (j i : Nat) (last : Int), i + j = l.length → ∀ n, j < n → G44_3 k n (last, l, (l.length : Int), (i : Int), typ, l0, ()) = some (sel (itemsOK last (l.drop i)) (.inl (typ, l0, ())) (.inr (false, ()))) := by
  intro j
  induction j with
  | zero =>
    intro i last hij n hn
    obtain ⟨n, rfl⟩ : ∃ m, n = m + 1 := ⟨n - 1, by omega⟩
    rw [G44_3_eq, sel_neg (by (try simp only []); omega), List.drop_eq_nil_of_le (by omega)]
    rfl
  | succ j ih =>
    intro i last hij n hn
    obtain ⟨n, rfl⟩ : ∃ m, n = m + 1 := ⟨n - 1, by omega⟩
    have hlt : i < l.length := by omega
    rw [G44_3_eq]
    simp only [ofNat_len, Int.toNat_natCast, getD_of hlt]
    rw [sel_pos (by omega), sel_pos (by omega), sel_pos (by omega), drop_at hlt]
    simp only [itemsOK]
    obtain ⟨h1, h2⟩ := hx l[i] (List.getElem_mem _)
    by_cases c : l[i].1 ≤ last
    · rw [sel_pos c, decide_eq_false (by omega)]; rfl
    · rw [sel_neg c, G117_is k hk _ _ h1 h2, ocall_some, decide_eq_true (by omega)]
      cases hr : rightF l[i].1 l[i].2.1 with
      | false => rfl
      | true =>
        simp only [Bool.not_true, sel_false, Bool.true_and]
        rw [wrap64 (by omega) (by omega)]
        exact ih (i + 1) l[i].1 (by omega) n (by omega)
theorem G44_is (k : Nat) (hk : 20 < k) (typ : Txt) (l : List Item) (hl : l.length ≤ 1000000000) (hlk : l.length < k) (hx : ∀ x ∈ l, x.2.1.length ≤ maxLen ∧ x.2.1.length < k) :
    G44 k ((typ, l, ()), ()) = some (msgRight (typ, l, ()), ()) := by
  rw [G44_eq]
  have := G44_3_is k hk l l typ hl hx l.length 0 0 (by omega) k hlk
  simp only [ofNat_len, List.drop_zero, Int.natCast_zero] at this ⊢
  rw [this, ocall_some]
  unfold msgRight
  (try simp only [])
  cases itemsOK 0 l with
  | false => rfl
  | true =>
    simp only [sel_true, esel_inl, G121_is, ocall_some, Bool.true_and]
    cases knownT typ with
    | false => rfl
    | true =>
      simp only [sel_true, Bool.true_and]
      have : decide ((0 : Int) < (l.length : Int)) = decide (0 < l.length) := decide_eq_decide.2 (by omega)
      rw [this]
def getM (n : Int) : List Item → Txt × Bool
  | [] => ([], false)
  | x :: l => if x.1 = n then (x.2.1, true) else getM n l
def idxM (n : Int) : List Item → Nat → Option Nat
  | [], _ => none
  | x :: l, i => if x.1 = n then some i else idxM n l (i + 1)
theorem idxM_some (n : Int) : ∀ (l : List Item) (i j : Nat), idxM n l i = some j → ∃ h : j - i < l.length, i ≤ j ∧ getM n l = (l[j - i].2.1, true)
  | [], i, j, h => by cases h
  | x :: l, i, j, h => by
    unfold idxM at h
    by_cases c : x.1 = n
    · rw [if_pos c] at h
      cases h
      refine ⟨by simp, Nat.le_refl _, ?_⟩
      simp [getM, c]
    · rw [if_neg c] at h
      obtain ⟨h1, h2, h3⟩ := idxM_some n l (i + 1) j h
      have e : j - i = (j - (i + 1)) + 1 := by omega
      refine ⟨by simp; omega, by omega, ?_⟩
      simp only [getM, if_neg c, h3, e, List.getElem_cons_succ]
theorem idxM_none (n : Int) : ∀ (l : List Item) (i : Nat), idxM n l i = none → getM n l = ([], false)
  | [], i, _ => rfl
  | x :: l, i, h => by
    unfold idxM at h
    by_cases c : x.1 = n
    · rw [if_pos c] at h; cases h
    · rw [if_neg c] at h
      simp only [getM, if_neg c, idxM_none n l (i + 1) h]
theorem G7000000_2_is (k : Nat) (n : Int) (l : List Item) (hl : l.length ≤ 1000000000) :
    ∀ (j i : Nat), i + j = l.length → ∀ m, j < m → G7000000_2 k m (l, ((n, ()), ()), (l.length : Int), (i : Int), ()) = some (match idxM n (l.drop i) i with | none => .inl () | some q => .inr ((q : Int), ())) := by
  intro j
  induction j with
  | zero =>
    intro i hij m hm
    obtain ⟨m, rfl⟩ : ∃ q, m = q + 1 := ⟨m - 1, by omega⟩
    rw [G7000000_2_eq, sel_neg (by (try simp only []); omega), List.drop_eq_nil_of_le (by omega)]
    rfl
  | succ j ih =>
    intro i hij m hm
    obtain ⟨m, rfl⟩ : ∃ q, m = q + 1 := ⟨m - 1, by omega⟩
    have hlt : i < l.length := by omega
    rw [G7000000_2_eq]
    simp only [ofNat_len, Int.toNat_natCast, getD_of hlt]
    rw [sel_pos (by omega), sel_pos (by omega), sel_pos (by omega), drop_at hlt, G174_eq, ocall_some]
    simp only [idxM]
    by_cases c : l[i].1 = n
    · rw [sel_pos c, if_pos c]
    · rw [sel_neg c, if_neg c, wrap64 (by omega) (by omega)]
      exact ih (i + 1) (by omega) m (by omega)
theorem G115_is (k : Nat) (n : Int) (typ : Txt) (l : List Item) (hl : l.length ≤ 1000000000) (hk : l.length < k) : G115 k ((typ, l, ()), n, ()) = some ((getM n l).1, (getM n l).2, ()) := by
  rw [G115_eq]
  (try simp only [])
  have := G7000000_2_is k n l hl l.length 0 (by omega) k hk
  simp only [List.drop_zero, Int.natCast_zero] at this
  rw [G7000000_eq]
  simp only [ofNat_len]
  rw [this, ocall_some]
  cases h : idxM n l 0 with
  | none =>
    rw [idxM_none n l 0 h]
    rfl
  | some q =>
    obtain ⟨h1, h2, h3⟩ := idxM_some n l 0 q h
    simp only [Nat.sub_zero] at h1 h3
    rw [h3]
    simp only [esel_inr, ocall_some, Int.toNat_natCast, getD_of h1]
    rw [sel_neg (by omega), sel_pos (by omega), sel_pos (by omega)]
theorem getM_len (n : Int) (L : Nat) : ∀ l : List Item, (∀ x ∈ l, x.2.1.length ≤ L) → (getM n l).1.length ≤ L
  | [], _ => Nat.zero_le _
  | x :: l, h => by
    unfold getM
    split
    · exact h x (List.mem_cons_self ..)
    · exact getM_len n L l fun y hy => h y (List.mem_cons_of_mem _ hy)
end Go.Proofs.YtjgnpmdbkgeakaaDoor.G
end
section
set_option linter.unusedVariables false
set_option linter.unusedSimpArgs false
namespace Go.Proofs.YtjgnpmdbkgeakaaDoor.G
open Go Go.Proofs.YtjgnpmdbkgeakaaDoor Th
def gd (tw : Bool) (d : Nat) : Nat := if tw = true then 2 * d - d / 5 * 9 else d
def fs (tw : Bool) : List UInt8 → Nat
  | [] => 0
  | c :: t => gd (tw != decide (t.length % 2 = 1)) (c.toNat - 48) + fs tw t
theorem gd_le {tw : Bool} {d : Nat} (h : d ≤ 9) : gd tw d ≤ 9 := by
  unfold gd; split <;> omega
theorem fs_le (tw : Bool) : ∀ (s : List UInt8), s.all dgt = true → fs tw s ≤ 9 * s.length
  | [], _ => by simp [fs]
  | c :: t, h => by
    simp only [List.all_cons, Bool.and_eq_true, dgt_iff] at h
    have := fs_le tw t h.2
    have := gd_le (tw := tw != decide (t.length % 2 = 1)) (d := c.toNat - 48) (by omega)
    simp only [fs, List.length_cons]; omega
theorem par_flip (tw : Bool) (n : Nat) : (tw != decide ((n + 1) % 2 = 1)) = ((!tw) != decide (n % 2 = 1)) := by
  rcases Nat.mod_two_eq_zero_or_one n with h | h
  · have : (n + 1) % 2 = 1 := by omega
    cases tw <;> simp [h, this]
  · have : (n + 1) % 2 = 0 := by omega
    cases tw <;> simp [h, this]
theorem sum_fold (l : List (Int × Int)) (tw : Bool) : Sum.sumOf l tw = (l.map (·.2)).foldl Sum.step (0, tw) := by
  unfold Sum.sumOf
  rw [List.foldl_map]
theorem backs_snd (l : List Int) : (Sum.backs l).map (·.2) = l.reverse := by
  unfold Sum.backs
  rw [List.map_reverse, List.map_map]
  congr 1
  apply List.ext_getElem
  · simp
  · intro i h1 h2
    simp at h1 h2
    simp [h2]
theorem toBytes_cons (c : UInt8) (t : List UInt8) : toBytes (c :: t) = (c.toNat : Int) :: toBytes t := rfl
theorem rwrap {n : Int} (h1 : -9223372036854775808 ≤ n) (h2 : n ≤ 9223372036854775807) : RowKit.wrap64 n = n := by
  unfold RowKit.wrap64; omega
theorem sum_is (tw : Bool) : ∀ (s : List UInt8), s.all dgt = true → s.length ≤ 1000000000 → (toBytes s).reverse.foldl Sum.step (0, tw) = ((fs tw s : Int), tw != decide (s.length % 2 = 1))
  | [], _, _ => by simp [toBytes, fs]
  | c :: t, h, hl => by
    have h' := h
    simp only [List.all_cons, Bool.and_eq_true, dgt_iff] at h
    simp only [List.length_cons] at hl
    have hle := fs_le tw t h.2
    rw [toBytes_cons, List.reverse_cons, List.foldl_append, sum_is tw t h.2 (by omega)]
    simp only [List.foldl_cons, List.foldl_nil, Sum.step, fs, List.length_cons]
    have e1 : ((c.toNat : Int) - 48) % 256 = ((c.toNat - 48 : Nat) : Int) := by omega
    have hg := gd_le (tw := tw != decide (t.length % 2 = 1)) (d := c.toNat - 48) (by omega)
    rw [e1]
    refine Prod.ext ?_ ?_
    · (try simp only [])
      have e2 : (bif (tw != decide (t.length % 2 = 1)) then ((c.toNat - 48 : Nat) : Int) * 2 - ((c.toNat - 48 : Nat) : Int) / 5 * 9 else ((c.toNat - 48 : Nat) : Int)) = ((gd (tw != decide (t.length % 2 = 1)) (c.toNat - 48) : Nat) : Int) := by
        unfold gd
        cases (tw != decide (t.length % 2 = 1))
        · simp
        · simp only [cond_true, if_true]; omega
      rw [e2, rwrap (by omega) (by omega)]
      omega
    · (try simp only [])
      rw [par_flip]
      cases tw <;> simp
theorem G170_is (k : Nat) (s : List UInt8) (tw : Bool) (h : s.all dgt = true) (hl : s.length ≤ 1000000000) : G170 k (s, tw, ()) = some ((fs tw s : Int), ()) := by
  rw [G170_eq, sel_pos (by (try simp only []); omega), sum_fold, backs_snd, sum_is tw s h hl]
def isFine (s : List UInt8) : Bool := isDig s && decide (fs false s % 10 = 0)
theorem all_of_isDig {s : List UInt8} (h : isDig s = true) : s.all dgt = true := by simp [isDig] at h; simpa using h.2
theorem tmod10 (n : Nat) : ((n : Int)).tmod 10 = ((n % 10 : Nat) : Int) := by simp [Int.tmod_eq_emod_of_nonneg]
theorem G107_is (k : Nat) (s : List UInt8) (hl : s.length ≤ 1000000000) (hk : s.length < k) : G107 k (s, ()) = some (isFine s, ()) := by
  rw [G107_eq, G169_is k s (by rw [maxLen_eq]; omega) hk, ocall_some]
  unfold isFine
  cases hd : isDig s with
  | false => rfl
  | true =>
    simp only [sel_true]
    rw [G170_is k s false (all_of_isDig hd) hl, ocall_some, tmod10]
    simp only [Bool.true_and]
    have : decide (((fs false s % 10 : Nat) : Int) = 0) = decide (fs false s % 10 = 0) := decide_eq_decide.2 (by omega)
    rw [this]
end Go.Proofs.YtjgnpmdbkgeakaaDoor.G
end
section
set_option linter.unusedVariables false
set_option linter.unusedSimpArgs false
set_option maxRecDepth 100000
namespace Go.Proofs.YtjgnpmdbkgeakaaDoor.G
open Go Go.Proofs.YtjgnpmdbkgeakaaDoor Th
abbrev Deal := Int × Txt × Int × Int × Txt × Txt × Unit
abbrev Key := Int × Txt × Unit
def TY : List Txt := [[], [48, 49, 48, 48], [48, 49, 49, 48], [48, 52, 48, 48], [48, 52, 49, 48], [48, 52, 50, 48], [48, 52, 50, 49], [48, 52, 51, 48]]
def typeK (kind : Int) : Txt := if kind < 0 ∨ 8 ≤ kind then [] else TY.getD kind.toNat []
theorem G108_is (k : Nat) (kind : Int) : G108 k (kind, ()) = some (typeK kind, ()) := by
  rw [G108_eq]
  unfold typeK
  by_cases c1 : kind < 0
  · rw [sel_pos c1, if_pos (.inl c1)]
  by_cases c2 : 8 ≤ kind
  · rw [sel_neg c1, sel_pos c2, if_pos (.inr c2)]
  rw [sel_neg c1, sel_neg c2, sel_pos (by omega), sel_pos (show (kind, ()).fst < Int.ofNat 8 by simp only [Int.ofNat_eq_natCast]; omega), if_neg (by omega)]
  rfl
def asksK (kind : Int) : Bool := decide (kind = 1 ∨ kind = 3 ∨ kind = 5 ∨ kind = 6)
theorem G42_is (k : Nat) (kind : Int) : G42 k (kind, ()) = some (asksK kind, ()) := by
  rw [G42_eq]
  unfold asksK
  simp only [sel_dec]
  by_cases h1 : kind = 1
  · simp [h1]
  by_cases h3 : kind = 3
  · simp [h3]
  by_cases h5 : kind = 5
  · simp [h5]
  by_cases h6 : kind = 6 <;> simp [h1, h3, h5, h6]
def zeros : Txt := List.replicate 32 48
def stanT (stan : Int) : Txt := (putOK stan.toNat 6).1
def amtT (amt : Int) : Txt := (putOK amt.toNat 12).1
def originT (stan : Int) : Txt := [48, 49, 48, 48] ++ stanT stan ++ zeros
def itemsK (d : Deal) : List Item :=
  if asksK d.1 = true then [(2, d.2.1, ()), (4, amtT d.2.2.1, ()), (11, stanT d.2.2.2.1, ()), (37, d.2.2.2.2.1, ())] ++ (if 5 ≤ d.1 then [(90, originT d.2.2.2.1, ())] else [])
  else [(11, stanT d.2.2.2.1, ()), (37, d.2.2.2.2.1, ()), (39, d.2.2.2.2.2.1, ())]
theorem putOK_le (v : Nat) (n : Int) : (putOK v n).1.length ≤ 19 := by
  unfold putOK
  split
  · simp
  · split
    · simp only [digs_len]; omega
    · simp
theorem put_is (k : Nat) (hk : 20 < k) (v n : Int) (h0 : 0 ≤ v) (h1 : v ≤ 18446744073709551615) : G105 k (v, n, ()) = some ((putOK v.toNat n).1, (putOK v.toNat n).2, ()) := by
  have := G105_is k hk v.toNat n (by omega)
  rwa [show ((v.toNat : Nat) : Int) = v by omega] at this
theorem G109_is (k : Nat) (hk : 20 < k) (kind : Int) (pan : Txt) (amt stan : Int) (rrn code : Txt) (ha : 0 ≤ amt ∧ amt ≤ 18446744073709551615) (hs : 0 ≤ stan ∧ stan ≤ 4294967295) :
    G109 k ((kind, pan, amt, stan, rrn, code, ()), ()) = some (itemsK (kind, pan, amt, stan, rrn, code, ()), ()) := by
  rw [G109_eq]
  (try simp only [])
  rw [wrapu64 (by omega) (by omega), put_is k hk stan 6 (by omega) (by omega), ocall_some, G42_is, ocall_some]
  unfold itemsK
  (try simp only [])
  cases asksK kind with
  | false => rfl
  | true =>
    simp only [Bool.not_true, sel_false, if_true]
    rw [put_is k hk amt 12 (by omega) (by omega), ocall_some, G108_is, ocall_some]
    have hl := putOK_le stan.toNat 6
    have ht : typeK 1 = [48, 49, 48, 48] := rfl
    rw [ht]
    by_cases c : 5 ≤ kind
    · rw [sel_pos c, sel_pos (by simp only [List.length_cons, List.length_nil]; omega), sel_pos (by simp only [List.length_append, List.length_cons, List.length_nil]; omega), if_pos c]
      rfl
    · rw [sel_neg c, if_neg c]
      rfl
def dealOK (d : Deal) : Bool := decide (1 ≤ d.1) && decide (d.1 ≤ 7) && decide (d.2.2.2.1 ≤ 999999) && rightF 37 d.2.2.2.2.1 &&
  (if asksK d.1 = true then isFine d.2.1 && decide (d.2.1.length < 20) && decide (d.2.2.1 < 1000000000000) && decide (d.2.2.2.2.2.1 = []) else rightF 39 d.2.2.2.2.2.1 && decide (d.2.1 = []) && decide (d.2.2.1 = 0))
theorem rf11 (s : Txt) : rightF 11 s = (decide (s.length = 6) && isDig s) := by
  have : defOf 11 = some (11, 1, 6, ()) := rfl
  unfold rightF; rw [this]
  simp [sized, ahead, signs, Signs.signsOf]
  by_cases h : s.length = 6 <;> simp [h]; omega
theorem rf4 (s : Txt) : rightF 4 s = (decide (s.length = 12) && isDig s) := by
  have : defOf 4 = some (4, 1, 12, ()) := rfl
  unfold rightF; rw [this]
  simp [sized, ahead, signs, Signs.signsOf]
  by_cases h : s.length = 12 <;> simp [h]; omega
theorem rf90 (s : Txt) : rightF 90 s = (decide (s.length = 42) && isDig s) := by
  have : defOf 90 = some (90, 1, 42, ()) := rfl
  unfold rightF; rw [this]
  simp [sized, ahead, signs, Signs.signsOf]
  by_cases h : s.length = 42 <;> simp [h]; omega
theorem rf2 (s : Txt) : rightF 2 s = (decide (1 ≤ s.length) && decide (s.length ≤ 19) && isDig s) := by
  have : defOf 2 = some (2, 3, 19, ()) := rfl
  unfold rightF; rw [this]
  simp [sized, ahead, signs, Signs.signsOf]
  have : decide ((s.length : Int) ≤ 19) = decide (s.length ≤ 19) := decide_eq_decide.2 (by omega)
  rw [this]
theorem stanT_of {stan : Int} (h0 : 0 ≤ stan) (h : stan ≤ 999999) : stanT stan = digs stan.toNat 6 := by
  unfold stanT putOK
  rw [if_neg (by omega), if_pos (show stan.toNat / 10 ^ (6 : Int).toNat = 0 from Nat.div_eq_of_lt (by show stan.toNat < 10 ^ 6; omega))]
  rfl
theorem stanT_no {stan : Int} (h : ¬ stan ≤ 999999) : stanT stan = [] := by
  unfold stanT putOK
  rw [if_neg (by omega), if_neg]
  show ¬ stan.toNat / 10 ^ 6 = 0
  intro e
  have := (Nat.div_eq_zero_iff).1 e
  omega
theorem amtT_of {amt : Int} (h0 : 0 ≤ amt) (h : amt < 1000000000000) : amtT amt = digs amt.toNat 12 := by
  unfold amtT putOK
  rw [if_neg (by omega), if_pos (show amt.toNat / 10 ^ (12 : Int).toNat = 0 from Nat.div_eq_of_lt (by show amt.toNat < 10 ^ 12; omega))]
  rfl
theorem amtT_no {amt : Int} (h : ¬ amt < 1000000000000) : amtT amt = [] := by
  unfold amtT putOK
  rw [if_neg (by omega), if_neg]
  show ¬ amt.toNat / 10 ^ 12 = 0
  intro e
  have := (Nat.div_eq_zero_iff).1 e
  omega
theorem digs_all : ∀ (n v : Nat), (digs v n).all dgt = true := by
  intro n
  induction n with
  | zero => intro v; rfl
  | succ n ih =>
    intro v
    simp only [digs, List.all_append, ih, List.all_cons, List.all_nil, Bool.and_true, Bool.true_and]
    rw [dgt_iff, chr_toNat (by omega)]
    omega
theorem isDig_of {n v : Nat} (h : 0 < n) : isDig (digs v n) = true := by
  unfold isDig
  rw [digs_all, digs_len, decide_eq_true h]; rfl
theorem rf11_stan {stan : Int} (h0 : 0 ≤ stan) : rightF 11 (stanT stan) = decide (stan ≤ 999999) := by
  by_cases h : stan ≤ 999999
  · rw [rf11, stanT_of h0 h, digs_len, isDig_of (by omega), decide_eq_true h]; rfl
  · rw [rf11, stanT_no h, decide_eq_false h]; rfl
theorem rf4_amt {amt : Int} (h0 : 0 ≤ amt) : rightF 4 (amtT amt) = decide (amt < 1000000000000) := by
  by_cases h : amt < 1000000000000
  · rw [rf4, amtT_of h0 h, digs_len, isDig_of (by omega), decide_eq_true h]; rfl
  · rw [rf4, amtT_no h, decide_eq_false h]; rfl
theorem rf90_origin {stan : Int} (h0 : 0 ≤ stan) (h : stan ≤ 999999) : rightF 90 (originT stan) = true := by
  rw [rf90]
  unfold originT zeros
  rw [stanT_of h0 h]
  have hl : ([48, 49, 48, 48] ++ digs stan.toNat 6 ++ List.replicate 32 (48 : UInt8)).length = 42 := by simp [digs_len]
  have ha : ([48, 49, 48, 48] ++ digs stan.toNat 6 ++ List.replicate 32 (48 : UInt8)).all dgt = true := by
    rw [List.all_append, List.all_append, digs_all]; rfl
  unfold isDig
  rw [hl, ha]; rfl
theorem rf2_fine {pan : Txt} (h : isFine pan = true) : rightF 2 pan = decide (pan.length < 20) := by
  have hd : isDig pan = true := by unfold isFine at h; simp at h; exact h.1
  have hp : 0 < pan.length := by unfold isDig at hd; simp at hd; exact hd.1
  rw [rf2, hd, decide_eq_true (show 1 ≤ pan.length by omega)]
  have : decide (pan.length ≤ 19) = decide (pan.length < 20) := decide_eq_decide.2 (by omega)
  rw [this]; simp
theorem known_type (kind : Int) : knownT (typeK kind) = (decide (1 ≤ kind) && decide (kind ≤ 7)) := by
  by_cases h : kind < 0 ∨ 8 ≤ kind
  · have : typeK kind = [] := by unfold typeK; rw [if_pos h]
    rw [this]
    rcases h with h | h
    · rw [decide_eq_false (show ¬ 1 ≤ kind by omega)]; rfl
    · rw [decide_eq_false (show ¬ kind ≤ 7 by omega), Bool.and_false]; rfl
  · have : kind = 0 ∨ kind = 1 ∨ kind = 2 ∨ kind = 3 ∨ kind = 4 ∨ kind = 5 ∨ kind = 6 ∨ kind = 7 := by omega
    rcases this with rfl | rfl | rfl | rfl | rfl | rfl | rfl | rfl <;> rfl
theorem asks_kind {kind : Int} (h : asksK kind = true) : 1 ≤ kind ∧ kind ≤ 7 := by
  simp [asksK] at h; omega
theorem right_eq (kind : Int) (pan : Txt) (amt stan : Int) (rrn code : Txt) (ha : 0 ≤ amt) (hs : 0 ≤ stan) :
    (if asksK kind = true then decide (code = []) && isFine pan && msgRight (typeK kind, itemsK (kind, pan, amt, stan, rrn, code, ()), ())
     else decide (pan = []) && decide (amt = 0) && msgRight (typeK kind, itemsK (kind, pan, amt, stan, rrn, code, ()), ())) = dealOK (kind, pan, amt, stan, rrn, code, ()) := by
  unfold dealOK msgRight itemsK
  (try simp only [])
  cases hk : asksK kind with
  | true =>
    obtain ⟨k1, k7⟩ := asks_kind hk
    simp only [if_true, known_type, decide_eq_true k1, decide_eq_true k7]
    by_cases hf : isFine pan = true
    · by_cases c : 5 ≤ kind
      · simp only [if_pos c, List.cons_append, List.nil_append, itemsOK, rf2_fine hf, rf4_amt ha, rf11_stan hs]
        by_cases hst : stan ≤ 999999
        · simp only [rf90_origin hs hst, decide_eq_true hst, hf]
          cases rightF 37 rrn <;> by_cases h1 : pan.length < 20 <;> by_cases h2 : amt < 1000000000000 <;> by_cases h3 : code = [] <;> simp [h1, h2, h3]
        · simp [hst]
      · simp only [if_neg c, List.append_nil, itemsOK, rf2_fine hf, rf4_amt ha, rf11_stan hs, hf]
        cases rightF 37 rrn <;> by_cases h0 : stan ≤ 999999 <;> by_cases h1 : pan.length < 20 <;> by_cases h2 : amt < 1000000000000 <;> by_cases h3 : code = [] <;> simp [h0, h1, h2, h3]
    · have hf : isFine pan = false := by simpa using hf
      simp [hf]
  | false =>
    simp only [Bool.false_eq_true, if_false, known_type, itemsOK, rf11_stan hs]
    cases rightF 37 rrn <;> cases rightF 39 code <;> by_cases h0 : stan ≤ 999999 <;> by_cases h1 : pan = [] <;> by_cases h2 : amt = 0 <;> by_cases h3 : 1 ≤ kind <;> by_cases h4 : kind ≤ 7 <;> simp [h0, h1, h2, h3, h4]
theorem itemsK_len (d : Deal) : (itemsK d).length ≤ 5 := by
  unfold itemsK; split
  · split <;> simp
  · simp
theorem itemsK_txt (d : Deal) (L : Nat) (h1 : d.2.1.length ≤ L) (h2 : d.2.2.2.2.1.length ≤ L) (h3 : d.2.2.2.2.2.1.length ≤ L) : ∀ x ∈ itemsK d, x.2.1.length ≤ L + 60 := by
  have a1 : (amtT d.2.2.1).length ≤ 19 := putOK_le _ _
  have a2 : (stanT d.2.2.2.1).length ≤ 19 := putOK_le _ _
  have a3 : (originT d.2.2.2.1).length ≤ 60 := by unfold originT zeros; simp; omega
  intro x hx
  unfold itemsK at hx
  split at hx
  · split at hx
    · simp at hx
      rcases hx with rfl | rfl | rfl | rfl | rfl <;> (try simp only []) <;> omega
    · simp at hx
      rcases hx with rfl | rfl | rfl | rfl <;> (try simp only []) <;> omega
  · simp at hx
    rcases hx with rfl | rfl | rfl <;> (try simp only []) <;> omega
def lens (L : Nat) (d : Deal) : Prop := d.2.1.length ≤ L ∧ d.2.2.2.2.1.length ≤ L ∧ d.2.2.2.2.2.1.length ≤ L
instance (L : Nat) (d : Deal) : Decidable (lens L d) := by unfold lens; infer_instance
def goodD (d : Deal) : Prop := (0 ≤ d.2.2.1 ∧ d.2.2.1 ≤ 18446744073709551615) ∧ 0 ≤ d.2.2.2.1 ∧ d.2.2.2.1 ≤ 4294967295
theorem G33_is (k L : Nat) (hL : L ≤ 1000000) (hk : L + 100 < k) (d : Deal) (hl : lens L d) (hg : goodD d) : G33 k (d, ()) = some (dealOK d, ()) := by
  obtain ⟨kind, pan, amt, stan, rrn, code, ⟨⟩⟩ := d
  obtain ⟨l1, l2, l3⟩ := hl
  obtain ⟨ha, hs⟩ := hg
  (try simp only [] at l1 l2 l3 ha hs)
  rw [← right_eq kind pan amt stan rrn code ha.1 hs.1, G33_eq]
  (try simp only [])
  have hm : G44 k ((typeK kind, itemsK (kind, pan, amt, stan, rrn, code, ()), ()), ()) = some (msgRight (typeK kind, itemsK (kind, pan, amt, stan, rrn, code, ()), ()), ()) := by
    have h5 := itemsK_len (kind, pan, amt, stan, rrn, code, ())
    refine G44_is k (by omega) _ _ (by omega) (by omega) fun x hx => ?_
    have := itemsK_txt (kind, pan, amt, stan, rrn, code, ()) L l1 l2 l3 x hx
    rw [maxLen_eq]; omega
  rw [G42_is, ocall_some, G107_is k pan (by omega) (by omega), ocall_some, G108_is, ocall_some, G109_is k (by omega) kind pan amt stan rrn code ha hs, ocall_some, hm, ocall_some]
  cases asksK kind with
  | true =>
    simp only [sel_true, if_true]
    by_cases c : code = []
    · cases isFine pan <;> simp [c]
    · rw [sel_eq]; simp [c]
  | false =>
    simp only [sel_false, Bool.false_eq_true, if_false]
    by_cases c : pan = []
    · by_cases c2 : amt = 0 <;> simp [c, c2]
    · rw [sel_eq]; simp [c]
end Go.Proofs.YtjgnpmdbkgeakaaDoor.G
end
section
set_option linter.unusedVariables false
set_option linter.unusedSimpArgs false
namespace Go.Proofs.YtjgnpmdbkgeakaaDoor.G
open Go Go.Proofs.YtjgnpmdbkgeakaaDoor Th
theorem chr_dig {e : Nat} (h : e ≤ 9) : (UInt8.ofNat (48 + e)).toNat = 48 + e := chr_toNat (by omega)
theorem chr_dgt {e : Nat} (h : e ≤ 9) : dgt (UInt8.ofNat (48 + e)) = true := by rw [dgt_iff, chr_dig h]; omega
theorem val_snoc (a : Nat) (s : List UInt8) (c : UInt8) : val a (s ++ [c]) = 10 * val a s + (c.toNat - 48) := by
  unfold val; rw [List.foldl_append, List.foldl_cons, List.foldl_nil]
theorem val_digs : ∀ (n v : Nat), val 0 (digs v n) = v % 10 ^ n
  | 0, v => by simp [digs, val, Nat.mod_one]
  | n + 1, v => by
    have h10 : v % 10 < 10 := Nat.mod_lt _ (by omega)
    rw [digs, val_snoc, val_digs n, chr_dig (by omega), Nat.pow_succ, Nat.mul_comm (10 ^ n) 10, Nat.mod_mul]
    omega
theorem digs_dig : ∀ (n v : Nat), (digs v n).all dgt = true
  | 0, _ => rfl
  | n + 1, v => by
    have h10 : v % 10 < 10 := Nat.mod_lt _ (by omega)
    rw [digs, List.all_append, digs_dig n]
    simp only [List.all_cons, List.all_nil, Bool.and_true, Bool.true_and]
    exact chr_dgt (by omega)
theorem isDig_digs (n v : Nat) (h : 0 < n) : isDig (digs v n) = true := by
  simp [isDig, digs_len, digs_dig, h]
theorem chr_back {c : UInt8} (h : dgt c = true) : UInt8.ofNat (48 + (c.toNat - 48)) = c := by
  rw [dgt_iff] at h
  rw [show 48 + (c.toNat - 48) = c.toNat from by omega]
  simp
theorem digs_val : ∀ (n : Nat) (s : List UInt8), s.length = n → s.all dgt = true → digs (val 0 s) n = s ∧ val 0 s < 10 ^ n := by
  intro n
  induction n with
  | zero => intro s hs _; have : s = [] := List.length_eq_zero_iff.1 hs; subst this; exact ⟨rfl, by simp [val]⟩
  | succ n ih =>
    intro s hs hd
    obtain ⟨t, c, rfl⟩ : ∃ t c, s = t ++ [c] := ⟨s.dropLast, s.getLast (by intro h; rw [h] at hs; simp at hs), (List.dropLast_concat_getLast _).symm⟩
    simp only [List.all_append, List.all_cons, List.all_nil, Bool.and_true, Bool.and_eq_true] at hd
    obtain ⟨h1, h2⟩ := ih t (by simpa using hs) hd.1
    have hc := hd.2
    rw [dgt_iff] at hc
    rw [val_snoc]
    have e1 : (10 * val 0 t + (c.toNat - 48)) / 10 = val 0 t := by omega
    have e2 : (10 * val 0 t + (c.toNat - 48)) % 10 = c.toNat - 48 := by omega
    refine ⟨by rw [digs, e1, e2, h1, chr_back hd.2], ?_⟩
    rw [Nat.pow_succ]; omega
theorem get_digs (n v : Nat) (h0 : 0 < n) (h19 : n ≤ 19) (hv : v < 10 ^ n) : getOK (digs v n) = (v, 0) := by
  unfold getOK
  rw [digs_len, if_neg (by omega), if_neg (by omega), isDig_digs n v h0, if_pos rfl, val_digs, Nat.mod_eq_of_lt hv]
theorem toBytes_len (s : List UInt8) : (toBytes s).length = s.length := by simp [toBytes]
theorem ofBytes_toBytes (s : List UInt8) : ofBytes (toBytes s) = s := by
  unfold ofBytes toBytes
  rw [List.map_map]
  conv => rhs; rw [← List.map_id s]
  apply List.map_congr_left
  intro c _
  simp
theorem toBytes_drop (s : List UInt8) (n : Nat) : (toBytes s).drop n = toBytes (s.drop n) := by simp [toBytes, List.map_drop]
theorem len_ok {d : Def} (hd : d ∈ D) {n : Nat} (h : sized d n = true) (ha : ahead d.2.1 ≠ 0) : 1 ≤ n ∧ n < 10 ^ ahead d.2.1 ∧ (n : Int) ≤ d.2.2.1 := by
  obtain ⟨_, _, _, _, h1, h2, h3⟩ := D_all d hd
  unfold sized at h
  rw [if_neg ha] at h
  simp only [Bool.and_eq_true, decide_eq_true_eq] at h
  rcases ahead_cases (kind := d.2.1) with e | e | e
  · exact absurd e ha
  · have := h3 (ahead_two e)
    rw [e]; refine ⟨h.1, ?_, h.2⟩; omega
  · rw [e]; refine ⟨h.1, ?_, h.2⟩; omega
theorem writeF_len (d : Def) (s : List UInt8) : (writeF d s).length = ahead d.2.1 + s.length := by
  unfold writeF
  split
  · rename_i h; rw [h]; omega
  · rw [List.length_append, digs_len]
theorem lenF_write {d : Def} (hd : d ∈ D) (s t : List UInt8) (h : sized d s.length = true) : lenF d (writeF d s ++ t) = ((s.length : Int), 0) := by
  unfold lenF writeF
  by_cases ha : ahead d.2.1 = 0
  · rw [if_pos ha]
    unfold sized at h
    rw [if_pos ha] at h
    simp only [decide_eq_true_eq] at h
    rw [h]
  · obtain ⟨l1, l2, l3⟩ := len_ok hd h ha
    have h19 : ahead d.2.1 ≤ 19 := by rcases ahead_cases (kind := d.2.1) with e | e | e <;> omega
    rw [if_neg ha, if_neg ha, if_neg (by simp [digs_len]), List.append_assoc, List.take_append_of_le_length (by rw [digs_len]; omega), List.take_of_length_le (by rw [digs_len]; omega),
      get_digs _ _ (by omega) h19 l2, if_pos ⟨rfl, by omega⟩, if_neg (by (try simp only []); omega)]
theorem read_write {d : Def} (hd : d ∈ D) (s t : List UInt8) (h : sized d s.length = true) (hs : signs d s = true) : readF d (writeF d s ++ t) = (s, ((writeF d s).length : Int), 0) := by
  have hl := lenF_write hd s t h
  have hw := writeF_len d s
  unfold readF
  rw [hl]
  simp only [if_true]
  have e : ((ahead d.2.1 : Int) + (s.length : Int)).toNat = (writeF d s).length := by omega
  rw [if_neg (by rw [List.length_append]; omega), e, List.take_append_of_le_length (Nat.le_refl _), List.take_of_length_le (Nat.le_refl _)]
  have e2 : (writeF d s).drop (ahead d.2.1) = s := by
    unfold writeF
    split
    · rename_i ha; rw [ha]; rfl
    · rw [List.drop_append_of_le_length (by rw [digs_len]; omega), List.drop_of_length_le (by rw [digs_len]; omega)]; rfl
  rw [e2, if_pos hs, hw]
  simp
theorem read_back {d : Def} (hd : d ∈ D) (b : List UInt8) (h : (readF d b).2.2 = 0) :
    ∃ k : Nat, (readF d b).2.1 = (k : Int) ∧ 0 < k ∧ k ≤ b.length ∧ sized d (readF d b).1.length = true ∧ signs d (readF d b).1 = true ∧ writeF d (readF d b).1 = b.take k := by
  obtain ⟨_, _, _, _, z1, z2, z3⟩ := D_all d hd
  unfold readF at h ⊢
  by_cases c0 : (lenF d b).2 = 0
  · rw [if_pos c0] at h ⊢
    obtain ⟨l1, l2⟩ := lenF_le hd c0
    by_cases c1 : (b.length : Int) < (ahead d.2.1 : Int) + (lenF d b).1
    · rw [if_pos c1] at h; cases h
    · rw [if_neg c1] at h ⊢
      obtain ⟨l, hl⟩ : ∃ l : Nat, (lenF d b).1 = (l : Int) := ⟨(lenF d b).1.toNat, by omega⟩
      rw [hl] at h ⊢ c1 l1 l2
      have e : ((ahead d.2.1 : Int) + (l : Int)).toNat = ahead d.2.1 + l := by omega
      rw [e] at h ⊢
      split at h
      · rename_i hs
        rw [if_pos hs]
        refine ⟨ahead d.2.1 + l, by simp, by omega, by omega, ?_⟩
        have el : ((b.take (ahead d.2.1 + l)).drop (ahead d.2.1)).length = l := by rw [List.length_drop, List.length_take]; omega
        (try simp only [])
        rw [el]
        refine ⟨?_, hs, ?_⟩
        · unfold sized
          unfold lenF at hl
          by_cases ha : ahead d.2.1 = 0
          · rw [if_pos ha] at hl ⊢
            (try simp only [] at hl)
            rw [hl]; simp
          · rw [if_neg ha]
            simp only [Bool.and_eq_true, decide_eq_true_eq]
            omega
        · unfold writeF
          by_cases ha : ahead d.2.1 = 0
          · rw [if_pos ha, ha]; rfl
          · rw [if_neg ha, el]
            have hd2 : digs l (ahead d.2.1) = b.take (ahead d.2.1) := by
              unfold lenF at hl c0
              rw [if_neg ha] at hl c0
              by_cases q : b.length < ahead d.2.1
              · rw [if_pos q] at c0; cases c0
              rw [if_neg q] at hl c0
              by_cases q2 : (getOK (b.take (ahead d.2.1))).2 = 0 ∧ (getOK (b.take (ahead d.2.1))).1 ≠ 0
              · rw [if_pos q2] at hl c0
                by_cases q3 : d.2.2.1 < ((getOK (b.take (ahead d.2.1))).1 : Int)
                · rw [if_pos q3] at c0; cases c0
                · rw [if_neg q3] at hl
                  have hv : (getOK (b.take (ahead d.2.1))).1 = l := by (try simp only [] at hl); omega
                  have hb : (b.take (ahead d.2.1)).length = ahead d.2.1 := by rw [List.length_take]; omega
                  have hg := q2.1
                  unfold getOK at hv hg
                  rw [hb, if_neg ha] at hv hg
                  by_cases q4 : 19 < ahead d.2.1
                  · rw [if_pos q4] at hg; cases hg
                  rw [if_neg q4] at hv hg
                  by_cases q5 : isDig (b.take (ahead d.2.1)) = true
                  · rw [if_pos q5] at hv
                    (try simp only [] at hv)
                    rw [← hv]
                    exact (digs_val _ _ hb (all_of_isDig q5)).1
                  · rw [if_neg q5] at hg; cases hg
              · rw [if_neg q2] at c0; cases c0
            rw [hd2]
            conv => rhs; rw [← List.take_append_drop (ahead d.2.1) (b.take (ahead d.2.1 + l))]
            rw [List.take_take, show min (ahead d.2.1) (ahead d.2.1 + l) = ahead d.2.1 from by omega]
      · cases h
  · rw [if_neg c0] at h; exact absurd h c0
end Go.Proofs.YtjgnpmdbkgeakaaDoor.G
end
section
set_option linter.unusedVariables false
set_option linter.unusedSimpArgs false
set_option maxRecDepth 100000
namespace Go.Proofs.YtjgnpmdbkgeakaaDoor.G
open Go Go.Proofs.YtjgnpmdbkgeakaaDoor Th
def kindT (s : Txt) : Int :=
  if s = [48, 49, 48, 48] then 1 else if s = [48, 49, 49, 48] then 2 else if s = [48, 52, 48, 48] then 3 else if s = [48, 52, 49, 48] then 4 else if s = [48, 52, 50, 48] then 5 else if s = [48, 52, 50, 49] then 6 else if s = [48, 52, 51, 48] then 7 else 0
theorem G113_2_step (k n : Nat) (s t : Txt) (i : Int) (h1 : 1 ≤ i) (h7 : i ≤ 7) (ht : typeK i = t) : G113_2 k (n + 1) (s, i, ()) = sel (decide (t = s)) (some (.inr (i, ()))) (G113_2 k n (s, i + 1, ())) := by
  rw [G113_2_eq, sel_pos h7, G108_is, ocall_some, wrap64 (show -9223372036854775808 ≤ i + 1 by omega) (show i + 1 ≤ 9223372036854775807 by omega), ht]
theorem G113_2_last (k n : Nat) (s : Txt) (i : Int) (h : ¬ i ≤ 7) : G113_2 k (n + 1) (s, i, ()) = some (.inl ()) := by
  rw [G113_2_eq, sel_neg h]
theorem G113_is (k : Nat) (hk : 20 < k) (s : Txt) : G113 k (s, ()) = some (kindT s, ()) := by
  obtain ⟨m, rfl⟩ : ∃ m, k = m + 8 := ⟨k - 8, by omega⟩
  rw [G113_eq]
  (try simp only [])
  rw [G113_2_step (m + 8) (m + 7) s [48, 49, 48, 48] 1 (by omega) (by omega) rfl, G113_2_step (m + 8) (m + 6) s [48, 49, 49, 48] (1 + 1) (by omega) (by omega) rfl, G113_2_step (m + 8) (m + 5) s [48, 52, 48, 48] (1 + 1 + 1) (by omega) (by omega) rfl,
    G113_2_step (m + 8) (m + 4) s [48, 52, 49, 48] (1 + 1 + 1 + 1) (by omega) (by omega) rfl, G113_2_step (m + 8) (m + 3) s [48, 52, 50, 48] (1 + 1 + 1 + 1 + 1) (by omega) (by omega) rfl,
    G113_2_step (m + 8) (m + 2) s [48, 52, 50, 49] (1 + 1 + 1 + 1 + 1 + 1) (by omega) (by omega) rfl, G113_2_step (m + 8) (m + 1) s [48, 52, 51, 48] (1 + 1 + 1 + 1 + 1 + 1 + 1) (by omega) (by omega) rfl,
    G113_2_last (m + 8) m s _ (by omega)]
  unfold kindT
  by_cases h1 : s = [48, 49, 48, 48]
  · rw [sel_pos h1.symm, if_pos h1]; rfl
  rw [sel_neg (fun e => h1 e.symm), if_neg h1]
  by_cases h2 : s = [48, 49, 49, 48]
  · rw [sel_pos h2.symm, if_pos h2]; rfl
  rw [sel_neg (fun e => h2 e.symm), if_neg h2]
  by_cases h3 : s = [48, 52, 48, 48]
  · rw [sel_pos h3.symm, if_pos h3]; rfl
  rw [sel_neg (fun e => h3 e.symm), if_neg h3]
  by_cases h4 : s = [48, 52, 49, 48]
  · rw [sel_pos h4.symm, if_pos h4]; rfl
  rw [sel_neg (fun e => h4 e.symm), if_neg h4]
  by_cases h5 : s = [48, 52, 50, 48]
  · rw [sel_pos h5.symm, if_pos h5]; rfl
  rw [sel_neg (fun e => h5 e.symm), if_neg h5]
  by_cases h6 : s = [48, 52, 50, 49]
  · rw [sel_pos h6.symm, if_pos h6]; rfl
  rw [sel_neg (fun e => h6 e.symm), if_neg h6]
  by_cases h7 : s = [48, 52, 51, 48]
  · rw [sel_pos h7.symm, if_pos h7]; rfl
  rw [sel_neg (fun e => h7 e.symm), if_neg h7]
  rfl
def numM (n : Int) (l : List Item) : Int := (((getOK (getM n l).1).1 : Nat) : Int)
theorem G114_is (k : Nat) (hk : 20 < k) (n : Int) (typ : Txt) (l : List Item) (hl : l.length ≤ 1000000000) (hlk : l.length < k) : G114 k ((typ, l, ()), n, ()) = some (numM n l, ()) := by
  rw [G114_eq, G115_is k n typ l hl hlk, ocall_some, G172_is k _ hk, ocall_some]
  rfl
theorem getOK_lt (s : Txt) : (getOK s).1 < 10 ^ 19 := by
  unfold getOK
  split
  · simp
  split
  · simp
  split
  · rename_i h1 h2 h3
    have := val_lt s 0 (all_of_isDig h3)
    have := pow_le19 (i := s.length) (by omega)
    simp only [Nat.zero_add, Nat.one_mul] at *
    omega
  · simp
theorem numM_good (n : Int) (l : List Item) : 0 ≤ numM n l ∧ numM n l ≤ 18446744073709551615 := by
  have := getOK_lt (getM n l).1
  unfold numM
  constructor
  · omega
  · have e : (10 : Nat) ^ 19 = 10000000000000000000 := rfl
    omega
def mustK (kind : Int) : List Int := if kind = 5 ∨ kind = 6 then [2, 4, 11, 37, 90] else if asksK kind = true then [2, 4, 11, 37] else [11, 37, 39]
theorem items_must (d : Deal) : (itemsK d).map (·.1) = mustK d.1 := by
  unfold itemsK mustK
  by_cases h : asksK d.1 = true
  · rw [if_pos h]
    have hh := h
    simp only [asksK, decide_eq_true_eq] at hh
    by_cases c : 5 ≤ d.1
    · rw [if_pos c, if_pos (by omega)]; rfl
    · rw [if_neg c, if_neg (by omega), if_pos h]; rfl
  · rw [if_neg h]
    have hh := h
    simp only [asksK, decide_eq_true_eq] at hh
    rw [if_neg (by omega), if_neg h]; rfl
def fitsM (l : List Item) (d : Deal) : Bool := decide ((itemsK d).map (·.1) = l.map (·.1))
theorem G116_5_is (k : Nat) (a b : List Item) (typ : Txt) (hab : a.length = b.length) (hl : a.length ≤ 1000000000) : ∀ (j i : Nat), i + j = a.length → ∀ m, j < m →
    G116_5 k m (a, (a.length : Int), (i : Int), typ, b, ()) = some (sel (decide ((a.drop i).map (·.1) = (b.drop i).map (·.1))) (.inl ()) (.inr (false, ()))) := by
  intro j
  induction j with
  | zero =>
    intro i hij m hm
    obtain ⟨m, rfl⟩ : ∃ q, m = q + 1 := ⟨m - 1, by omega⟩
    rw [G116_5_eq, sel_neg (by (try simp only []); omega), List.drop_eq_nil_of_le (by omega), List.drop_eq_nil_of_le (by omega)]
    rfl
  | succ j ih =>
    intro i hij m hm
    obtain ⟨m, rfl⟩ : ∃ q, m = q + 1 := ⟨m - 1, by omega⟩
    have hlt : i < a.length := by omega
    have hlt' : i < b.length := by omega
    rw [G116_5_eq]
    simp only [ofNat_len, Int.toNat_natCast, getD_of hlt, getD_of hlt']
    rw [sel_pos (by omega), sel_pos (by omega), sel_pos (by omega), sel_pos hlt, sel_pos (by omega), sel_pos (by omega), drop_at hlt, drop_at hlt']
    simp only [List.map_cons, List.cons.injEq]
    by_cases c : b[i].1 = a[i].1
    · rw [decide_eq_true c, Bool.not_true, sel_false, wrap64 (by omega) (by omega)]
      have := ih (i + 1) (by omega) m (by omega)
      simp only [Int.natCast_add, Int.natCast_one] at this
      rw [this]
      have e : decide (a[i].1 = b[i].1 ∧ (a.drop (i + 1)).map (·.1) = (b.drop (i + 1)).map (·.1)) = decide ((a.drop (i + 1)).map (·.1) = (b.drop (i + 1)).map (·.1)) := decide_eq_decide.2 ⟨fun h => h.2, fun h => ⟨c.symm, h⟩⟩
      rw [e]
    · rw [decide_eq_false c, Bool.not_false, sel_true, decide_eq_false (fun h => c h.1.symm)]
      rfl
theorem G116_is (k : Nat) (hk : 20 < k) (typ : Txt) (l : List Item) (kind : Int) (pan : Txt) (amt stan : Int) (rrn code : Txt) (ha : 0 ≤ amt ∧ amt ≤ 18446744073709551615) (hs : 0 ≤ stan ∧ stan ≤ 4294967295) :
    G116 k ((typ, l, ()), (kind, pan, amt, stan, rrn, code, ()), ()) = some (fitsM l (kind, pan, amt, stan, rrn, code, ()), ()) := by
  rw [G116_eq]
  (try simp only [])
  rw [G109_is k hk kind pan amt stan rrn code ha hs, ocall_some]
  have h5 := itemsK_len (kind, pan, amt, stan, rrn, code, ())
  unfold fitsM
  simp only [ofNat_len]
  by_cases c : (itemsK (kind, pan, amt, stan, rrn, code, ())).length = l.length
  · rw [decide_eq_true (show ((itemsK (kind, pan, amt, stan, rrn, code, ())).length : Int) = (l.length : Int) by omega), Bool.not_true, sel_false]
    have := G116_5_is k (itemsK (kind, pan, amt, stan, rrn, code, ())) l typ c (by omega) (itemsK (kind, pan, amt, stan, rrn, code, ())).length 0 (by omega) k (by omega)
    simp only [List.drop_zero, Int.natCast_zero] at this
    rw [this, ocall_some]
    cases decide ((itemsK (kind, pan, amt, stan, rrn, code, ())).map (·.1) = l.map (·.1)) <;> rfl
  · rw [decide_eq_false (show ¬ ((itemsK (kind, pan, amt, stan, rrn, code, ())).length : Int) = (l.length : Int) by omega), Bool.not_false, sel_true, decide_eq_false (fun h => c (by have := congrArg List.length h; simpa using this))]
def zeroD : Deal := (0, [], 0, 0, [], [], ())
def deM (m : Msg) : Deal := (kindT m.1, (getM 2 m.2.1).1, numM 4 m.2.1, IntKind.u32.wrap (numM 11 m.2.1), (getM 37 m.2.1).1, (getM 39 m.2.1).1, ())
def readD (m : Msg) : Deal × Int :=
  if msgRight m = true then
    if m.2.1.map (·.1) = mustK (kindT m.1) then
      if asksK (kindT m.1) = true ∧ isFine (getM 2 m.2.1).1 = false then (zeroD, 3)
      else if (kindT m.1 = 5 ∨ kindT m.1 = 6) ∧ (getM 90 m.2.1).1 ≠ [48, 49, 48, 48] ++ (getM 11 m.2.1).1 ++ zeros then (zeroD, 11)
      else (deM m, 0)
    else (zeroD, 3)
  else (zeroD, 1)
theorem wrap32_good (n : Int) : 0 ≤ IntKind.u32.wrap n ∧ IntKind.u32.wrap n ≤ 4294967295 := by
  have : IntKind.u32.wrap n = n % 4294967296 := rfl
  rw [this]; omega
theorem items3 {l : List Item} (h : l.map (·.1) = [11, 37, 39]) : ∃ a b c, l = [(11, a, ()), (37, b, ()), (39, c, ())] := by
  match l, h with
  | [(x, a, ⟨⟩), (y, b, ⟨⟩), (z, c, ⟨⟩)], h =>
    simp only [List.map_cons, List.map_nil, List.cons.injEq, and_true] at h
    obtain ⟨rfl, rfl, rfl⟩ := h
    exact ⟨a, b, c, rfl⟩
theorem items4 {l : List Item} (h : l.map (·.1) = [2, 4, 11, 37]) : ∃ a b c d, l = [(2, a, ()), (4, b, ()), (11, c, ()), (37, d, ())] := by
  match l, h with
  | [(x, a, ⟨⟩), (y, b, ⟨⟩), (z, c, ⟨⟩), (w, d, ⟨⟩)], h =>
    simp only [List.map_cons, List.map_nil, List.cons.injEq, and_true] at h
    obtain ⟨rfl, rfl, rfl, rfl⟩ := h
    exact ⟨a, b, c, d, rfl⟩
theorem items5 {l : List Item} (h : l.map (·.1) = [2, 4, 11, 37, 90]) : ∃ a b c d e, l = [(2, a, ()), (4, b, ()), (11, c, ()), (37, d, ()), (90, e, ())] := by
  match l, h with
  | [(x, a, ⟨⟩), (y, b, ⟨⟩), (z, c, ⟨⟩), (w, d, ⟨⟩), (v, e, ⟨⟩)], h =>
    simp only [List.map_cons, List.map_nil, List.cons.injEq, and_true] at h
    obtain ⟨rfl, rfl, rfl, rfl, rfl⟩ := h
    exact ⟨a, b, c, d, e, rfl⟩
theorem stan_back {s : Txt} (h : rightF 11 s = true) : 0 ≤ IntKind.u32.wrap (((getOK s).1 : Nat) : Int) ∧ IntKind.u32.wrap (((getOK s).1 : Nat) : Int) ≤ 999999 ∧ stanT (IntKind.u32.wrap (((getOK s).1 : Nat) : Int)) = s ∧ s.length = 6 := by
  rw [rf11, Bool.and_eq_true, decide_eq_true_eq] at h
  obtain ⟨hl, hd⟩ := h
  have ha := all_of_isDig hd
  obtain ⟨h1, h2⟩ := digs_val 6 s hl ha
  have e : getOK s = (val 0 s, 0) := by
    unfold getOK
    rw [if_neg (by omega), if_neg (by omega), if_pos hd]
  rw [e]
  (try simp only [])
  have h3 : val 0 s < 1000000 := h2
  rw [wrapu32 (by omega) (by omega)]
  refine ⟨by omega, by omega, ?_, hl⟩
  rw [stanT_of (by omega) (by omega), Int.toNat_natCast, h1]
theorem amt_back {s : Txt} (h : rightF 4 s = true) : (((getOK s).1 : Nat) : Int) < 1000000000000 ∧ amtT (((getOK s).1 : Nat) : Int) = s := by
  rw [rf4, Bool.and_eq_true, decide_eq_true_eq] at h
  obtain ⟨hl, hd⟩ := h
  have ha := all_of_isDig hd
  obtain ⟨h1, h2⟩ := digs_val 12 s hl ha
  have e : getOK s = (val 0 s, 0) := by
    unfold getOK
    rw [if_neg (by omega), if_neg (by omega), if_pos hd]
  rw [e]
  (try simp only [])
  have h3 : val 0 s < 1000000000000 := h2
  refine ⟨by omega, ?_⟩
  rw [amtT_of (by omega) (by omega), Int.toNat_natCast, h1]
theorem items_right {m : Msg} (h : msgRight m = true) : itemsOK 0 m.2.1 = true ∧ knownT m.1 = true := by
  unfold msgRight at h
  simp only [Bool.and_eq_true] at h
  exact ⟨h.1.1, h.1.2⟩
theorem kind_five {kind : Int} : (asksK kind = true ∧ 5 ≤ kind) ↔ (kind = 5 ∨ kind = 6) := by
  unfold asksK; simp only [decide_eq_true_eq]; omega
theorem rf37_in {l : List Item} {kind : Int} (hm : l.map (·.1) = mustK kind) (hr : itemsOK 0 l = true) : rightF 37 (getM 37 l).1 = true ∧ rightF 11 (getM 11 l).1 = true := by
  unfold mustK at hm
  split at hm
  · obtain ⟨a, b, c, d, e, rfl⟩ := items5 hm
    simp only [itemsOK, Bool.and_eq_true] at hr
    simp [getM]
    exact ⟨hr.2.2.2.1.2, hr.2.2.1.2⟩
  split at hm
  · obtain ⟨a, b, c, d, rfl⟩ := items4 hm
    simp only [itemsOK, Bool.and_eq_true] at hr
    simp [getM]
    exact ⟨hr.2.2.2.1.2, hr.2.2.1.2⟩
  · obtain ⟨a, b, c, rfl⟩ := items3 hm
    simp only [itemsOK, Bool.and_eq_true] at hr
    simp [getM]
    exact ⟨hr.2.1.2, hr.1.2⟩
theorem origin_of (stan : Int) (s : Txt) (h : stanT stan = s) : originT stan = [48, 49, 48, 48] ++ s ++ zeros := by unfold originT; rw [h]
theorem G40_is (k : Nat) (hk : 2000 < k) (typ : Txt) (l : List Item) (hl : l.length ≤ 1000) (hx : ∀ x ∈ l, x.2.1.length ≤ 1200) :
    G40 k ((typ, l, ()), ()) = some ((readD (typ, l, ())).1, (readD (typ, l, ())).2, ()) := by
  rw [G40_eq]
  (try simp only [])
  rw [G44_is k (by omega) typ l (by omega) (by omega) (fun x h => ⟨by have := hx x h; rw [maxLen_eq]; omega, by have := hx x h; omega⟩), ocall_some]
  unfold readD
  (try simp only [])
  by_cases hr : msgRight (typ, l, ()) = true
  case neg => rw [if_neg hr]; rw [show msgRight (typ, l, ()) = false by simpa using hr]; rfl
  rw [if_pos hr, hr]
  obtain ⟨r1, r2⟩ := items_right hr
  (try simp only [] at r1 r2)
  simp only [Bool.not_true, sel_false]
  have hg : ∀ n, G115 k ((typ, l, ()), n, ()) = some ((getM n l).1, (getM n l).2, ()) := fun n => G115_is k n typ l (by omega) (by omega)
  have hn : ∀ n, G114 k ((typ, l, ()), n, ()) = some (numM n l, ()) := fun n => G114_is k (by omega) n typ l (by omega) (by omega)
  have hd : deM (typ, l, ()) = (kindT typ, (getM 2 l).1, numM 4 l, IntKind.u32.wrap (numM 11 l), (getM 37 l).1, (getM 39 l).1, ()) := rfl
  have l2 := getM_len 2 1200 l hx
  have l37 := getM_len 37 1200 l hx
  have hi := G109_is k (by omega) (kindT typ) (getM 2 l).1 (numM 4 l) (IntKind.u32.wrap (numM 11 l)) (getM 37 l).1 (getM 39 l).1 (numM_good 4 l) (wrap32_good _)
  have hf := G116_is k (by omega) typ l (kindT typ) (getM 2 l).1 (numM 4 l) (IntKind.u32.wrap (numM 11 l)) (getM 37 l).1 (getM 39 l).1 (numM_good 4 l) (wrap32_good _)
  have hq := G107_is k (getM 2 l).1 (by omega) (by omega)
  have h37 := G117_is k (by omega) 37 (getM 37 l).1 (by rw [maxLen_eq]; omega) (by omega)
  simp only [G113_is k (by omega), hn, hg, ocall_some, hf, G42_is, hq, hi, h37]
  unfold fitsM
  rw [items_must]
  (try simp only [])
  by_cases cm : l.map (·.1) = mustK (kindT typ)
  case neg =>
    rw [if_neg cm, decide_eq_false (fun e => cm e.symm)]; rfl
  rw [if_pos cm, decide_eq_true cm.symm]
  obtain ⟨q37, q11⟩ := rf37_in cm r1
  obtain ⟨s0, s1, s2, s3⟩ := stan_back q11
  rw [q37, hd]
  simp only [Bool.not_true, sel_false]
  by_cases ca : asksK (kindT typ) = true
  case neg =>
    have ca' : asksK (kindT typ) = false := by simpa using ca
    rw [ca']
    rw [if_neg (fun e => by cases e.1), if_neg (fun e => ca (kind_five.2 e.1).1)]
    simp only [sel_false]
    by_cases c5 : 5 ≤ kindT typ
    · rw [sel_pos c5]
    · rw [sel_neg c5]
  rw [ca]
  simp only [sel_true, true_and]
  by_cases cf : isFine (getM 2 l).1 = true
  case neg =>
    have cf' : isFine (getM 2 l).1 = false := by simpa using cf
    rw [cf', if_pos rfl]; rfl
  rw [cf, if_neg (by simp)]
  simp only [Bool.not_true, sel_false]
  by_cases c5 : 5 ≤ kindT typ
  case neg =>
    rw [sel_neg c5, if_neg (fun e => c5 (kind_five.2 e.1).2)]
  rw [sel_pos c5]
  have e5 : itemsK (kindT typ, (getM 2 l).1, numM 4 l, IntKind.u32.wrap (numM 11 l), (getM 37 l).1, (getM 39 l).1, ()) = [(2, (getM 2 l).1, ()), (4, amtT (numM 4 l), ()), (11, stanT (IntKind.u32.wrap (numM 11 l)), ()), (37, (getM 37 l).1, ()), (90, originT (IntKind.u32.wrap (numM 11 l)), ())] := by
    unfold itemsK; (try simp only []); rw [if_pos ca, if_pos c5]; rfl
  rw [e5, sel_pos (by simp only [List.length_cons, List.length_nil]; decide), sel_pos (by simp only [List.length_cons, List.length_nil]; decide)]
  have eg : ∀ (a b c d e : Item), (([a, b, c, d, e] : List Item).getD (Int.toNat 4) (OfNat.ofNat 0, [], ())) = e := fun _ _ _ _ _ => rfl
  simp only [eg]
  have e6 : originT (IntKind.u32.wrap (numM 11 l)) = [48, 49, 48, 48] ++ (getM 11 l).1 ++ zeros := origin_of _ _ s2
  rw [e6]
  by_cases co : (getM 90 l).1 = [48, 49, 48, 48] ++ (getM 11 l).1 ++ zeros
  · rw [if_neg (fun e => e.2 co)]
    rw [co]
    rw [sel_not, sel_pos rfl]
  · rw [if_pos ⟨kind_five.1 ⟨ca, c5⟩, co⟩, sel_not, sel_neg co]
    rfl
end Go.Proofs.YtjgnpmdbkgeakaaDoor.G
end
section
set_option linter.unusedVariables false
set_option linter.unusedSimpArgs false
set_option maxRecDepth 100000
namespace Go.Proofs.YtjgnpmdbkgeakaaDoor.G
open Go Go.Proofs.YtjgnpmdbkgeakaaDoor Th
def upd (q : Txt × Int × Int × Txt × Txt × Unit) (x : Item) : Txt × Int × Int × Txt × Txt × Unit :=
  if x.1 = 2 then (x.2.1, q.2) else if x.1 = 4 then (q.1, (((getOK x.2.1).1 : Nat) : Int), q.2.2) else if x.1 = 11 then (q.1, q.2.1, IntKind.u32.wrap (((getOK x.2.1).1 : Nat) : Int), q.2.2.2)
  else if x.1 = 37 then (q.1, q.2.1, q.2.2.1, x.2.1, q.2.2.2.2) else if x.1 = 39 then (q.1, q.2.1, q.2.2.1, q.2.2.2.1, x.2.1, ()) else q
theorem kindT_known {s : Txt} (h : knownT s = true) : 1 ≤ kindT s ∧ kindT s ≤ 7 ∧ typeK (kindT s) = s := by
  unfold knownT KT at h
  simp only [List.contains_cons, List.contains_nil, Bool.or_false, Bool.or_eq_true, beq_iff_eq] at h
  rcases h with rfl | rfl | rfl | rfl | rfl | rfl | rfl <;> decide
theorem G37_is (k L : Nat) (hL : L ≤ 1000000) (hk : L + 100 < k) (d : Deal) (hl : lens L d) (hg : goodD d) : G37 k (d, ()) = some (if dealOK d = true then ((typeK d.1, itemsK d, ()), 0, ()) else (([], [], ()), 1, ())) := by
  have hR := G33_is k L hL hk d hl hg
  obtain ⟨kind, pan, amt, stan, rrn, code, ⟨⟩⟩ := d
  obtain ⟨ha, hs⟩ := hg
  (try simp only [] at ha hs)
  rw [G37_eq]
  (try simp only [])
  rw [hR, ocall_some, G108_is, ocall_some, G109_is k (by omega) kind pan amt stan rrn code ha hs, ocall_some]
  cases dealOK (kind, pan, amt, stan, rrn, code, ()) <;> rfl
set_option synthInstance.maxSize 2000 in
set_option synthInstance.maxHeartbeats 200000 in
instance decD : DecidableEq Deal := fun a b => inferInstanceAs (Decidable ((a : Int × Txt × Int × Int × Txt × Txt × Unit) = b))
end Go.Proofs.YtjgnpmdbkgeakaaDoor.G
end
section
set_option linter.unusedVariables false
set_option linter.unusedSimpArgs false
set_option maxRecDepth 100000
namespace Go.Proofs.YtjgnpmdbkgeakaaDoor.G
open Go Go.Proofs.YtjgnpmdbkgeakaaDoor Th
theorem kindT_type {kind : Int} (h1 : 1 ≤ kind) (h7 : kind ≤ 7) : kindT (typeK kind) = kind := by
  have : kind = 1 ∨ kind = 2 ∨ kind = 3 ∨ kind = 4 ∨ kind = 5 ∨ kind = 6 ∨ kind = 7 := by omega
  rcases this with rfl | rfl | rfl | rfl | rfl | rfl | rfl <;> decide
theorem getOK_stan {stan : Int} (h0 : 0 ≤ stan) (h : stan ≤ 999999) : IntKind.u32.wrap (((getOK (stanT stan)).1 : Nat) : Int) = stan := by
  rw [stanT_of h0 h, get_digs 6 stan.toNat (by omega) (by omega) (by show stan.toNat < 1000000; omega)]
  (try simp only [])
  rw [wrapu32 (by omega) (by omega)]
  omega
theorem getOK_amt {amt : Int} (h0 : 0 ≤ amt) (h : amt < 1000000000000) : (((getOK (amtT amt)).1 : Nat) : Int) = amt := by
  rw [amtT_of h0 h, get_digs 12 amt.toNat (by omega) (by omega) (by show amt.toNat < 1000000000000; omega)]
  (try simp only [])
  omega
theorem ok_parts {d : Deal} (h : dealOK d = true) : 1 ≤ d.1 ∧ d.1 ≤ 7 ∧ d.2.2.2.1 ≤ 999999 ∧ rightF 37 d.2.2.2.2.1 = true ∧
    ((asksK d.1 = true ∧ isFine d.2.1 = true ∧ d.2.1.length < 20 ∧ d.2.2.1 < 1000000000000 ∧ d.2.2.2.2.2.1 = []) ∨ (asksK d.1 = false ∧ rightF 39 d.2.2.2.2.2.1 = true ∧ d.2.1 = [] ∧ d.2.2.1 = 0)) := by
  unfold dealOK at h
  simp only [Bool.and_eq_true, decide_eq_true_eq] at h
  obtain ⟨⟨⟨⟨h1, h2⟩, h3⟩, h4⟩, h5⟩ := h
  refine ⟨h1, h2, h3, h4, ?_⟩
  cases ca : asksK d.1 with
  | true =>
    rw [ca, if_pos rfl] at h5
    simp only [Bool.and_eq_true, decide_eq_true_eq] at h5
    exact .inl ⟨rfl, h5.1.1.1, h5.1.1.2, h5.1.2, h5.2⟩
  | false =>
    rw [ca, if_neg (by simp)] at h5
    simp only [Bool.and_eq_true, decide_eq_true_eq] at h5
    exact .inr ⟨rfl, h5.1.1, h5.1.2, h5.2⟩
theorem ok_right {d : Deal} (hg : goodD d) (h : dealOK d = true) : msgRight (typeK d.1, itemsK d, ()) = true := by
  obtain ⟨kind, pan, amt, stan, rrn, code, ⟨⟩⟩ := d
  have e := right_eq kind pan amt stan rrn code hg.1.1 hg.2.1
  rw [h] at e
  split at e
  · simp only [Bool.and_eq_true] at e; exact e.2
  · simp only [Bool.and_eq_true] at e; exact e.2
theorem read_write_deal {d : Deal} (hg : goodD d) (h : dealOK d = true) : readD (typeK d.1, itemsK d, ()) = (d, 0) := by
  have hm := ok_right hg h
  obtain ⟨h1, h7, h3, h4, h5⟩ := ok_parts h
  unfold readD
  rw [if_pos hm]
  unfold deM
  simp only [kindT_type h1 h7]
  rw [if_pos (items_must d)]
  obtain ⟨kind, pan, amt, stan, rrn, code, ⟨⟩⟩ := d
  obtain ⟨⟨ha0, ha⟩, hs0, hs⟩ := hg
  (try simp only [] at *)
  rcases h5 with ⟨ca, cf, cl, cm, rfl⟩ | ⟨ca, cc, rfl, rfl⟩
  · by_cases c56 : kind = 5 ∨ kind = 6
    · have e5 : itemsK (kind, pan, amt, stan, rrn, [], ()) = [(2, pan, ()), (4, amtT amt, ()), (11, stanT stan, ()), (37, rrn, ()), (90, originT stan, ())] := by
        unfold itemsK; (try simp only []); rw [if_pos ca, if_pos (by omega)]; rfl
      have g2 : (getM 2 [((2 : Int), pan, ()), (4, amtT amt, ()), (11, stanT stan, ()), (37, rrn, ()), (90, originT stan, ())]).1 = pan := by simp [getM]
      have g4 : numM 4 [((2 : Int), pan, ()), (4, amtT amt, ()), (11, stanT stan, ()), (37, rrn, ()), (90, originT stan, ())] = amt := by simp [numM, getM, getOK_amt ha0 cm]
      have g11 : (getM 11 [((2 : Int), pan, ()), (4, amtT amt, ()), (11, stanT stan, ()), (37, rrn, ()), (90, originT stan, ())]).1 = stanT stan := by simp [getM]
      have g11' : IntKind.u32.wrap (numM 11 [((2 : Int), pan, ()), (4, amtT amt, ()), (11, stanT stan, ()), (37, rrn, ()), (90, originT stan, ())]) = stan := by simp [numM, getM, getOK_stan hs0 h3]
      have g37 : (getM 37 [((2 : Int), pan, ()), (4, amtT amt, ()), (11, stanT stan, ()), (37, rrn, ()), (90, originT stan, ())]).1 = rrn := by simp [getM]
      have g39 : (getM 39 [((2 : Int), pan, ()), (4, amtT amt, ()), (11, stanT stan, ()), (37, rrn, ()), (90, originT stan, ())]).1 = [] := by simp [getM]
      have g90 : (getM 90 [((2 : Int), pan, ()), (4, amtT amt, ()), (11, stanT stan, ()), (37, rrn, ()), (90, originT stan, ())]).1 = originT stan := by simp [getM]
      rw [e5, g2, g4, g11, g11', g37, g39, g90, cf, if_neg (by simp), if_neg (fun e => e.2 rfl)]
    · have e4 : itemsK (kind, pan, amt, stan, rrn, [], ()) = [(2, pan, ()), (4, amtT amt, ()), (11, stanT stan, ()), (37, rrn, ())] := by
        unfold itemsK; (try simp only []); rw [if_pos ca, if_neg (fun e => c56 (kind_five.1 ⟨ca, e⟩))]; rfl
      have g2 : (getM 2 [((2 : Int), pan, ()), (4, amtT amt, ()), (11, stanT stan, ()), (37, rrn, ())]).1 = pan := by simp [getM]
      have g4 : numM 4 [((2 : Int), pan, ()), (4, amtT amt, ()), (11, stanT stan, ()), (37, rrn, ())] = amt := by simp [numM, getM, getOK_amt ha0 cm]
      have g11' : IntKind.u32.wrap (numM 11 [((2 : Int), pan, ()), (4, amtT amt, ()), (11, stanT stan, ()), (37, rrn, ())]) = stan := by simp [numM, getM, getOK_stan hs0 h3]
      have g37 : (getM 37 [((2 : Int), pan, ()), (4, amtT amt, ()), (11, stanT stan, ()), (37, rrn, ())]).1 = rrn := by simp [getM]
      have g39 : (getM 39 [((2 : Int), pan, ()), (4, amtT amt, ()), (11, stanT stan, ()), (37, rrn, ())]).1 = [] := by simp [getM]
      rw [e4, g2, g4, g11', g37, g39, cf, if_neg (by simp), if_neg (fun e => c56 e.1)]
  · have e3 : itemsK (kind, [], 0, stan, rrn, code, ()) = [(11, stanT stan, ()), (37, rrn, ()), (39, code, ())] := by
      unfold itemsK; (try simp only []); rw [if_neg (by rw [ca]; simp)]
    have g2 : (getM 2 [((11 : Int), stanT stan, ()), (37, rrn, ()), (39, code, ())]).1 = [] := by simp [getM]
    have g4 : numM 4 [((11 : Int), stanT stan, ()), (37, rrn, ()), (39, code, ())] = 0 := by simp [numM, getM, getOK]
    have g11' : IntKind.u32.wrap (numM 11 [((11 : Int), stanT stan, ()), (37, rrn, ()), (39, code, ())]) = stan := by simp [numM, getM, getOK_stan hs0 h3]
    have g37 : (getM 37 [((11 : Int), stanT stan, ()), (37, rrn, ()), (39, code, ())]).1 = rrn := by simp [getM]
    have g39 : (getM 39 [((11 : Int), stanT stan, ()), (37, rrn, ()), (39, code, ())]).1 = code := by simp [getM]
    rw [e3, g2, g4, g11', g37, g39, if_neg (fun e => by rw [ca] at e; cases e.1), if_neg (fun e => by rw [(kind_five.2 e.1).1] at ca; cases ca)]
theorem readD_ok {m : Msg} (h : (readD m).2 = 0) : msgRight m = true ∧ m.2.1.map (·.1) = mustK (kindT m.1) ∧ (asksK (kindT m.1) = true → isFine (getM 2 m.2.1).1 = true) ∧
    ((kindT m.1 = 5 ∨ kindT m.1 = 6) → (getM 90 m.2.1).1 = [48, 49, 48, 48] ++ (getM 11 m.2.1).1 ++ zeros) ∧ (readD m).1 = deM m := by
  unfold readD at *
  split at h
  · rename_i h1; rw [if_pos h1]
    split at h
    · rename_i h2; rw [if_pos h2]
      split at h
      · exact absurd h (by decide)
      · rename_i h3; rw [if_neg h3]
        split at h
        · exact absurd h (by decide)
        · rename_i h4; rw [if_neg h4]
          refine ⟨h1, h2, fun e => ?_, fun e => ?_, rfl⟩
          · cases hf : isFine (getM 2 m.2.1).1 with
            | true => rfl
            | false => exact absurd ⟨e, hf⟩ h3
          · exact Decidable.byContradiction fun hc => h4 ⟨e, hc⟩
    · exact absurd h (by decide)
  · exact absurd h (by decide)
theorem good_deM (m : Msg) : goodD (deM m) := ⟨numM_good _ _, wrap32_good _⟩
theorem write_read_deal {m : Msg} (h : (readD m).2 = 0) : (typeK (deM m).1, itemsK (deM m), ()) = m ∧ dealOK (deM m) = true := by
  obtain ⟨h1, h2, h3, h4, _⟩ := readD_ok h
  obtain ⟨typ, l, ⟨⟩⟩ := m
  obtain ⟨r1, r2⟩ := items_right h1
  (try simp only [] at r1 r2 h2 h3 h4)
  obtain ⟨k1, k7, kt⟩ := kindT_known r2
  have hit : itemsK (deM (typ, l, ())) = l ∧ (if asksK (kindT typ) = true then (getM 39 l).1 = [] else ((getM 2 l).1 = [] ∧ numM 4 l = 0)) := by
    unfold deM
    (try simp only [])
    have hm := h2
    unfold mustK at hm
    by_cases c56 : kindT typ = 5 ∨ kindT typ = 6
    · rw [if_pos c56] at hm
      have ca := (kind_five.2 c56).1
      have h9 := h4 c56
      obtain ⟨a, b, c, d, e, rfl⟩ := items5 hm
      simp only [itemsOK, Bool.and_eq_true] at r1
      obtain ⟨_, ab⟩ := amt_back r1.2.1.2
      obtain ⟨_, _, sb, _⟩ := stan_back r1.2.2.1.2
      have g2 : (getM 2 [((2 : Int), a, ()), (4, b, ()), (11, c, ()), (37, d, ()), (90, e, ())]).1 = a := by simp [getM]
      have g4 : numM 4 [((2 : Int), a, ()), (4, b, ()), (11, c, ()), (37, d, ()), (90, e, ())] = (((getOK b).1 : Nat) : Int) := by simp [numM, getM]
      have g11 : (getM 11 [((2 : Int), a, ()), (4, b, ()), (11, c, ()), (37, d, ()), (90, e, ())]).1 = c := by simp [getM]
      have g11' : numM 11 [((2 : Int), a, ()), (4, b, ()), (11, c, ()), (37, d, ()), (90, e, ())] = (((getOK c).1 : Nat) : Int) := by simp [numM, getM]
      have g37 : (getM 37 [((2 : Int), a, ()), (4, b, ()), (11, c, ()), (37, d, ()), (90, e, ())]).1 = d := by simp [getM]
      have g39 : (getM 39 [((2 : Int), a, ()), (4, b, ()), (11, c, ()), (37, d, ()), (90, e, ())]).1 = [] := by simp [getM]
      have g90 : (getM 90 [((2 : Int), a, ()), (4, b, ()), (11, c, ()), (37, d, ()), (90, e, ())]).1 = e := by simp [getM]
      rw [g11, g90] at h9
      rw [g2, g4, g11', g37, g39, if_pos ca]
      refine ⟨?_, rfl⟩
      unfold itemsK
      (try simp only [])
      rw [if_pos ca, if_pos (by omega), ab, sb, origin_of _ _ sb, h9]
      rfl
    rw [if_neg c56] at hm
    by_cases ca : asksK (kindT typ) = true
    · rw [if_pos ca] at hm
      obtain ⟨a, b, c, d, rfl⟩ := items4 hm
      simp only [itemsOK, Bool.and_eq_true] at r1
      obtain ⟨_, ab⟩ := amt_back r1.2.1.2
      obtain ⟨_, _, sb, _⟩ := stan_back r1.2.2.1.2
      have g2 : (getM 2 [((2 : Int), a, ()), (4, b, ()), (11, c, ()), (37, d, ())]).1 = a := by simp [getM]
      have g4 : numM 4 [((2 : Int), a, ()), (4, b, ()), (11, c, ()), (37, d, ())] = (((getOK b).1 : Nat) : Int) := by simp [numM, getM]
      have g11' : numM 11 [((2 : Int), a, ()), (4, b, ()), (11, c, ()), (37, d, ())] = (((getOK c).1 : Nat) : Int) := by simp [numM, getM]
      have g37 : (getM 37 [((2 : Int), a, ()), (4, b, ()), (11, c, ()), (37, d, ())]).1 = d := by simp [getM]
      have g39 : (getM 39 [((2 : Int), a, ()), (4, b, ()), (11, c, ()), (37, d, ())]).1 = [] := by simp [getM]
      rw [g2, g4, g11', g37, g39, if_pos ca]
      refine ⟨?_, rfl⟩
      unfold itemsK
      (try simp only [])
      rw [if_pos ca, if_neg (fun e => c56 (kind_five.1 ⟨ca, e⟩)), ab, sb]
      rfl
    · rw [if_neg ca] at hm
      obtain ⟨a, b, c, rfl⟩ := items3 hm
      simp only [itemsOK, Bool.and_eq_true] at r1
      obtain ⟨_, _, sb, _⟩ := stan_back r1.1.2
      have g2 : (getM 2 [((11 : Int), a, ()), (37, b, ()), (39, c, ())]).1 = [] := by simp [getM]
      have g4 : numM 4 [((11 : Int), a, ()), (37, b, ()), (39, c, ())] = 0 := by simp [numM, getM, getOK]
      have g11' : numM 11 [((11 : Int), a, ()), (37, b, ()), (39, c, ())] = (((getOK a).1 : Nat) : Int) := by simp [numM, getM]
      have g37 : (getM 37 [((11 : Int), a, ()), (37, b, ()), (39, c, ())]).1 = b := by simp [getM]
      have g39 : (getM 39 [((11 : Int), a, ()), (37, b, ()), (39, c, ())]).1 = c := by simp [getM]
      rw [g2, g4, g11', g37, g39, if_neg ca]
      refine ⟨?_, rfl, rfl⟩
      unfold itemsK
      (try simp only [])
      rw [if_neg ca, sb]
  obtain ⟨hi, hz⟩ := hit
  have hmsg : (typeK (deM (typ, l, ())).1, itemsK (deM (typ, l, ())), ()) = (typ, l, ()) := by
    rw [hi]; show (typeK (kindT typ), l, ()) = _; rw [kt]
  refine ⟨hmsg, ?_⟩
  have hr := right_eq (kindT typ) (getM 2 l).1 (numM 4 l) (IntKind.u32.wrap (numM 11 l)) (getM 37 l).1 (getM 39 l).1 (numM_good 4 l).1 (wrap32_good _).1
  have hd : deM (typ, l, ()) = (kindT typ, (getM 2 l).1, numM 4 l, IntKind.u32.wrap (numM 11 l), (getM 37 l).1, (getM 39 l).1, ()) := rfl
  rw [hd] at hmsg ⊢
  rw [← hr]
  have hm2 : (typeK (kindT typ), itemsK (kindT typ, (getM 2 l).1, numM 4 l, IntKind.u32.wrap (numM 11 l), (getM 37 l).1, (getM 39 l).1, ()), ()) = (typ, l, ()) := hmsg
  rw [hm2, h1]
  by_cases ca : asksK (kindT typ) = true
  · rw [if_pos ca] at hz ⊢
    rw [hz, h3 ca]; rfl
  · rw [if_neg ca] at hz ⊢
    rw [hz.1, hz.2]; rfl
end Go.Proofs.YtjgnpmdbkgeakaaDoor.G
end
section
set_option linter.unusedVariables false
set_option linter.unusedSimpArgs false
set_option maxRecDepth 100000
namespace Go.Proofs.YtjgnpmdbkgeakaaDoor.G
open Go Go.Proofs.YtjgnpmdbkgeakaaDoor Th Bits
abbrev BM := Int × Int × Unit
def goodB (m : BM) : Prop := (0 ≤ m.1 ∧ m.1 < 18446744073709551616) ∧ 0 ≤ m.2.1 ∧ m.2.1 < 18446744073709551616
def bitB (m : BM) (n : Nat) : Bool := if n ≤ 64 then m.1.toNat.testBit (64 - n) else m.2.1.toNat.testBit (128 - n)
def rightB (m : BM) : Bool := !bitB m 65 && (bitB m 1 == !decide (m.2.1 = 0))
def fieldB (n : Int) : Bool := decide (2 ≤ n) && decide (n ≤ 128) && !decide (n = 65)
def hasB (m : BM) (n : Int) : Bool := fieldB n && bitB m n.toNat
def setB (m : BM) (n : Nat) : BM := if n ≤ 64 then (((m.1.toNat ||| 2 ^ (64 - n) : Nat) : Int), m.2.1, ()) else (((m.1.toNat ||| 2 ^ 63 : Nat) : Int), ((m.2.1.toNat ||| 2 ^ (128 - n) : Nat) : Int), ())
def putB (m : BM) (n : Int) : BM × Int := if rightB m = true ∧ fieldB n = true then (setB m n.toNat, 0) else (m, 1)
theorem fieldB_iff {n : Int} : fieldB n = true ↔ 2 ≤ n ∧ n ≤ 128 ∧ n ≠ 65 := by unfold fieldB; simp [and_assoc]
theorem G213_is (k : Nat) (n hi lo : Int) (h1 : 1 ≤ n) (h2 : n ≤ 128) : G213 k (n, hi, lo, ()) =
    if n ≤ 64 then some (.inl (((2 ^ (64 - n.toNat) : Nat) : Int), hi, lo, ())) else some (.inr (((2 ^ (128 - n.toNat) : Nat) : Int), hi, lo, ())) := by
  obtain ⟨m, rfl⟩ : ∃ m : Nat, n = m := ⟨n.toNat, by omega⟩
  rw [G213_eq]
  by_cases c : (m : Int) ≤ 64
  · rw [sel_pos c, if_pos c, wrap64 (by omega) (by omega), sel_pos (by omega), show ((m : Int) - 1).toNat = m - 1 by omega, top_shift (by omega) (by omega), Int.toNat_natCast]
  · rw [sel_neg c, if_neg c, wrap64 (n := (m : Int) - 64) (by omega) (by omega), wrap64 (by omega) (by omega), sel_pos (by omega), show ((m : Int) - 64 - 1).toNat = (m - 64) - 1 by omega, top_shift (by omega) (by omega), Int.toNat_natCast,
      show 64 - (m - 64) = 128 - m by omega]
theorem nat_of {x : Int} (h : 0 ≤ x ∧ x < 18446744073709551616) : ∃ n : Nat, x = n ∧ n < 18446744073709551616 := ⟨x.toNat, by omega, by omega⟩
theorem G214_is (k : Nat) (m : BM) (hg : goodB m) (n : Int) (h1 : 1 ≤ n) (h2 : n ≤ 128) : G214 k (m, n, ()) = some (bitB m n.toNat, ()) := by
  obtain ⟨hi, lo, ⟨⟩⟩ := m
  obtain ⟨hi, rfl, hh⟩ := nat_of hg.1
  obtain ⟨lo, rfl, hl⟩ := nat_of hg.2
  rw [G214_eq, G213_is k n _ _ h1 h2]
  unfold bitB
  have key : ∀ (w e : Nat), w < 18446744073709551616 → e < 64 → (!decide (bits .and .u64 (w : Int) ((2 ^ e : Nat) : Int) = 0)) = w.testBit e := by
    intro w e hw he
    rw [b_and hw (pow_lt he)]
    cases ht : w.testBit e with
    | false => rw [and_pow.2 ht]; rfl
    | true =>
      have : ¬ ((w &&& 2 ^ e : Nat) : Int) = 0 := fun h => by
        have h' : (w &&& 2 ^ e) = 0 := by omega
        rw [and_pow.1 h'] at ht; cases ht
      rw [decide_eq_false this]; rfl
  by_cases c : n ≤ 64
  · rw [if_pos c, if_pos (by omega), ocall_some, esel_inl]
    simp only [Int.toNat_natCast]
    rw [key hi _ hh (by omega)]
  · rw [if_neg c, if_neg (by omega), ocall_some, esel_inr]
    simp only [Int.toNat_natCast]
    rw [key lo _ hl (by omega)]
theorem G190_is (k : Nat) (m : BM) (hg : goodB m) : G190 k (m, ()) = some (rightB m, ()) := by
  have h65 := G214_is k m hg 65 (by omega) (by omega)
  have h1 := G214_is k m hg 1 (by omega) (by omega)
  obtain ⟨hi, lo, ⟨⟩⟩ := m
  rw [G190_eq, h65, ocall_some, h1]
  unfold rightB
  show sel (!bitB (hi, lo, ()) 65) _ _ = _
  cases bitB (hi, lo, ()) 65 <;> rfl
theorem G212_is (k : Nat) (n : Int) : G212 k (n, ()) = some (fieldB n, ()) := by
  rw [G212_eq]
  unfold fieldB
  by_cases c1 : 1 < n
  · rw [sel_pos c1, decide_eq_true (show 2 ≤ n by omega)]
    by_cases c2 : n ≤ 128
    · rw [sel_pos c2, decide_eq_true c2]; rfl
    · rw [sel_neg c2, decide_eq_false c2]; rfl
  · rw [sel_neg c1, decide_eq_false (show ¬ 2 ≤ n by omega)]; rfl
theorem G216_is (k : Nat) (m : BM) (hg : goodB m) (n : Int) : G216 k (m, n, ()) = some (hasB m n, ()) := by
  obtain ⟨hi, lo, ⟨⟩⟩ := m
  rw [G216_eq, G212_is, ocall_some]
  unfold hasB
  cases hf : fieldB n with
  | false => rfl
  | true =>
    have := fieldB_iff.1 hf
    rw [G214_is k _ hg n (by omega) (by omega)]; rfl
theorem setB_good {m : BM} (hg : goodB m) {n : Nat} (h1 : 1 ≤ n) (h2 : n ≤ 128) : goodB (setB m n) := by
  obtain ⟨hi, lo, ⟨⟩⟩ := m
  obtain ⟨hi, rfl, hh⟩ := nat_of hg.1
  obtain ⟨lo, rfl, hl⟩ := nat_of hg.2
  unfold setB
  by_cases c : n ≤ 64
  · rw [if_pos c]
    have := or_lt (k := 64 - n) hh (by omega)
    refine ⟨⟨by (try simp only []); omega, ?_⟩, ⟨by (try simp only []); omega, by (try simp only []); omega⟩⟩
    simp only [Int.toNat_natCast]; omega
  · rw [if_neg c]
    have h3 := or_lt (k := 63) hh (by omega)
    have h4 := or_lt (k := 128 - n) hl (by omega)
    refine ⟨⟨by (try simp only []); omega, ?_⟩, ⟨by (try simp only []); omega, ?_⟩⟩
    · simp only [Int.toNat_natCast]; omega
    · simp only [Int.toNat_natCast]; omega
theorem setB_bit {m : BM} {n : Nat} (h1 : 1 ≤ n) (h2 : n ≤ 128) {j : Nat} (j1 : 1 ≤ j) (j2 : j ≤ 128) : bitB (setB m n) j = (bitB m j || decide (j = n) || decide (64 < n ∧ j = 1)) := by
  obtain ⟨hi, lo, ⟨⟩⟩ := m
  unfold setB bitB
  by_cases c : n ≤ 64
  · rw [if_pos c, decide_eq_false (show ¬ (64 < n ∧ j = 1) by omega), Bool.or_false]
    by_cases d : j ≤ 64
    · rw [if_pos d, if_pos d]
      simp only [Int.toNat_natCast]
      rw [or_test, show decide (64 - n = 64 - j) = decide (j = n) from decide_eq_decide.2 (by omega)]
    · rw [if_neg d, if_neg d, decide_eq_false (show ¬ j = n by omega), Bool.or_false]
  · rw [if_neg c]
    by_cases d : j ≤ 64
    · rw [if_pos d, if_pos d]
      simp only [Int.toNat_natCast]
      rw [or_test, decide_eq_false (show ¬ j = n by omega), Bool.or_false, show decide (63 = 64 - j) = decide (64 < n ∧ j = 1) from decide_eq_decide.2 (by omega)]
    · rw [if_neg d, if_neg d, decide_eq_false (show ¬ (64 < n ∧ j = 1) by omega), Bool.or_false]
      simp only [Int.toNat_natCast]
      rw [or_test, show decide (128 - n = 128 - j) = decide (j = n) from decide_eq_decide.2 (by omega)]
theorem or_ne (w k : Nat) : (w ||| 2 ^ k) ≠ 0 := fun h => by
  have := or_test w k k
  rw [h, Nat.zero_testBit, decide_eq_true rfl, Bool.or_true] at this
  cases this
theorem rightB_iff {m : BM} : rightB m = true ↔ bitB m 65 = false ∧ (bitB m 1 = true ↔ m.2.1 ≠ 0) := by
  unfold rightB
  cases bitB m 65 <;> cases bitB m 1 <;> by_cases c : m.2.1 = 0 <;> simp [c]
theorem setB_right {m : BM} (hr : rightB m = true) {n : Nat} (h1 : 2 ≤ n) (h2 : n ≤ 128) (h3 : n ≠ 65) : rightB (setB m n) = true := by
  obtain ⟨r1, r2⟩ := rightB_iff.1 hr
  refine rightB_iff.2 ⟨?_, ?_⟩
  · rw [setB_bit (by omega) h2 (by omega) (by omega), r1, decide_eq_false (fun e => h3 e.symm), decide_eq_false (by omega)]; rfl
  · rw [setB_bit (by omega) h2 (by omega) (by omega)]
    unfold setB
    by_cases c : n ≤ 64
    · rw [if_pos c, decide_eq_false (show ¬ 1 = n by omega), decide_eq_false (by omega), Bool.or_false, Bool.or_false]; exact r2
    · rw [if_neg c, decide_eq_true (show 64 < n ∧ 1 = 1 by omega), Bool.or_true]
      refine ⟨fun _ => ?_, fun _ => rfl⟩
      have := or_ne m.2.1.toNat (128 - n)
      (try simp only []); omega
theorem G189_is (k : Nat) (m : BM) (hg : goodB m) (n : Int) : G189 k (m, n, ()) = some ((putB m n).1, (putB m n).2, ()) := by
  have hR := G190_is k m hg
  obtain ⟨hi, lo, ⟨⟩⟩ := m
  rw [G189_eq, hR, ocall_some]
  unfold putB
  cases hr : rightB (hi, lo, ()) with
  | false => rw [if_neg (by simp)]; rfl
  | true =>
  simp only [Bool.not_true, sel_false]
  rw [G212_is, ocall_some]
  cases hf : fieldB n with
  | false => rw [if_neg (by simp)]; rfl
  | true =>
  rw [if_pos (by simp)]
  simp only [Bool.not_true, sel_false]
  obtain ⟨f1, f2, f3⟩ := fieldB_iff.1 hf
  obtain ⟨n, rfl⟩ : ∃ m : Nat, n = m := ⟨n.toNat, by omega⟩
  obtain ⟨hi, rfl, hh⟩ := nat_of hg.1
  obtain ⟨lo, rfl, hl⟩ := nat_of hg.2
  obtain ⟨r1, r2⟩ := rightB_iff.1 hr
  rw [G213_is k n _ _ (by omega) f2]
  unfold setB
  simp only [Int.toNat_natCast]
  by_cases c : (n : Int) ≤ 64
  · rw [if_pos c, if_pos (by omega), ocall_some, esel_inl]
    (try simp only [])
    rw [b_or hh (pow_lt (by omega))]
    by_cases hz : (lo : Int) = 0
    · rw [sel_not, sel_pos hz]
    · rw [sel_not, sel_neg hz]
      have hb : hi.testBit 63 = true := by have := r2.2 hz; simpa [bitB] using this
      have h2 := or_lt (k := 64 - n) hh (by omega)
      have e63 : (9223372036854775808 : Int) = ((2 ^ 63 : Nat) : Int) := by rfl
      rw [e63, b_or h2 (pow_lt (by omega)), or_self (by rw [or_test, hb]; rfl)]
  · rw [if_neg c, if_neg (by omega), ocall_some, esel_inr]
    (try simp only [])
    rw [b_or hl (pow_lt (by omega))]
    have := or_ne lo (128 - n)
    rw [sel_not, sel_neg (by omega)]
    have e63 : (9223372036854775808 : Int) = ((2 ^ 63 : Nat) : Int) := by rfl
    rw [e63, b_or hh (pow_lt (by omega))]
def fieldsFrom (m : BM) : Nat → Nat → List Int
  | _, 0 => []
  | n, j + 1 => (if hasB m n = true then [(n : Int)] else []) ++ fieldsFrom m (n + 1) j
def fieldsB (m : BM) : List Int := fieldsFrom m 2 127
theorem fieldsFrom_len (m : BM) : ∀ (j n : Nat), (fieldsFrom m n j).length ≤ j := by
  intro j
  induction j with
  | zero => intro n; simp [fieldsFrom]
  | succ j ih => intro n; have := ih (n + 1); unfold fieldsFrom; rw [List.length_append]; split <;> simp <;> omega
theorem fieldsFrom_mem (m : BM) : ∀ (j n : Nat) (x : Int), x ∈ fieldsFrom m n j ↔ ((n : Int) ≤ x ∧ x < n + j ∧ hasB m x = true) := by
  intro j
  induction j with
  | zero => intro n x; simp only [fieldsFrom, List.not_mem_nil, false_iff]; omega
  | succ j ih =>
    intro n x
    unfold fieldsFrom
    rw [List.mem_append, ih]
    by_cases c : hasB m n = true
    · rw [if_pos c, List.mem_singleton]
      constructor
      · rintro (rfl | ⟨a, b, d⟩)
        · exact ⟨by omega, by omega, c⟩
        · exact ⟨by omega, by omega, d⟩
      · rintro ⟨a, b, d⟩
        by_cases e : x = n
        · exact .inl e
        · exact .inr ⟨by omega, by omega, d⟩
    · rw [if_neg c]
      constructor
      · rintro (h | ⟨a, b, d⟩)
        · cases h
        · exact ⟨by omega, by omega, d⟩
      · rintro ⟨a, b, d⟩
        refine .inr ⟨?_, by omega, d⟩
        by_cases e : x = n
        · subst e; exact absurd d c
        · omega
theorem fieldsB_mem (m : BM) (x : Int) : x ∈ fieldsB m ↔ hasB m x = true := by
  unfold fieldsB
  rw [fieldsFrom_mem]
  constructor
  · exact fun h => h.2.2
  · intro h
    refine ⟨?_, ?_, h⟩ <;>
    · unfold hasB at h
      simp only [Bool.and_eq_true] at h
      have := fieldB_iff.1 h.1
      omega
theorem fieldsFrom_sorted (m : BM) : ∀ (j n : Nat), (fieldsFrom m n j).Pairwise (· < ·) := by
  intro j
  induction j with
  | zero => intro n; simp [fieldsFrom]
  | succ j ih =>
    intro n
    unfold fieldsFrom
    rw [List.pairwise_append]
    refine ⟨by split <;> simp, ih _, fun a ha b hb => ?_⟩
    have := (fieldsFrom_mem m j (n + 1) b).1 hb
    split at ha
    · simp only [List.mem_singleton] at ha; omega
    · cases ha
theorem G194_g0_is (k : Nat) (m : BM) (hg : goodB m) : ∀ (j n : Nat), n + (j + 1) = 129 → 2 ≤ n → ∀ (acc : List Int) (c : Nat), acc.length ≤ n → j + 1 ≤ c →
    G194_g0 k c (acc, (n : Int), m.1, m.2.1, ()) = some (acc ++ fieldsFrom m n (j + 1), ()) := by
  obtain ⟨hi, lo, ⟨⟩⟩ := m
  intro j
  induction j with
  | zero =>
    intro n hn h2 acc c ha hc
    obtain ⟨c, rfl⟩ : ∃ d, c = d + 1 := ⟨c - 1, by omega⟩
    rw [G194_g0_eq, G216_is k _ hg, ocall_some]
    unfold fieldsFrom fieldsFrom
    cases hasB (hi, lo, ()) n with
    | false => rw [sel_false, wrap64 (by omega) (by omega), sel_neg (by omega)]; simp
    | true => rw [sel_true, sel_pos (by omega), wrap64 (by omega) (by omega), sel_neg (by omega)]; simp
  | succ j ih =>
    intro n hn h2 acc c ha hc
    obtain ⟨c, rfl⟩ : ∃ d, c = d + 1 := ⟨c - 1, by omega⟩
    rw [G194_g0_eq, G216_is k _ hg, ocall_some]
    rw [show fieldsFrom (hi, lo, ()) n (j + 1 + 1) = (if hasB (hi, lo, ()) n = true then [(n : Int)] else []) ++ fieldsFrom (hi, lo, ()) (n + 1) (j + 1) from rfl]
    have e : (n : Int) + 1 = ((n + 1 : Nat) : Int) := by omega
    cases hasB (hi, lo, ()) n with
    | false =>
      rw [sel_false, wrap64 (by omega) (by omega), sel_pos (by omega), e, ih (n + 1) (by omega) (by omega) acc c (by omega) (by omega)]; simp
    | true =>
      rw [sel_true, sel_pos (by omega), wrap64 (by omega) (by omega), sel_pos (by omega), e, ih (n + 1) (by omega) (by omega) (acc ++ [(n : Int)]) c (by simp; omega) (by omega)]; simp
theorem G194_is (k : Nat) (hk : 200 < k) (m : BM) (hg : goodB m) : G194 k (m, ()) = some (fieldsB m, ()) := by
  have hl := fun acc h => G194_g0_is k m hg 125 3 (by omega) (by omega) acc k h (by omega)
  have hh := G216_is k m hg 2
  obtain ⟨hi, lo, ⟨⟩⟩ := m
  rw [G194_eq, hh, ocall_some]
  unfold fieldsB
  rw [show fieldsFrom (hi, lo, ()) 2 127 = (if hasB (hi, lo, ()) (2 : Nat) = true then [((2 : Nat) : Int)] else []) ++ fieldsFrom (hi, lo, ()) 3 126 from rfl]
  have e : IntKind.i64.wrap (2 + 1) = ((3 : Nat) : Int) := by rfl
  have e2 : hasB (hi, lo, ()) ((2 : Nat) : Int) = hasB (hi, lo, ()) 2 := rfl
  rw [e2, e]
  cases hasB (hi, lo, ()) 2 with
  | false => simp only [sel_false]; rw [hl [] (by simp), ocall_some]; simp
  | true => simp only [sel_true]; rw [hl [2] (by simp), ocall_some]; simp
def ofB : BM → List Int → BM × Int
  | m, [] => (m, 0)
  | m, n :: l => if (putB m n).2 = 0 then ofB (putB m n).1 l else ((0, 0, ()), (putB m n).2)
theorem putB_good {m : BM} (hg : goodB m) (n : Int) : goodB (putB m n).1 := by
  unfold putB
  split
  · rename_i h
    obtain ⟨f1, f2, f3⟩ := fieldB_iff.1 h.2
    exact setB_good hg (by omega) (by omega)
  · exact hg
theorem putB_err (m : BM) (n : Int) : (putB m n).2 = 0 ∨ (putB m n).2 = 1 := by unfold putB; split <;> simp
theorem G140_3_is (k : Nat) (l : List Int) (hl : l.length ≤ 1000000000) : ∀ (j i : Nat), i + j = l.length → ∀ (m : BM), goodB m → ∀ n, j < n →
    G140_3 k n (l, (l.length : Int), (i : Int), 0, 0, m.1, m.2.1, ()) = some (if (ofB m (l.drop i)).2 = 0 then .inl (0, 0, (ofB m (l.drop i)).1.1, (ofB m (l.drop i)).1.2.1, ()) else .inr ((ofB m (l.drop i)).2, 0, 0, ())) := by
  intro j
  induction j with
  | zero =>
    intro i hij m hg n hn
    obtain ⟨n, rfl⟩ : ∃ m, n = m + 1 := ⟨n - 1, by omega⟩
    rw [G140_3_eq, sel_neg (by omega), List.drop_eq_nil_of_le (by omega)]
    rfl
  | succ j ih =>
    intro i hij m hg n hn
    obtain ⟨n, rfl⟩ : ∃ m, n = m + 1 := ⟨n - 1, by omega⟩
    have hlt : i < l.length := by omega
    rw [G140_3_eq, sel_pos (by omega), sel_pos (by omega), sel_pos (by simp only [ofNat_len]; omega), Int.toNat_natCast, getD_of hlt]
    have hp := G189_is k m hg l[i]
    have hg2 := putB_good hg l[i]
    obtain ⟨hi, lo, ⟨⟩⟩ := m
    rw [hp, ocall_some]
    rcases putB_err (hi, lo, ()) l[i] with h | h
    · have hof : ofB (hi, lo, ()) (l.drop i) = ofB (putB (hi, lo, ()) l[i]).1 (l.drop (i + 1)) := by
        rw [List.drop_eq_getElem_cons hlt]
        exact if_pos h
      rw [hof, sel_not, sel_pos h, wrap64 (by omega) (by omega)]
      have := ih (i + 1) (by omega) (putB (hi, lo, ()) l[i]).1 hg2 n (by omega)
      rw [Int.natCast_add, Int.natCast_one] at this
      exact this
    · have hof : ofB (hi, lo, ()) (l.drop i) = ((0, 0, ()), (putB (hi, lo, ()) l[i]).2) := by
        rw [List.drop_eq_getElem_cons hlt]
        exact if_neg (by omega)
      have hn0 : ¬ (putB (hi, lo, ()) l[i]).2 = 0 := by omega
      rw [hof, sel_not, sel_neg hn0, if_neg hn0]
theorem ofB_err : ∀ (l : List Int) (m : BM), (ofB m l).2 ≠ 0 → (ofB m l).1 = (0, 0, ()) := by
  intro l
  induction l with
  | nil => intro m h; exact absurd rfl h
  | cons n l ih =>
    intro m h
    unfold ofB at h ⊢
    split
    · rename_i c; rw [if_pos c] at h; exact ih _ h
    · rfl
theorem G140_is (k : Nat) (l : List Int) (hl : l.length ≤ 1000000000) (hk : l.length < k) : G140 k (l, ()) = some ((ofB (0, 0, ()) l).1, (ofB (0, 0, ()) l).2, ()) := by
  have h := G140_3_is k l hl l.length 0 (by omega) (0, 0, ()) ⟨⟨by decide, by decide⟩, by decide, by decide⟩ k hk
  rw [List.drop_zero, Int.natCast_zero] at h
  rw [G140_eq]
  simp only [ofNat_len]
  rw [h, ocall_some]
  have hz := ofB_err l (0, 0, ())
  by_cases c : (ofB (0, 0, ()) l).2 = 0
  · rw [if_pos c, esel_inl, c]
  · rw [if_neg c, esel_inr, hz c]
theorem fdiv_shift (w e : Nat) : IntKind.u8.wrap ((w : Int).fdiv ((2 : Int) ^ e)) = ((w / 2 ^ e % 256 : Nat) : Int) := by
  have e2 : (2 : Int) ^ e = ((2 ^ e : Nat) : Int) := by rw [Int.natCast_pow]; rfl
  rw [e2, ← Int.ofNat_fdiv]
  unfold IntKind.wrap
  simp only [IntKind.bits, IntKind.signed]
  simp
theorem G191_2_step (k c : Nat) (b : List Int) (w i : Nat) (hi : i < 8) (hb : b.length ≤ 1000) : G191_2 k (c + 1) (b, (w : Int), (i : Int), ()) = G191_2 k c (b ++ [((w / 2 ^ (56 - 8 * i) % 256 : Nat) : Int)], (w : Int), ((i + 1 : Nat) : Int), ()) := by
  rw [G191_2_eq, sel_pos (by omega), wrap64 (n := (i : Int) + 1) (by omega) (by omega), wrap64 (n := 8 * ((i : Int) + 1)) (by omega) (by omega), wrap64 (by omega) (by omega), sel_pos (by omega), sel_pos (by omega),
    show (64 - 8 * ((i : Int) + 1)).toNat = 56 - 8 * i by omega, Nat.min_eq_left (by omega), fdiv_shift]
  rfl
theorem G191_is (k : Nat) (hk : 20 < k) (b : List Int) (hb : b.length ≤ 900) (w : Nat) : G191 k (b, (w : Int), ()) = some (b ++ be8 w, ()) := by
  obtain ⟨c, rfl⟩ : ∃ c, k = c + 9 := ⟨k - 9, by omega⟩
  rw [G191_eq]
  have s0 := G191_2_step (c + 9) (c + 8) b w 0 (by omega) (by omega)
  rw [Int.natCast_zero] at s0
  rw [s0, G191_2_step (c + 9) (c + 7) _ w 1 (by omega) (by simp; omega), G191_2_step (c + 9) (c + 6) _ w 2 (by omega) (by simp; omega), G191_2_step (c + 9) (c + 5) _ w 3 (by omega) (by simp; omega),
    G191_2_step (c + 9) (c + 4) _ w 4 (by omega) (by simp; omega), G191_2_step (c + 9) (c + 3) _ w 5 (by omega) (by simp; omega), G191_2_step (c + 9) (c + 2) _ w 6 (by omega) (by simp; omega),
    G191_2_step (c + 9) (c + 1) _ w 7 (by omega) (by simp; omega), G191_2_eq, sel_neg (by omega), ocall_some]
  simp [be8, List.append_assoc]
def bytesB (m : BM) : List Int := if m.2.1 = 0 then be8 m.1.toNat else be8 m.1.toNat ++ be8 m.2.1.toNat
theorem G141_is (k : Nat) (hk : 20 < k) (m : BM) (hg : goodB m) : G141 k (m, ()) = some (if rightB m = true then (bytesB m, 0, ()) else ([], 1, ())) := by
  have hR := G190_is k m hg
  obtain ⟨hi, lo, ⟨⟩⟩ := m
  rw [G141_eq, hR, ocall_some]
  cases rightB (hi, lo, ()) with
  | false => rw [if_neg (by simp)]; rfl
  | true =>
  rw [if_pos rfl]
  obtain ⟨hi, rfl, hh⟩ := nat_of hg.1
  obtain ⟨lo, rfl, hl⟩ := nat_of hg.2
  simp only [Bool.not_true, sel_false]
  rw [G191_is k hk [] (by simp) hi, ocall_some]
  unfold bytesB
  simp only [Int.toNat_natCast, List.nil_append]
  by_cases hz : (lo : Int) = 0
  · rw [sel_not, sel_pos hz, if_pos hz]
  · rw [sel_not, sel_neg hz, if_neg hz, G191_is k hk _ (by simp [be8]) lo, ocall_some]
theorem take_lt (l : List Int) (hb : ∀ c ∈ l, byteOK c) : ∀ i : Nat, i ≤ l.length → (l.take i).foldl (fun a c => 256 * a + c.toNat) 0 < 256 ^ i := by
  intro i
  induction i with
  | zero => intro _; simp
  | succ i ih =>
    intro hi
    have := ih (by omega)
    rw [List.take_succ_eq_append_getElem (by omega), List.foldl_append]
    have hc := hb l[i] (List.getElem_mem _)
    simp only [List.foldl_cons, List.foldl_nil]
    unfold byteOK at hc
    rw [Nat.pow_succ]
    omega
theorem G215_3_is (k : Nat) (l : List Int) (hl : l.length = 8) (hb : ∀ c ∈ l, byteOK c) : ∀ (j i : Nat), i + j = 8 → ∀ n, j < n →
    G215_3 k n ((((l.take i).foldl (fun a c => 256 * a + c.toNat) 0 : Nat) : Int), l, 8, (i : Int), ()) = some (((num8 l : Nat) : Int), ()) := by
  intro j
  induction j with
  | zero =>
    intro i hij n hn
    obtain ⟨n, rfl⟩ : ∃ m, n = m + 1 := ⟨n - 1, by omega⟩
    rw [G215_3_eq, sel_neg (by omega), List.take_of_length_le (by omega)]
    rfl
  | succ j ih =>
    intro i hij n hn
    obtain ⟨n, rfl⟩ : ∃ m, n = m + 1 := ⟨n - 1, by omega⟩
    have hlt : i < l.length := by omega
    have ht := take_lt l hb i (by omega)
    have hp : 256 ^ i ≤ 256 ^ 7 := Nat.pow_le_pow_right (by omega) (by omega)
    have hc := hb l[i] (List.getElem_mem _)
    unfold byteOK at hc
    rw [G215_3_eq, sel_pos (by omega), sel_pos (by omega), sel_pos (by simp only [ofNat_len]; omega), Int.toNat_natCast, getD_of hlt, wrap64 (by omega) (by omega)]
    have e8 : (2 : Int) ^ min (Int.toNat 8) 64 = 256 := by rfl
    obtain ⟨c, hce⟩ := Int.eq_ofNat_of_zero_le hc.1
    have h7 : (256 : Nat) ^ 7 = 72057594037927936 := by rfl
    rw [e8, hce, shl_or (by omega) (by omega)]
    have := ih (i + 1) (by omega) n (by omega)
    rw [List.take_succ_eq_append_getElem (by omega), List.foldl_append] at this
    simp only [List.foldl_cons, List.foldl_nil, hce, Int.toNat_natCast, Int.natCast_add, Int.natCast_one, Int.natCast_mul] at this ⊢
    exact this
theorem G215_is (k : Nat) (hk : 20 < k) (l : List Int) (hl : 8 ≤ l.length) (hb : ∀ c ∈ l, byteOK c) : G215 k (l, ()) = some (((num8 (l.take 8) : Nat) : Int), ()) := by
  have h := G215_3_is k (l.take 8) (by rw [List.length_take]; omega) (fun c hc => hb c (List.mem_of_mem_take hc)) 8 0 (by omega) k (by omega)
  rw [G215_eq, sel_pos (by simp only [ofNat_len]; omega), sel_pos (by simp)]
  have e : List.drop (Int.ofNat 0).toNat (List.take (Int.toNat 8) l) = l.take 8 := rfl
  have e2 : (l.take 8).length = 8 := by rw [List.length_take]; omega
  rw [e, e2]
  simp only [List.take_zero, List.foldl_nil, Int.natCast_zero] at h
  have e3 : Int.ofNat 8 = 8 := rfl
  rw [e3, h, ocall_some]
def readB (b : List Int) : BM × Int × Int :=
  if b.length < 8 then ((0, 0, ()), 0, 2)
  else if (num8 (b.take 8)).testBit 63 = true then
    if b.length < 16 then ((0, 0, ()), 0, 2)
    else if rightB (((num8 (b.take 8) : Nat) : Int), ((num8 ((b.drop 8).take 8) : Nat) : Int), ()) = true then ((((num8 (b.take 8) : Nat) : Int), ((num8 ((b.drop 8).take 8) : Nat) : Int), ()), 16, 0) else ((0, 0, ()), 0, 3)
  else if rightB (((num8 (b.take 8) : Nat) : Int), 0, ()) = true then ((((num8 (b.take 8) : Nat) : Int), 0, ()), 8, 0) else ((0, 0, ()), 0, 3)
theorem num8_good {l : List Int} (h : 8 ≤ l.length) (hb : ∀ c ∈ l, byteOK c) : num8 (l.take 8) < 18446744073709551616 := num8_lt (by rw [List.length_take]; omega) fun c hc => hb c (List.mem_of_mem_take hc)
theorem G193_is (k : Nat) (hk : 20 < k) (b : List Int) (hb : ∀ c ∈ b, byteOK c) : G193 k (b, ()) = some ((readB b).1, (readB b).2.1, (readB b).2.2, ()) := by
  rw [G193_eq]
  unfold readB
  by_cases c8 : b.length < 8
  · rw [sel_pos (by simp only [ofNat_len]; omega), if_pos c8]
  rw [sel_neg (by simp only [ofNat_len]; omega), if_neg c8, G215_is k hk b (by omega) hb, ocall_some]
  have n1 := num8_good (l := b) (by omega) hb
  have g0 : goodB (((num8 (b.take 8) : Nat) : Int), 0, ()) := ⟨⟨by (try simp only []); omega, by (try simp only []); omega⟩, Int.le_refl 0, by show (0 : Int) < _; decide⟩
  rw [G214_is k _ g0 1 (by omega) (by omega), ocall_some]
  have e1 : bitB (((num8 (b.take 8) : Nat) : Int), 0, ()) (Int.toNat 1) = (num8 (b.take 8)).testBit 63 := by simp [bitB]
  rw [e1]
  cases ht : (num8 (b.take 8)).testBit 63 with
  | false =>
    rw [if_neg (by simp), sel_false, G190_is k _ g0, ocall_some]
    cases rightB (((num8 (b.take 8) : Nat) : Int), 0, ()) with
    | false => rw [if_neg (by simp)]; rfl
    | true => rw [if_pos rfl]; rfl
  | true =>
    rw [if_pos rfl, sel_true]
    by_cases c16 : b.length < 16
    · rw [sel_pos (by simp only [ofNat_len]; omega), if_pos c16]
    rw [sel_neg (by simp only [ofNat_len]; omega), if_neg c16, sel_pos (by simp only [ofNat_len]; omega), sel_pos (by simp), sel_pos (by simp)]
    have e : List.drop (Int.toNat 8) (List.take (Int.ofNat b.length).toNat b) = b.drop 8 := by
      rw [show (Int.ofNat b.length).toNat = b.length from rfl, List.take_of_length_le (Nat.le_refl _)]; rfl
    have hb2 : ∀ c ∈ b.drop 8, byteOK c := fun c hc => hb c (List.mem_of_mem_drop hc)
    have hl2 : 8 ≤ (b.drop 8).length := by rw [List.length_drop]; omega
    have n2 := num8_good hl2 hb2
    have g1 : goodB (((num8 (b.take 8) : Nat) : Int), ((num8 ((b.drop 8).take 8) : Nat) : Int), ()) := ⟨⟨by (try simp only []); omega, by (try simp only []); omega⟩, by (try simp only []); omega, by (try simp only []); omega⟩
    rw [e, G215_is k hk _ hl2 hb2, ocall_some]
    (try simp only [])
    rw [G190_is k _ g1, ocall_some]
    cases rightB (((num8 (b.take 8) : Nat) : Int), ((num8 ((b.drop 8).take 8) : Nat) : Int), ()) with
    | false => rw [if_neg (by simp)]; rfl
    | true => rw [if_pos rfl]; rfl
end Go.Proofs.YtjgnpmdbkgeakaaDoor.G
end
section
set_option linter.unusedVariables false
set_option linter.unusedSimpArgs false
set_option maxRecDepth 100000
namespace Go.Proofs.YtjgnpmdbkgeakaaDoor.G
open Go Go.Proofs.YtjgnpmdbkgeakaaDoor Th Bits
theorem sorted_ext : ∀ (a b : List Int), a.Pairwise (· < ·) → b.Pairwise (· < ·) → (∀ x, x ∈ a ↔ x ∈ b) → a = b := by
  intro a
  induction a with
  | nil =>
    intro b _ _ h
    cases b with
    | nil => rfl
    | cons y b => exact absurd ((h y).2 (List.mem_cons_self ..)) (by simp)
  | cons x a ih =>
    intro b ha hb h
    cases b with
    | nil => exact absurd ((h x).1 (List.mem_cons_self ..)) (by simp)
    | cons y b =>
      rw [List.pairwise_cons] at ha hb
      have hxy : x = y := by
        have h1 := (h x).1 (List.mem_cons_self ..)
        have h2 := (h y).2 (List.mem_cons_self ..)
        rcases List.mem_cons.1 h1 with e | e
        · exact e
        · rcases List.mem_cons.1 h2 with e2 | e2
          · exact e2.symm
          · have := hb.1 x e; have := ha.1 y e2; omega
      subst hxy
      rw [ih b ha.2 hb.2 fun z => ?_]
      constructor
      · intro hz
        have hlt := ha.1 z hz
        rcases List.mem_cons.1 ((h z).1 (List.mem_cons_of_mem _ hz)) with e | e
        · omega
        · exact e
      · intro hz
        have hlt := hb.1 z hz
        rcases List.mem_cons.1 ((h z).2 (List.mem_cons_of_mem _ hz)) with e | e
        · omega
        · exact e
theorem nat_ext {x y : Nat} (hx : x < 18446744073709551616) (hy : y < 18446744073709551616) (h : ∀ i, i < 64 → x.testBit i = y.testBit i) : x = y := by
  apply Nat.eq_of_testBit_eq
  intro i
  by_cases c : i < 64
  · exact h i c
  · rw [high_zero hx (by omega), high_zero hy (by omega)]
theorem bit_ext {a b : BM} (ga : goodB a) (gb : goodB b) (h : ∀ n : Nat, 1 ≤ n → n ≤ 128 → bitB a n = bitB b n) : a = b := by
  obtain ⟨ha, la, ⟨⟩⟩ := a
  obtain ⟨hb, lb, ⟨⟩⟩ := b
  obtain ⟨ha, rfl, ha'⟩ := nat_of ga.1
  obtain ⟨la, rfl, la'⟩ := nat_of ga.2
  obtain ⟨hb, rfl, hb'⟩ := nat_of gb.1
  obtain ⟨lb, rfl, lb'⟩ := nat_of gb.2
  have e1 : ha = hb := nat_ext ha' hb' fun i hi => by
    have := h (64 - i) (by omega) (by omega)
    unfold bitB at this
    rw [if_pos (by omega), if_pos (by omega)] at this
    simpa [show 64 - (64 - i) = i by omega] using this
  have e2 : la = lb := nat_ext la' lb' fun i hi => by
    have := h (128 - i) (by omega) (by omega)
    unfold bitB at this
    rw [if_neg (by omega), if_neg (by omega)] at this
    simpa [show 128 - (128 - i) = i by omega] using this
  rw [e1, e2]
theorem low_bits {m : BM} (gm : goodB m) : m.2.1 ≠ 0 ↔ ∃ n : Nat, 65 ≤ n ∧ n ≤ 128 ∧ bitB m n = true := by
  obtain ⟨hi, lo, ⟨⟩⟩ := m
  obtain ⟨lo, rfl, hl⟩ := nat_of gm.2
  constructor
  · intro hz
    have hz' : ¬ lo = 0 := fun e => hz (by rw [e]; rfl)
    apply Classical.byContradiction
    intro hn
    apply hz'
    apply nat_ext hl (by decide)
    intro i hi
    cases ht : lo.testBit i with
    | false => rw [Nat.zero_testBit]
    | true =>
      exfalso
      refine hn ⟨128 - i, by omega, by omega, ?_⟩
      unfold bitB
      rw [if_neg (by omega)]
      simpa [show 128 - (128 - i) = i by omega] using ht
  · rintro ⟨n, h1, h2, h3⟩ hz
    have hz' : lo = 0 := by
      have : (lo : Int) = 0 := hz
      omega
    subst hz'
    unfold bitB at h3
    rw [if_neg (by omega)] at h3
    simp at h3
theorem field_nat {n : Nat} (h1 : 2 ≤ n) (h2 : n ≤ 128) (h3 : n ≠ 65) : fieldB (n : Int) = true := fieldB_iff.2 ⟨by omega, by omega, by omega⟩
theorem has_nat {m : BM} {n : Nat} (h1 : 2 ≤ n) (h2 : n ≤ 128) (h3 : n ≠ 65) : hasB m (n : Int) = bitB m n := by
  unfold hasB
  rw [field_nat h1 h2 h3, Bool.true_and, Int.toNat_natCast]
theorem right_ext {a b : BM} (ga : goodB a) (gb : goodB b) (ra : rightB a = true) (rb : rightB b = true) (h : ∀ x, hasB a x = hasB b x) : a = b := by
  obtain ⟨a1, a2⟩ := rightB_iff.1 ra
  obtain ⟨b1, b2⟩ := rightB_iff.1 rb
  have hbit : ∀ n : Nat, 2 ≤ n → n ≤ 128 → bitB a n = bitB b n := by
    intro n h1 h2
    by_cases c : n = 65
    · subst c; rw [a1, b1]
    · rw [← has_nat h1 h2 c, ← has_nat h1 h2 c, h]
  refine bit_ext ga gb fun n h1 h2 => ?_
  by_cases c : n = 1
  · subst c
    have key : a.2.1 ≠ 0 ↔ b.2.1 ≠ 0 := by
      rw [low_bits ga, low_bits gb]
      exact ⟨fun ⟨n, h1, h2, h3⟩ => ⟨n, h1, h2, by rw [← hbit n (by omega) h2]; exact h3⟩, fun ⟨n, h1, h2, h3⟩ => ⟨n, h1, h2, by rw [hbit n (by omega) h2]; exact h3⟩⟩
    have : bitB a 1 = true ↔ bitB b 1 = true := by rw [a2, b2]; exact key
    cases ha : bitB a 1 <;> cases hb : bitB b 1 <;> simp [ha, hb] at this ⊢
  · exact hbit n (by omega) h2
theorem hasB_set {m : BM} {n : Nat} (h1 : 2 ≤ n) (h2 : n ≤ 128) (h3 : n ≠ 65) (x : Int) : hasB (setB m n) x = (hasB m x || decide (x = n)) := by
  by_cases hf : fieldB x = true
  · obtain ⟨f1, f2, f3⟩ := fieldB_iff.1 hf
    obtain ⟨x, rfl⟩ : ∃ y : Nat, x = y := ⟨x.toNat, by omega⟩
    rw [has_nat (by omega) (by omega) (by omega), has_nat (by omega) (by omega) (by omega), setB_bit (by omega) h2 (by omega) (by omega), decide_eq_false (show ¬ (64 < n ∧ x = 1) by omega), Bool.or_false]
    congr 1
    exact decide_eq_decide.2 (by omega)
  · have hx : ¬ x = n := fun e => hf (by rw [e]; exact field_nat h1 h2 h3)
    unfold hasB
    rw [Bool.eq_false_iff.2 hf, decide_eq_false hx]; rfl
theorem ofB_ok : ∀ (l : List Int) (m : BM), goodB m → rightB m = true → (∀ x ∈ l, fieldB x = true) → (ofB m l).2 = 0 ∧ goodB (ofB m l).1 ∧ rightB (ofB m l).1 = true ∧ ∀ x, hasB (ofB m l).1 x = (hasB m x || decide (x ∈ l)) := by
  intro l
  induction l with
  | nil => intro m gm rm _; exact ⟨rfl, gm, rm, fun x => by simp [ofB]⟩
  | cons n l ih =>
    intro m gm rm hf
    have hn := hf n (List.mem_cons_self ..)
    obtain ⟨f1, f2, f3⟩ := fieldB_iff.1 hn
    obtain ⟨n, rfl⟩ : ∃ m : Nat, n = m := ⟨n.toNat, by omega⟩
    have hp : putB m (n : Int) = (setB m n, 0) := by unfold putB; rw [if_pos ⟨rm, hn⟩]; rfl
    have ho : ofB m ((n : Int) :: l) = ofB (setB m n) l := by
      show (if (putB m (n : Int)).2 = 0 then ofB (putB m (n : Int)).1 l else _) = _
      rw [hp]; rfl
    rw [ho]
    obtain ⟨h1, h2, h3, h4⟩ := ih (setB m n) (setB_good gm (by omega) (by omega)) (setB_right rm (by omega) (by omega) (by omega)) fun x hx => hf x (List.mem_cons_of_mem _ hx)
    refine ⟨h1, h2, h3, fun x => ?_⟩
    rw [h4, hasB_set (by omega) (by omega) (by omega), Bool.or_assoc]
    congr 1
    by_cases c : x = n
    · simp [c]
    · simp [c]
def zeroB : BM := (0, 0, ())
theorem zeroB_good : goodB zeroB := ⟨⟨by decide, by decide⟩, by decide, by decide⟩
theorem zeroB_right : rightB zeroB = true := by rfl
theorem zeroB_has (x : Int) : hasB zeroB x = false := by
  unfold hasB
  have : bitB zeroB x.toNat = false := by unfold bitB zeroB; split <;> simp
  rw [this, Bool.and_false]
theorem hasB_field {m : BM} {x : Int} (h : hasB m x = true) : fieldB x = true := by unfold hasB at h; simp only [Bool.and_eq_true] at h; exact h.1
theorem of_fields {m : BM} (gm : goodB m) (rm : rightB m = true) : ofB zeroB (fieldsB m) = (m, 0) := by
  obtain ⟨h1, h2, h3, h4⟩ := ofB_ok (fieldsB m) zeroB zeroB_good zeroB_right fun x hx => hasB_field ((fieldsB_mem m x).1 hx)
  have : (ofB zeroB (fieldsB m)).1 = m := by
    refine right_ext h2 gm h3 rm fun x => ?_
    rw [h4, zeroB_has, Bool.false_or]
    cases hx : hasB m x with
    | true => exact decide_eq_true ((fieldsB_mem m x).2 hx)
    | false => exact decide_eq_false fun h => by rw [(fieldsB_mem m x).1 h] at hx; cases hx
  exact Prod.ext this h1
theorem fields_of {l : List Int} (hs : l.Pairwise (· < ·)) (hf : ∀ x ∈ l, fieldB x = true) : fieldsB (ofB zeroB l).1 = l := by
  obtain ⟨h1, h2, h3, h4⟩ := ofB_ok l zeroB zeroB_good zeroB_right hf
  refine sorted_ext _ _ (fieldsFrom_sorted _ _ _) hs fun x => ?_
  rw [fieldsB_mem, h4, zeroB_has, Bool.false_or, decide_eq_true_eq]
theorem bytesB_len (m : BM) : (bytesB m).length = if m.2.1 = 0 then 8 else 16 := by unfold bytesB; split <;> simp [be8]
theorem bytesB_bytes (m : BM) : ∀ c ∈ bytesB m, byteOK c := by
  unfold bytesB
  split
  · exact be8_bytes _
  · intro c hc
    rcases List.mem_append.1 hc with h | h
    · exact be8_bytes _ c h
    · exact be8_bytes _ c h
theorem bit_one (hi lo : Nat) : bitB ((hi : Int), (lo : Int), ()) 1 = hi.testBit 63 := by simp [bitB]
theorem take8 (w : Nat) (t : List Int) : (be8 w ++ t).take 8 = be8 w := rfl
theorem read_bytes {m : BM} (gm : goodB m) (rm : rightB m = true) (t : List Int) : readB (bytesB m ++ t) = (m, ((bytesB m).length : Int), 0) := by
  obtain ⟨r1, r2⟩ := rightB_iff.1 rm
  obtain ⟨hi, lo, ⟨⟩⟩ := m
  obtain ⟨hi, rfl, hh⟩ := nat_of gm.1
  obtain ⟨lo, rfl, hl⟩ := nat_of gm.2
  rw [bit_one] at r2
  have r2 : hi.testBit 63 = true ↔ ¬ (lo : Int) = 0 := r2
  have hlen := bytesB_len ((hi : Int), (lo : Int), ())
  unfold readB
  by_cases hz : (lo : Int) = 0
  · have hb : bytesB ((hi : Int), (lo : Int), ()) = be8 hi := if_pos hz
    have ht : (be8 hi ++ t).take 8 = be8 hi := take8 _ _
    have h63 : ¬ hi.testBit 63 = true := fun h => r2.1 h hz
    rw [hb, ht, num8_be8 hh, if_neg (by rw [List.length_append, be8_len]; omega), if_neg h63]
    have e0 : lo = 0 := by omega
    subst e0
    have rm' : rightB ((hi : Int), 0, ()) = true := rm
    rw [if_pos rm']; rfl
  · have hb : bytesB ((hi : Int), (lo : Int), ()) = be8 hi ++ be8 lo := if_neg hz
    have ht : ((be8 hi ++ be8 lo) ++ t).take 8 = be8 hi := by rw [List.append_assoc, take8]
    have hd : (((be8 hi ++ be8 lo) ++ t).drop 8).take 8 = be8 lo := by
      rw [List.append_assoc, show (be8 hi ++ (be8 lo ++ t)).drop 8 = be8 lo ++ t from rfl, take8]
    rw [hb, ht, hd, num8_be8 hh, num8_be8 hl, if_neg (by simp only [List.length_append, be8_len]; omega), if_pos (r2.2 hz), if_neg (by simp only [List.length_append, be8_len]; omega), if_pos rm]
    rfl
theorem bytes_read {b : List Int} (hb : ∀ c ∈ b, byteOK c) (h : (readB b).2.2 = 0) : ∃ n : Nat, (readB b).2.1 = n ∧ n ≤ b.length ∧ 8 ≤ n ∧ goodB (readB b).1 ∧ rightB (readB b).1 = true ∧ bytesB (readB b).1 = b.take n := by
  unfold readB at h ⊢
  by_cases c8 : b.length < 8
  · rw [if_pos c8] at h; exact absurd h (by decide)
  rw [if_neg c8] at h ⊢
  have n1 := num8_good (l := b) (by omega) hb
  have hbt : ∀ c ∈ b.take 8, byteOK c := fun c hc => hb c (List.mem_of_mem_take hc)
  have hl1 : (b.take 8).length = 8 := by rw [List.length_take]; omega
  by_cases ht : (num8 (b.take 8)).testBit 63 = true
  · rw [if_pos ht] at h ⊢
    by_cases c16 : b.length < 16
    · rw [if_pos c16] at h; exact absurd h (by decide)
    rw [if_neg c16] at h ⊢
    by_cases hr : rightB (((num8 (b.take 8) : Nat) : Int), ((num8 ((b.drop 8).take 8) : Nat) : Int), ()) = true
    · rw [if_pos hr]
      have hb2 : ∀ c ∈ b.drop 8, byteOK c := fun c hc => hb c (List.mem_of_mem_drop hc)
      have hl2 : 8 ≤ (b.drop 8).length := by rw [List.length_drop]; omega
      have n2 := num8_good hl2 hb2
      refine ⟨16, rfl, by omega, by omega, ⟨⟨by (try simp only []); omega, by (try simp only []); omega⟩, by (try simp only []); omega, by (try simp only []); omega⟩, hr, ?_⟩
      have hz := (rightB_iff.1 hr).2.1 (by rw [bit_one]; exact ht)
      unfold bytesB
      rw [if_neg hz]
      simp only [Int.toNat_natCast]
      rw [be8_num8 hl1 hbt, be8_num8 (by rw [List.length_take]; omega) (fun c hc => hb2 c (List.mem_of_mem_take hc)), ← List.take_add]
    · rw [if_neg hr] at h; exact absurd h (by decide)
  · rw [if_neg ht] at h ⊢
    by_cases hr : rightB (((num8 (b.take 8) : Nat) : Int), 0, ()) = true
    · rw [if_pos hr]
      refine ⟨8, rfl, by omega, by omega, ⟨⟨by (try simp only []); omega, by (try simp only []); omega⟩, Int.le_refl 0, by show (0 : Int) < _; decide⟩, hr, ?_⟩
      unfold bytesB
      rw [if_pos rfl]
      simp only [Int.toNat_natCast]
      exact be8_num8 hl1 hbt
    · rw [if_neg hr] at h; exact absurd h (by decide)
end Go.Proofs.YtjgnpmdbkgeakaaDoor.G
end
section
set_option linter.unusedVariables false
set_option linter.unusedSimpArgs false
set_option maxRecDepth 100000
namespace Go.Proofs.YtjgnpmdbkgeakaaDoor.G
open Go Go.Proofs.YtjgnpmdbkgeakaaDoor Th Bits
def fieldW (x : Item) : List UInt8 := match defOf x.1 with
  | some d => writeF d x.2.1
  | none => []
def tailM : List Item → List UInt8
  | [] => []
  | x :: l => fieldW x ++ tailM l
def bmM (l : List Item) : BM := (ofB zeroB (l.map (·.1))).1
def writeM (m : Msg) : List Int := toBytes m.1 ++ (bytesB (bmM m.2.1) ++ toBytes (tailM m.2.1))
theorem right_def {n : Int} {s : Txt} (h : rightF n s = true) : ∃ d, defOf n = some d ∧ sized d s.length = true ∧ signs d s = true := by
  cases hd : defOf n with
  | none => unfold rightF at h; rw [hd] at h; cases h
  | some d => rw [rightF_some hd] at h; simp only [Bool.and_eq_true] at h; exact ⟨d, rfl, h⟩
theorem def_field {n : Int} {d : Def} (h : defOf n = some d) : fieldB n = true := by
  obtain ⟨hm, he⟩ := defOf_mem h
  have h1 := D_all d hm
  have h2 : ∀ d ∈ D, d.1 ≠ 65 := by decide
  exact fieldB_iff.2 ⟨by omega, by omega, fun e => h2 d hm (by omega)⟩
theorem fieldW_some {x : Item} {d : Def} (h : defOf x.1 = some d) : fieldW x = writeF d x.2.1 := by unfold fieldW; rw [h]
theorem fieldW_len {x : Item} (h : rightF x.1 x.2.1 = true) : 1 ≤ (fieldW x).length ∧ (fieldW x).length ≤ 1002 := by
  obtain ⟨d, hd, hs, _⟩ := right_def h
  rw [fieldW_some hd, writeF_len]
  have := sized_le (defOf_mem hd).1 hs
  rcases ahead_cases (kind := d.2.1) with e | e | e <;> omega
theorem items_ok : ∀ (l : List Item) (last : Int), itemsOK last l = true → (∀ x ∈ l, rightF x.1 x.2.1 = true) ∧ (l.map (·.1)).Pairwise (· < ·) ∧ ∀ x ∈ l, last < x.1 := by
  intro l
  induction l with
  | nil => intro last _; exact ⟨fun x hx => absurd hx (by simp), by simp, fun x hx => absurd hx (by simp)⟩
  | cons y l ih =>
    intro last h
    simp only [itemsOK, Bool.and_eq_true, decide_eq_true_eq] at h
    obtain ⟨⟨h1, h2⟩, h3⟩ := h
    obtain ⟨i1, i2, i3⟩ := ih y.1 h3
    refine ⟨fun x hx => ?_, ?_, fun x hx => ?_⟩
    · rcases List.mem_cons.1 hx with rfl | hx
      · exact h2
      · exact i1 x hx
    · rw [List.map_cons, List.pairwise_cons]
      refine ⟨fun a ha => ?_, i2⟩
      obtain ⟨x, hx, rfl⟩ := List.mem_map.1 ha
      exact i3 x hx
    · rcases List.mem_cons.1 hx with rfl | hx
      · exact h1
      · have := i3 x hx; omega
theorem items_back : ∀ (l : List Item) (last : Int), (∀ x ∈ l, rightF x.1 x.2.1 = true) → (l.map (·.1)).Pairwise (· < ·) → (∀ x ∈ l, last < x.1) → itemsOK last l = true := by
  intro l
  induction l with
  | nil => intro last _ _ _; rfl
  | cons y l ih =>
    intro last h1 h2 h3
    rw [List.map_cons, List.pairwise_cons] at h2
    simp only [itemsOK, Bool.and_eq_true, decide_eq_true_eq]
    exact ⟨⟨h3 y (List.mem_cons_self ..), h1 y (List.mem_cons_self ..)⟩, ih y.1 (fun x hx => h1 x (List.mem_cons_of_mem _ hx)) h2.2 fun x hx => h2.1 x.1 (List.mem_map.2 ⟨x, hx, rfl⟩)⟩
theorem msg_parts {m : Msg} : msgRight m = true ↔ itemsOK 0 m.2.1 = true ∧ knownT m.1 = true ∧ 0 < m.2.1.length := by
  unfold msgRight; simp [and_assoc]
theorem known_len {s : Txt} (h : knownT s = true) : s.length = 4 := by
  unfold knownT KT at h
  simp only [List.contains_cons, List.contains_nil, Bool.or_false, Bool.or_eq_true, beq_iff_eq] at h
  rcases h with h | h | h | h | h | h | h <;> rw [h] <;> rfl
theorem tailM_len : ∀ (l : List Item), (∀ x ∈ l, rightF x.1 x.2.1 = true) → (tailM l).length ≤ l.length * 1002 := by
  intro l
  induction l with
  | nil => intro _; simp [tailM]
  | cons y l ih =>
    intro h
    have := ih fun x hx => h x (List.mem_cons_of_mem _ hx)
    have := fieldW_len (h y (List.mem_cons_self ..))
    simp only [tailM, List.length_append, List.length_cons]; omega
theorem G79_6_is (k : Nat) (hk : 1200 < k) (typ : Txt) (l0 l : List Item) (hl : l.length ≤ 1000) (hr : ∀ x ∈ l, rightF x.1 x.2.1 = true) : ∀ (j i : Nat), i + j = l.length → ∀ (fs tl : List Int), fs.length ≤ i → tl.length ≤ i * 1002 → ∀ n, j < n →
    G79_6 k n (fs, tl, l, (l.length : Int), (i : Int), typ, l0, ()) = some (fs ++ (l.drop i).map (·.1), tl ++ toBytes (tailM (l.drop i)), typ, l0, ()) := by
  intro j
  induction j with
  | zero =>
    intro i hij fs tl h1 h2 n hn
    obtain ⟨n, rfl⟩ : ∃ m, n = m + 1 := ⟨n - 1, by omega⟩
    rw [G79_6_eq, sel_neg (by omega), List.drop_eq_nil_of_le (by omega)]
    simp [tailM, toBytes]
  | succ j ih =>
    intro i hij fs tl h1 h2 n hn
    obtain ⟨n, rfl⟩ : ∃ m, n = m + 1 := ⟨n - 1, by omega⟩
    have hlt : i < l.length := by omega
    have hx := hr l[i] (List.getElem_mem _)
    obtain ⟨d, hd, hs, _⟩ := right_def hx
    have hz := sized_le (defOf_mem hd).1 hs
    have hw := fieldW_len hx
    have next := fun fs tl a b => ih (i + 1) (by omega) fs tl a b n (by omega)
    rw [G79_6_eq, sel_pos (by omega), sel_pos (by omega), sel_pos (by simp only [ofNat_len]; omega)]
    simp only [Int.toNat_natCast, getD_of hlt]
    rw [G139_is k (by omega) l[i].1 d hd l[i].2.1 (by omega) (by omega), if_pos hx, ocall_some, ← fieldW_some hd]
    simp only [toBytes_len]
    rw [sel_pos (by omega), sel_pos (by omega), wrap64 (by omega) (by omega), show (i : Int) + 1 = ((i + 1 : Nat) : Int) by omega,
      next _ _ (by simp only [List.length_append, List.length_cons, List.length_nil]; omega) (by simp only [List.length_append, toBytes_len]; omega), List.drop_eq_getElem_cons hlt]
    simp only [List.map_cons, tailM, toBytes, List.map_append, List.append_assoc, List.cons_append, List.nil_append]
theorem bm_ok {l : List Item} (h : itemsOK 0 l = true) : ofB zeroB (l.map (·.1)) = (bmM l, 0) ∧ goodB (bmM l) ∧ rightB (bmM l) = true ∧ fieldsB (bmM l) = l.map (·.1) := by
  obtain ⟨h1, h2, _⟩ := items_ok l 0 h
  have hf : ∀ x ∈ l.map (·.1), fieldB x = true := by
    intro a ha
    obtain ⟨x, hx, rfl⟩ := List.mem_map.1 ha
    obtain ⟨d, hd, _⟩ := right_def (h1 x hx)
    exact def_field hd
  obtain ⟨o1, o2, o3, _⟩ := ofB_ok (l.map (·.1)) zeroB zeroB_good zeroB_right hf
  exact ⟨Prod.ext rfl o1, o2, o3, fields_of h2 hf⟩
theorem bytesB_le (m : BM) : (bytesB m).length ≤ 16 := by rw [bytesB_len]; split <;> omega
theorem G79_is (k : Nat) (hk : 1200 < k) (typ : Txt) (l : List Item) (hl : l.length ≤ 1000) (hx : ∀ x ∈ l, x.2.1.length ≤ maxLen ∧ x.2.1.length < k) :
    G79 k ((typ, l, ()), ()) = some (if msgRight (typ, l, ()) = true then (writeM (typ, l, ()), 0, ()) else ([], 1, ())) := by
  rw [G79_eq, G44_is k (by omega) typ l (by omega) (by omega) hx, ocall_some]
  by_cases hr : msgRight (typ, l, ()) = true
  case neg => rw [if_neg hr, Bool.eq_false_iff.2 hr]; rfl
  rw [if_pos hr, hr]
  simp only [Bool.not_true, sel_false, ofNat_len]
  obtain ⟨h1, h2, h3⟩ := msg_parts.1 hr
  obtain ⟨i1, _, _⟩ := items_ok l 0 h1
  obtain ⟨o1, o2, o3, _⟩ := bm_ok h1
  have hw := G79_6_is k hk typ l l hl i1 l.length 0 (by omega) [] [] (by simp) (by simp) k (by omega)
  rw [List.drop_zero, Int.natCast_zero, List.nil_append, List.nil_append] at hw
  rw [hw, ocall_some]
  (try simp only [])
  have hO := G140_is k (l.map (·.1)) (by simp; omega) (by simp; omega)
  have ez : ((0, 0, ()) : BM) = zeroB := rfl
  rw [ez, o1] at hO
  rw [hO, ocall_some]
  (try simp only [])
  have hB := G141_is k (by omega) (bmM l) o2
  rw [if_pos o3] at hB
  have eb : (((bmM l).1, (bmM l).2.1, ()) : BM) = bmM l := rfl
  rw [eb, hB, ocall_some]
  (try simp only [])
  have ht := tailM_len l i1
  have hk4 : typ.length = 4 := known_len h2
  rw [G142_is k _ (by simp) (by simp; omega) (by
    simp only [lenSum, toBytes_len]
    have := bytesB_le (bmM l)
    omega), ocall_some]
  simp [writeM]
end Go.Proofs.YtjgnpmdbkgeakaaDoor.G
end
section
set_option linter.unusedVariables false
set_option linter.unusedSimpArgs false
set_option maxRecDepth 100000
namespace Go.Proofs.YtjgnpmdbkgeakaaDoor.G
open Go Go.Proofs.YtjgnpmdbkgeakaaDoor Th Bits
def zeroM : Msg := ([], [], ())
def rdF (n : Int) (b : List Int) : List UInt8 × Int × Int := match defOf n with
  | some d => readF d (ofBytes b)
  | none => ([], 0, 5)
def readI : List Int → List Int → List Item × List Int × Int
  | [], b => ([], b, 0)
  | n :: l, b => if (rdF n b).2.2 = 0 then
      (if (readI l (b.drop (rdF n b).2.1.toNat)).2.2 = 0 then ((n, (rdF n b).1, ()) :: (readI l (b.drop (rdF n b).2.1.toNat)).1, (readI l (b.drop (rdF n b).2.1.toNat)).2.1, 0) else ([], [], (readI l (b.drop (rdF n b).2.1.toNat)).2.2))
    else ([], [], (rdF n b).2.2)
def readM (b : List Int) : Msg × Int :=
  if b.length < 4 then (zeroM, 2)
  else if knownT (ofBytes (b.take 4)) = true then
    (if (readB (b.drop 4)).2.2 = 0 then
      (if fieldsB (readB (b.drop 4)).1 = [] then (zeroM, 3)
       else if (readI (fieldsB (readB (b.drop 4)).1) (b.drop (4 + (readB (b.drop 4)).2.1.toNat))).2.2 = 0 then
         (if (readI (fieldsB (readB (b.drop 4)).1) (b.drop (4 + (readB (b.drop 4)).2.1.toNat))).2.1 = [] then ((ofBytes (b.take 4), (readI (fieldsB (readB (b.drop 4)).1) (b.drop (4 + (readB (b.drop 4)).2.1.toNat))).1, ()), 0) else (zeroM, 4))
       else (zeroM, (readI (fieldsB (readB (b.drop 4)).1) (b.drop (4 + (readB (b.drop 4)).2.1.toNat))).2.2))
     else (zeroM, (readB (b.drop 4)).2.2))
  else (zeroM, 3)
theorem G144_rd (k : Nat) (hk : 1100 < k) (n : Int) (b : List Int) (hb : b.length ≤ 9223372036854775807) : G144 k (n, b, ()) = some ((rdF n b).1, (rdF n b).2.1, (rdF n b).2.2, ()) := by
  unfold rdF
  cases hd : defOf n with
  | none => exact G144_none k (by omega) n b hd
  | some d => exact G144_is k hk n d hd b hb
theorem rd_ok {n : Int} {b : List Int} (h : (rdF n b).2.2 = 0) : ∃ (d : Def) (j : Nat), defOf n = some d ∧ (rdF n b).2.1 = j ∧ 0 < j ∧ j ≤ b.length ∧ rightF n (rdF n b).1 = true ∧ fieldW (n, (rdF n b).1, ()) = (ofBytes b).take j := by
  unfold rdF at h ⊢
  cases hd : defOf n with
  | none => rw [hd] at h; exact absurd h (by simp)
  | some d =>
    rw [hd] at h
    obtain ⟨j, e1, e2, e3, e4, e5, e6⟩ := read_back (defOf_mem hd).1 (ofBytes b) h
    refine ⟨d, j, rfl, e1, e2, by rw [ofBytes_len] at e3; exact e3, by rw [rightF_some hd]; simp [e4, e5], ?_⟩
    exact (fieldW_some (x := (n, _, ())) hd).trans e6
theorem G80_8_is (k : Nat) (hk : 1200 < k) (a : Txt) (b0 : List Item) (typ : Txt) (fs : List Int) (hf : fs.length ≤ 200) : ∀ (j i : Nat), i + j = fs.length → ∀ (b : List Int) (acc : List Item), b.length ≤ 1000000000 → acc.length ≤ i → ∀ n, j < n →
    G80_8 k n (b, fs, (fs.length : Int), (i : Int), a, b0, typ, acc, ()) =
      some (if (readI (fs.drop i) b).2.2 = 0 then .inl ((readI (fs.drop i) b).2.1, a, b0, typ, acc ++ (readI (fs.drop i) b).1, ()) else .inr ((readI (fs.drop i) b).2.2, [], [], ())) := by
  intro j
  induction j with
  | zero =>
    intro i hij b acc hb ha n hn
    obtain ⟨n, rfl⟩ : ∃ m, n = m + 1 := ⟨n - 1, by omega⟩
    rw [G80_8_eq, sel_neg (by omega), List.drop_eq_nil_of_le (by omega)]
    simp [readI]
  | succ j ih =>
    intro i hij b acc hb ha n hn
    obtain ⟨n, rfl⟩ : ∃ m, n = m + 1 := ⟨n - 1, by omega⟩
    have hlt : i < fs.length := by omega
    rw [G80_8_eq, sel_pos (by omega), sel_pos (by omega), sel_pos (by simp only [ofNat_len]; omega)]
    simp only [Int.toNat_natCast, getD_of hlt]
    rw [sel_pos hlt, G144_rd k (by omega) _ _ (by omega), ocall_some]
    have hcons := List.drop_eq_getElem_cons hlt
    by_cases he : (rdF fs[i] b).2.2 = 0
    · rw [sel_not, sel_pos he]
      obtain ⟨d, j', e1, e2, e3, e4, _⟩ := rd_ok he
      simp only [ofNat_len, Int.toNat_natCast, List.take_length]
      rw [sel_pos (by omega), sel_pos (by omega), sel_pos (by omega), sel_pos (Int.le_refl _), sel_pos (Int.le_refl _), wrap64 (by omega) (by omega), show (i : Int) + 1 = ((i + 1 : Nat) : Int) by omega,
        ih (i + 1) (by omega) (b.drop (rdF fs[i] b).2.1.toNat) (acc ++ [(fs[i], (rdF fs[i] b).1, ())]) (by rw [List.length_drop]; omega) (by simp; omega) n (by omega)]
      by_cases h2 : (readI (fs.drop (i + 1)) (b.drop (rdF fs[i] b).2.1.toNat)).2.2 = 0
      · have hv : readI (fs.drop i) b = ((fs[i], (rdF fs[i] b).1, ()) :: (readI (fs.drop (i + 1)) (b.drop (rdF fs[i] b).2.1.toNat)).1, (readI (fs.drop (i + 1)) (b.drop (rdF fs[i] b).2.1.toNat)).2.1, 0) := by
          rw [hcons]; show (if _ then _ else _) = _; rw [if_pos he, if_pos h2]
        rw [hv, if_pos h2, if_pos rfl]; simp
      · have hv : readI (fs.drop i) b = ([], [], (readI (fs.drop (i + 1)) (b.drop (rdF fs[i] b).2.1.toNat)).2.2) := by
          rw [hcons]; show (if _ then _ else _) = _; rw [if_pos he, if_neg h2]
        rw [hv, if_neg h2, if_neg h2]
    · have hv : readI (fs.drop i) b = ([], [], (rdF fs[i] b).2.2) := by
        rw [hcons]; show (if _ then _ else _) = _; rw [if_neg he]
      rw [sel_not, sel_neg he, hv, if_neg he]
theorem readB_size (b : List Int) : (readB b).2.1 = 0 ∨ ((readB b).2.1 = 8 ∧ 8 ≤ b.length) ∨ ((readB b).2.1 = 16 ∧ 16 ≤ b.length) := by
  unfold readB
  by_cases c8 : b.length < 8
  · rw [if_pos c8]; exact .inl rfl
  rw [if_neg c8]
  split
  · by_cases c16 : b.length < 16
    · rw [if_pos c16]; exact .inl rfl
    rw [if_neg c16]
    split
    · exact .inr (.inr ⟨rfl, by omega⟩)
    · exact .inl rfl
  · split
    · exact .inr (.inl ⟨rfl, by omega⟩)
    · exact .inl rfl
theorem readB_bad {b : List Int} (h : (readB b).2.2 ≠ 0) : (readB b).1 = zeroB := by
  unfold readB at h ⊢
  split
  · rfl
  rename_i c8
  rw [if_neg c8] at h
  split
  · rename_i c1
    rw [if_pos c1] at h
    split
    · rfl
    rename_i c16
    rw [if_neg c16] at h
    split
    · rename_i c2; rw [if_pos c2] at h; exact absurd rfl h
    · rfl
  · rename_i c1
    rw [if_neg c1] at h
    split
    · rename_i c2; rw [if_pos c2] at h; exact absurd rfl h
    · rfl
theorem readB_good {b : List Int} (hb : ∀ c ∈ b, byteOK c) : goodB (readB b).1 := by
  by_cases h : (readB b).2.2 = 0
  · obtain ⟨n, _, _, _, hg, _⟩ := bytes_read hb h; exact hg
  · rw [readB_bad h]; exact zeroB_good
theorem fieldsB_len (m : BM) : (fieldsB m).length ≤ 127 := fieldsFrom_len m 127 2
theorem start4 (b : List Int) : List.drop (Int.ofNat 0).toNat (List.take (Int.toNat 4) b) = b.take 4 := rfl
theorem all_of_b (b : List Int) : List.take (Int.ofNat b.length).toNat b = b := by rw [show (Int.ofNat b.length).toNat = b.length from rfl, List.take_of_length_le (Nat.le_refl _)]
theorem G143_is (k : Nat) (hk : 1200 < k) (b : List Int) (hb : ∀ c ∈ b, byteOK c) (hl : b.length ≤ 1000000000) : G143 k (b, ()) =
    some (if b.length < 4 then ([], [], [], 2, ()) else if knownT (ofBytes (b.take 4)) = true then (ofBytes (b.take 4), fieldsB (readB (b.drop 4)).1, b.drop (4 + (readB (b.drop 4)).2.1.toNat), (readB (b.drop 4)).2.2, ()) else ([], [], [], 3, ())) := by
  rw [G143_eq]
  by_cases c4 : b.length < 4
  · rw [sel_pos (by simp only [ofNat_len]; omega), if_pos c4]
  rw [sel_neg (by simp only [ofNat_len]; omega), if_neg c4]
  have p4 : (4 : Int) ≤ Int.ofNat b.length := by simp only [ofNat_len]; omega
  rw [sel_pos p4, sel_pos (Int.le_refl _), start4, G121_is, ocall_some]
  cases hkn : knownT (ofBytes (b.take 4)) with
  | false => rw [if_neg (by simp)]; rfl
  | true =>
  rw [if_pos rfl]
  simp only [Bool.not_true, sel_false]
  have hb4 : ∀ c ∈ b.drop 4, byteOK c := fun c hc => hb c (List.mem_of_mem_drop hc)
  rw [sel_pos p4, sel_pos (Int.le_refl _), sel_pos (Int.le_refl _), all_of_b, show Int.toNat 4 = 4 from rfl, G193_is k (by omega) _ hb4, ocall_some, sel_pos p4, sel_pos (Int.le_refl _)]
  have hF := G194_is k (by omega) (readB (b.drop 4)).1 (readB_good hb4)
  have er : (((readB (b.drop 4)).1.1, (readB (b.drop 4)).1.2.1, ()) : BM) = (readB (b.drop 4)).1 := rfl
  (try simp only [])
  rw [er, hF, ocall_some]
  have hs := readB_size (b.drop 4)
  rw [List.length_drop] at hs
  have hw : IntKind.i64.wrap (4 + (readB (b.drop 4)).2.1) = 4 + (readB (b.drop 4)).2.1 := wrap64 (by omega) (by omega)
  have ht : (4 + (readB (b.drop 4)).2.1).toNat = 4 + (readB (b.drop 4)).2.1.toNat := by omega
  rw [hw, ht, sel_pos (by omega), sel_pos (by simp only [ofNat_len]; omega), sel_pos (Int.le_refl _), sel_pos (Int.le_refl _)]
theorem G80_is (k : Nat) (hk : 1200 < k) (b : List Int) (hb : ∀ c ∈ b, byteOK c) (hl : b.length ≤ 1000000000) : G80 k (b, ()) = some ((readM b).1, (readM b).2, ()) := by
  rw [G80_eq, G143_is k hk b hb hl, ocall_some]
  unfold readM
  by_cases c4 : b.length < 4
  · rw [if_pos c4, if_pos c4]; rfl
  rw [if_neg c4, if_neg c4]
  cases hkn : knownT (ofBytes (b.take 4)) with
  | false => rw [if_neg (by simp), if_neg (by simp)]; rfl
  | true =>
  rw [if_pos rfl, if_pos rfl]
  (try simp only [])
  by_cases he : (readB (b.drop 4)).2.2 = 0
  case neg => rw [if_neg he, sel_not, sel_neg he]; rfl
  rw [if_pos he, sel_not, sel_pos he]
  have hfl := fieldsB_len (readB (b.drop 4)).1
  generalize fieldsB (readB (b.drop 4)).1 = fs at hfl
  by_cases hz : fs = []
  · rw [if_pos hz, sel_pos (by rw [hz]; rfl)]; rfl
  have hpos : 0 < fs.length := List.length_pos_iff.2 hz
  rw [if_neg hz, sel_neg (by simp only [ofNat_len]; omega)]
  have h8 := G80_8_is k hk [] [] (ofBytes (b.take 4)) fs (by omega) fs.length 0 (by omega) (b.drop (4 + (readB (b.drop 4)).2.1.toNat)) [] (by rw [List.length_drop]; omega) (by simp) k (by omega)
  rw [List.drop_zero, Int.natCast_zero, List.nil_append] at h8
  simp only [ofNat_len]
  rw [h8, ocall_some]
  generalize readI fs (b.drop (4 + (readB (b.drop 4)).2.1.toNat)) = r
  obtain ⟨its, rest, e⟩ := r
  (try simp only [])
  by_cases hr : e = 0
  · rw [if_pos hr, if_pos hr, esel_inl]
    by_cases hz2 : rest = []
    · rw [if_pos hz2, sel_neg (by rw [hz2]; simp)]
    · have : 0 < rest.length := List.length_pos_iff.2 hz2
      rw [if_neg hz2, sel_pos (show (0 : Int) < rest.length by omega)]; rfl
  · rw [if_neg hr, if_neg hr, esel_inr]; rfl
end Go.Proofs.YtjgnpmdbkgeakaaDoor.G
end
section
set_option linter.unusedVariables false
set_option linter.unusedSimpArgs false
set_option maxRecDepth 100000
namespace Go.Proofs.YtjgnpmdbkgeakaaDoor.G
open Go Go.Proofs.YtjgnpmdbkgeakaaDoor Th Bits
theorem readI_cons (n : Int) (l : List Int) (b : List Int) : readI (n :: l) b = if (rdF n b).2.2 = 0 then
      (if (readI l (b.drop (rdF n b).2.1.toNat)).2.2 = 0 then ((n, (rdF n b).1, ()) :: (readI l (b.drop (rdF n b).2.1.toNat)).1, (readI l (b.drop (rdF n b).2.1.toNat)).2.1, 0) else ([], [], (readI l (b.drop (rdF n b).2.1.toNat)).2.2))
    else ([], [], (rdF n b).2.2) := rfl
end Go.Proofs.YtjgnpmdbkgeakaaDoor.G
end
section
set_option linter.unusedVariables false
set_option linter.unusedSimpArgs false
set_option maxRecDepth 100000
namespace Go.Proofs.YtjgnpmdbkgeakaaDoor.G
open Go Go.Proofs.YtjgnpmdbkgeakaaDoor Th Bits
theorem toBytes_ofBytes : ∀ (b : List Int), (∀ c ∈ b, byteOK c) → toBytes (ofBytes b) = b := by
  intro b
  induction b with
  | nil => intro _; rfl
  | cons c b ih =>
    intro h
    have h1 := h c (List.mem_cons_self ..)
    have h2 := ih fun c hc => h c (List.mem_cons_of_mem _ hc)
    unfold byteOK at h1
    simp only [ofBytes, toBytes, List.map_cons, List.map_map] at h2 ⊢
    rw [h2]
    congr 1
    simp
    omega
theorem toBytes_ok (s : List UInt8) : ∀ c ∈ toBytes s, byteOK c := by
  intro c hc
  obtain ⟨x, _, rfl⟩ := List.mem_map.1 hc
  have := x.toNat_lt
  unfold byteOK; omega
theorem toBytes_app (s t : List UInt8) : toBytes (s ++ t) = toBytes s ++ toBytes t := by simp [toBytes]
theorem toBytes_inj {s t : List UInt8} (h : toBytes s = toBytes t) : s = t := by rw [← ofBytes_toBytes s, h, ofBytes_toBytes]
theorem writeM_ok (m : Msg) : ∀ c ∈ writeM m, byteOK c := by
  intro c hc
  unfold writeM at hc
  rcases List.mem_append.1 hc with h | h
  · exact toBytes_ok _ c h
  rcases List.mem_append.1 h with h | h
  · exact bytesB_bytes _ c h
  · exact toBytes_ok _ c h
theorem rdF_write {x : Item} (h : rightF x.1 x.2.1 = true) (t : List UInt8) : rdF x.1 (toBytes (fieldW x ++ t)) = (x.2.1, ((fieldW x).length : Int), 0) := by
  obtain ⟨d, hd, hs, hg⟩ := right_def h
  unfold rdF
  rw [hd, fieldW_some hd]
  simp only [ofBytes_toBytes]
  exact read_write (defOf_mem hd).1 _ t hs hg
theorem readI_ok {n : Int} {l b : List Int} (h1 : (rdF n b).2.2 = 0) (h2 : (readI l (b.drop (rdF n b).2.1.toNat)).2.2 = 0) :
    readI (n :: l) b = ((n, (rdF n b).1, ()) :: (readI l (b.drop (rdF n b).2.1.toNat)).1, (readI l (b.drop (rdF n b).2.1.toNat)).2.1, 0) := by rw [readI_cons, if_pos h1, if_pos h2]
theorem drop_field (x : Item) (t : List UInt8) : (toBytes (fieldW x ++ t)).drop (((fieldW x).length : Int)).toNat = toBytes t := by
  rw [Int.toNat_natCast, toBytes_drop, List.drop_left]
theorem readI_tail : ∀ (l : List Item), (∀ x ∈ l, rightF x.1 x.2.1 = true) → ∀ t, readI (l.map (·.1)) (toBytes (tailM l ++ t)) = (l, toBytes t, 0) := by
  intro l
  induction l with
  | nil => intro _ t; rfl
  | cons x l ih =>
    intro h t
    have e := rdF_write (h x (List.mem_cons_self ..)) (tailM l ++ t)
    have i := ih (fun x hx => h x (List.mem_cons_of_mem _ hx)) t
    have eb : tailM (x :: l) ++ t = fieldW x ++ (tailM l ++ t) := by simp [tailM]
    have hd : (toBytes (fieldW x ++ (tailM l ++ t))).drop (rdF x.1 (toBytes (fieldW x ++ (tailM l ++ t)))).2.1.toNat = toBytes (tailM l ++ t) := by rw [e]; exact drop_field x _
    rw [eb, List.map_cons, readI_ok (by rw [e]) (by rw [hd, i]), hd, i, e]
theorem write_parts {m : Msg} (h : msgRight m = true) (t : List UInt8) : (writeM m ++ toBytes t).take 4 = toBytes m.1 ∧ (writeM m ++ toBytes t).drop 4 = bytesB (bmM m.2.1) ++ toBytes (tailM m.2.1 ++ t) ∧ 4 ≤ (writeM m ++ toBytes t).length := by
  obtain ⟨_, h2, _⟩ := msg_parts.1 h
  have h4 : (toBytes m.1).length = 4 := by rw [toBytes_len]; exact known_len h2
  unfold writeM
  refine ⟨?_, ?_, by simp only [List.length_append]; omega⟩
  · rw [List.append_assoc, List.take_append_of_le_length (by omega), List.take_of_length_le (by omega)]
  · rw [List.append_assoc, List.drop_append, List.drop_of_length_le (by omega), h4]
    simp [toBytes_app]
theorem read_write_more {m : Msg} (h : msgRight m = true) (t : List UInt8) : readM (writeM m ++ toBytes t) = if t = [] then (m, 0) else (zeroM, 4) := by
  obtain ⟨w1, w2, w3⟩ := write_parts h t
  obtain ⟨h1, h2, h3⟩ := msg_parts.1 h
  obtain ⟨i1, _, _⟩ := items_ok m.2.1 0 h1
  obtain ⟨o1, o2, o3, o4⟩ := bm_ok h1
  have hrb := read_bytes o2 o3 (toBytes (tailM m.2.1 ++ t))
  unfold readM
  rw [if_neg (by omega), w1, w2, ofBytes_toBytes, if_pos h2, hrb]
  (try simp only [])
  rw [if_pos trivial, o4, if_neg (fun e => by
    have : m.2.1.length = 0 := by have := congrArg List.length e; simpa using this
    omega)]
  have hd : (writeM m ++ toBytes t).drop (4 + (((bytesB (bmM m.2.1)).length : Int)).toNat) = toBytes (tailM m.2.1 ++ t) := by
    rw [← List.drop_drop, w2, Int.toNat_natCast, List.drop_left]
  rw [hd, readI_tail m.2.1 i1 t, if_pos rfl]
  obtain ⟨typ, l, ⟨⟩⟩ := m
  by_cases ht : t = []
  · rw [if_pos ht, ht]; exact if_pos rfl
  · have hne : ¬ toBytes t = [] := fun e => ht (toBytes_inj (t := []) e)
    rw [if_neg ht]; exact if_neg hne
theorem read_write_msg {m : Msg} (h : msgRight m = true) : readM (writeM m) = (m, 0) := by
  have := read_write_more h []
  rw [if_pos rfl] at this
  simpa [toBytes] using this
theorem writeM_len (m : Msg) : (writeM m).length = m.1.length + ((bytesB (bmM m.2.1)).length + (tailM m.2.1).length) := by
  unfold writeM; simp only [List.length_append, toBytes_len]
theorem readI_back : ∀ (fs b : List Int), (∀ c ∈ b, byteOK c) → (readI fs b).2.2 = 0 →
    (readI fs b).1.map (·.1) = fs ∧ (∀ x ∈ (readI fs b).1, rightF x.1 x.2.1 = true) ∧ toBytes (tailM (readI fs b).1) ++ (readI fs b).2.1 = b := by
  intro fs
  induction fs with
  | nil => intro b _ _; exact ⟨rfl, fun x hx => absurd hx (by simp [readI]), rfl⟩
  | cons n fs ih =>
    intro b hb h
    rw [readI_cons] at h ⊢
    by_cases he : (rdF n b).2.2 = 0
    · rw [if_pos he] at h ⊢
      by_cases h2 : (readI fs (b.drop (rdF n b).2.1.toNat)).2.2 = 0
      · rw [if_pos h2]
        obtain ⟨d, j, e1, e2, e3, e4, e5, e6⟩ := rd_ok he
        obtain ⟨k1, k2, k3⟩ := ih _ (fun c hc => hb c (List.mem_of_mem_drop hc)) h2
        refine ⟨by simp only [List.map_cons, k1], fun x hx => ?_, ?_⟩
        · rcases List.mem_cons.1 hx with rfl | hx
          · exact e5
          · exact k2 x hx
        · simp only [tailM, toBytes_app, List.append_assoc]
          rw [k3, e6, e2, Int.toNat_natCast, ← ofBytes_take, toBytes_ofBytes _ (fun c hc => hb c (List.mem_of_mem_take hc)), List.take_append_drop]
      · rw [if_neg h2] at h; exact absurd h h2
    · rw [if_neg he] at h; exact absurd h he
theorem write_read_msg {b : List Int} (hb : ∀ c ∈ b, byteOK c) (h : (readM b).2 = 0) : msgRight (readM b).1 = true ∧ writeM (readM b).1 = b ∧ (readM b).1.2.1.length ≤ 127 := by
  unfold readM at h ⊢
  by_cases c4 : b.length < 4
  · rw [if_pos c4] at h; exact absurd h (by decide)
  rw [if_neg c4] at h ⊢
  by_cases ck : knownT (ofBytes (b.take 4)) = true
  case neg => rw [if_neg ck] at h; exact absurd h (by decide)
  rw [if_pos ck] at h ⊢
  by_cases cb : (readB (b.drop 4)).2.2 = 0
  case neg => rw [if_neg cb] at h; exact absurd h cb
  rw [if_pos cb] at h ⊢
  by_cases cf : fieldsB (readB (b.drop 4)).1 = []
  · rw [if_pos cf] at h; exact absurd h (by decide)
  rw [if_neg cf] at h ⊢
  have hb4 : ∀ c ∈ b.drop 4, byteOK c := fun c hc => hb c (List.mem_of_mem_drop hc)
  obtain ⟨n, n1, n2, n3, n4, n5, n6⟩ := bytes_read hb4 cb
  have hbi : ∀ c ∈ b.drop (4 + (readB (b.drop 4)).2.1.toNat), byteOK c := fun c hc => hb c (List.mem_of_mem_drop hc)
  have hback := readI_back (fieldsB (readB (b.drop 4)).1) _ hbi
  by_cases ci : (readI (fieldsB (readB (b.drop 4)).1) (b.drop (4 + (readB (b.drop 4)).2.1.toNat))).2.2 = 0
  case neg => rw [if_neg ci] at h; exact absurd h ci
  rw [if_pos ci] at h ⊢
  obtain ⟨k1, k2, k3⟩ := hback ci
  generalize readI (fieldsB (readB (b.drop 4)).1) (b.drop (4 + (readB (b.drop 4)).2.1.toNat)) = r at h k1 k2 k3 ⊢
  obtain ⟨its, rest, e⟩ := r
  (try simp only [] at h k1 k2 k3 ⊢)
  by_cases cr : rest = []
  case neg => rw [if_neg cr] at h; exact absurd h (by decide)
  rw [if_pos cr]
  subst cr
  have hfl := fieldsB_len (readB (b.drop 4)).1
  have hlen : its.length = (fieldsB (readB (b.drop 4)).1).length := by rw [← k1, List.length_map]
  have hpos : 0 < (fieldsB (readB (b.drop 4)).1).length := List.length_pos_iff.2 cf
  have hio : itemsOK 0 its = true := items_back its 0 k2 (by rw [k1]; exact fieldsFrom_sorted _ _ _) fun x hx => by
    obtain ⟨d, hd, _⟩ := right_def (k2 x hx)
    have := fieldB_iff.1 (def_field hd)
    omega
  refine ⟨msg_parts.2 ⟨hio, ck, by (try simp only []); omega⟩, ?_, by (try simp only []); omega⟩
  have hbm : bmM its = (readB (b.drop 4)).1 := by
    unfold bmM
    rw [k1, of_fields n4 n5]
  unfold writeM
  (try simp only [])
  rw [hbm, n6, toBytes_ofBytes _ (fun c hc => hb c (List.mem_of_mem_take hc))]
  rw [List.append_nil] at k3
  rw [k3, n1, Int.toNat_natCast, ← List.drop_drop, List.take_append_drop, List.take_append_drop]
end Go.Proofs.YtjgnpmdbkgeakaaDoor.G
end
section
set_option linter.unusedVariables false
set_option linter.unusedSimpArgs false
set_option maxRecDepth 100000
namespace Go.Proofs.YtjgnpmdbkgeakaaDoor.G
open Go Go.Proofs.YtjgnpmdbkgeakaaDoor Th Bits
theorem fw_le {n kind size : Int} {s : Txt} (hd : defOf n = some (n, kind, size, ())) (h : rightF n s = true) : ((fieldW (n, s, ())).length : Int) ≤ 3 + size := by
  obtain ⟨d, hd', hs, _⟩ := right_def h
  rw [hd] at hd'
  cases hd'
  have hw := fieldW_some (x := (n, s, ())) hd
  have hl := writeF_len (n, kind, size, ()) s
  have hz : (s.length : Int) ≤ size := by
    unfold sized at hs
    split at hs
    · have := of_decide_eq_true hs; (try simp only [] at this); omega
    · simp only [Bool.and_eq_true, decide_eq_true_eq] at hs; exact hs.2
  rw [hw, hl]
  rcases ahead_cases (kind := kind) with e | e | e <;> rw [show G.ahead (n, kind, size, ()).2.1 = G.ahead kind from rfl, e] <;> omega
theorem deal_size {d : Deal} (hg : goodD d) (h : dealOK d = true) : (writeM (typeK d.1, itemsK d, ())).length ≤ 200 := by
  have hm := ok_right hg h
  obtain ⟨h1, h2, h3⟩ := msg_parts.1 hm
  have hi : ∀ x ∈ itemsK d, rightF x.1 x.2.1 = true := (items_ok _ 0 h1).1
  have h4 : (typeK d.1).length = 4 := known_len h2
  have hb := bytesB_le (bmM (itemsK d))
  have ht : (tailM (itemsK d)).length ≤ 150 := by
    obtain ⟨kind, pan, amt, stan, rrn, code, ⟨⟩⟩ := d
    unfold itemsK at hi ⊢
    (try simp only [] at hi ⊢)
    by_cases ca : asksK kind = true
    · rw [if_pos ca] at hi ⊢
      have a1 : ((fieldW (2, pan, ())).length : Int) ≤ 3 + 19 := fw_le (n := 2) (kind := 3) (size := 19) rfl (hi (2, pan, ()) (by simp))
      have a2 : ((fieldW (4, amtT amt, ())).length : Int) ≤ 3 + 12 := fw_le (n := 4) (kind := 1) (size := 12) rfl (hi (4, amtT amt, ()) (by simp))
      have a3 : ((fieldW (11, stanT stan, ())).length : Int) ≤ 3 + 6 := fw_le (n := 11) (kind := 1) (size := 6) rfl (hi (11, stanT stan, ()) (by simp))
      have a4 : ((fieldW (37, rrn, ())).length : Int) ≤ 3 + 12 := fw_le (n := 37) (kind := 2) (size := 12) rfl (hi (37, rrn, ()) (by simp))
      by_cases c5 : 5 ≤ kind
      · rw [if_pos c5] at hi ⊢
        have a5 : ((fieldW (90, originT stan, ())).length : Int) ≤ 3 + 42 := fw_le (n := 90) (kind := 1) (size := 42) rfl (hi (90, originT stan, ()) (by simp))
        simp only [List.cons_append, List.nil_append, tailM, List.length_append, List.length_nil]; omega
      · rw [if_neg c5]
        simp only [List.append_nil, tailM, List.length_append, List.length_nil]; omega
    · rw [if_neg ca] at hi ⊢
      have a3 : ((fieldW (11, stanT stan, ())).length : Int) ≤ 3 + 6 := fw_le (n := 11) (kind := 1) (size := 6) rfl (hi (11, stanT stan, ()) (by simp))
      have a4 : ((fieldW (37, rrn, ())).length : Int) ≤ 3 + 12 := fw_le (n := 37) (kind := 2) (size := 12) rfl (hi (37, rrn, ()) (by simp))
      have a5 : ((fieldW (39, code, ())).length : Int) ≤ 3 + 2 := fw_le (n := 39) (kind := 2) (size := 2) rfl (hi (39, code, ()) (by simp))
      simp only [tailM, List.length_append, List.length_nil]; omega
  rw [writeM_len]
  (try simp only [])
  omega
theorem readD_val {m : Msg} (h : (readD m).2 = 0) : (readD m).1 = deM m := by
  unfold readD at h ⊢
  split
  · rename_i h1
    rw [if_pos h1] at h
    split
    · rename_i h2
      rw [if_pos h2] at h
      split
      · rename_i h3; rw [if_pos h3] at h; exact absurd h (by decide)
      · rename_i h3
        rw [if_neg h3] at h
        split
        · rename_i h4; rw [if_pos h4] at h; exact absurd h (by decide)
        · rfl
    · rename_i h2; rw [if_neg h2] at h; exact absurd h (by decide)
  · rename_i h1; rw [if_neg h1] at h; exact absurd h (by decide)
theorem right_len {m : Msg} (h : msgRight m = true) : ∀ x ∈ m.2.1, x.2.1.length ≤ 999 := by
  intro x hx
  obtain ⟨d, hd, hs, _⟩ := right_def ((items_ok m.2.1 0 (msg_parts.1 h).1).1 x hx)
  exact (sized_le (defOf_mem hd).1 hs).2
theorem readDeal (k : Nat) (hk : 2000 < k) (m : Msg) (h : msgRight m = true) (hl : m.2.1.length ≤ 200) : G40 k (m, ()) = some ((readD m).1, (readD m).2, ()) := by
  obtain ⟨typ, l, ⟨⟩⟩ := m
  have hl' : l.length ≤ 200 := hl
  exact G40_is k hk typ l (by omega) fun x hx => by have := right_len h x hx; omega
theorem deM_lens {m : Msg} (h : msgRight m = true) : lens 1000 (deM m) := by
  have hx : ∀ x ∈ m.2.1, x.2.1.length ≤ 1000 := fun x hx => by have := right_len h x hx; omega
  exact ⟨getM_len 2 1000 _ hx, getM_len 37 1000 _ hx, getM_len 39 1000 _ hx⟩
def sendM (d : Deal) : Msg := (typeK d.1, itemsK d, ())
def sendB (d : Deal) : List Int := writeM (sendM d)
theorem sendDeal (k : Nat) (hk : 2000 < k) (d : Deal) (gd : goodD d) (hl : lens 300 d) : G37 k (d, ()) = some (if dealOK d = true then (sendM d, 0, ()) else (([], [], ()), 1, ())) := G37_is k 300 (by omega) (by omega) d hl gd
theorem send_right {d : Deal} (gd : goodD d) (h : dealOK d = true) : msgRight (sendM d) = true := ok_right gd h
theorem send_bytes (d : Deal) : ∀ c ∈ sendB d, byteOK c := writeM_ok _
theorem send_size {d : Deal} (gd : goodD d) (h : dealOK d = true) : (sendB d).length ≤ 200 := deal_size gd h
theorem sendMsg (k : Nat) (hk : 2000 < k) {d : Deal} (gd : goodD d) (h : dealOK d = true) : G79 k (sendM d, ()) = some (sendB d, 0, ()) := by
  have hxl := right_len (send_right gd h)
  have hil := itemsK_len d
  have hW := G79_is k (by omega) (typeK d.1) (itemsK d) (by omega) (fun x hx => by have := hxl x hx; rw [maxLen_eq]; omega)
  rw [if_pos (show msgRight (typeK d.1, itemsK d, ()) = true from send_right gd h)] at hW
  exact hW
end Go.Proofs.YtjgnpmdbkgeakaaDoor.G
end
section
set_option linter.unusedVariables false
set_option linter.unusedSimpArgs false
set_option maxRecDepth 100000
namespace Go.Proofs.YtjgnpmdbkgeakaaDoor.G
open Go Go.Proofs.YtjgnpmdbkgeakaaDoor Th
def keyOK (a : Key) : Bool := decide (a.1 ≤ 999999) && rightF 37 a.2.1
theorem ack_ok (a : Key) : dealOK (7, [], 0, a.1, a.2.1, [48, 48], ()) = keyOK a := by
  unfold dealOK keyOK
  have h1 : asksK 7 = false := rfl
  have h2 : rightF 39 [48, 48] = true := by decide
  simp only [h1, h2]
  simp
theorem G27_is (k L : Nat) (hL : L ≤ 1000000) (hk : L + 100 < k) (a : Key) (hl : a.2.1.length ≤ L) (h2 : 2 ≤ L) (hg : 0 ≤ a.1 ∧ a.1 ≤ 4294967295) : G27 k (a, ()) = some (keyOK a, ()) := by
  rw [G27_eq]
  (try simp only [])
  rw [G33_is k L hL hk (7, [], 0, a.1, a.2.1, [48, 48], ()) ⟨Nat.zero_le _, hl, h2⟩ ⟨⟨Int.le_refl 0, show (0 : Int) ≤ 18446744073709551615 by decide⟩, hg⟩, ocall_some, ack_ok]
def hstep (h : Nat) (c : UInt8) : Nat := (h ^^^ c.toNat) * 16777619 % 4294967296
def hsh (s : Txt) : Nat := s.foldl hstep 2166136261
theorem G26_is (k : Nat) (d : Deal) : G26 k (d, ()) = some ((d.2.2.2.1, d.2.2.2.2.1, ()), ()) := by rw [G26_eq]
end Go.Proofs.YtjgnpmdbkgeakaaDoor.G
end
section
set_option linter.unusedVariables false
set_option linter.unusedSimpArgs false
set_option maxRecDepth 100000
namespace Go.Proofs.YtjgnpmdbkgeakaaDoor.G
open Go Go.Proofs.YtjgnpmdbkgeakaaDoor Th
abbrev Entry := Key × Int × Txt × Int × Txt × Int × Int × Unit
abbrev Event := Int × Deal × Unit
def kindE (kind : Int) : Int := if kind = 1 then 1 else if kind = 2 then 2 else if kind = 3 then 3 else if kind = 5 then 7 else 0
def eventOK (v : Event) : Bool :=
  if v.1 = 4 then decide (v.2.1.1 = 0) && decide (v.2.1.2.1 = []) && decide (v.2.1.2.2.1 = 0) && decide (v.2.1.2.2.2.2.2.1 = []) && keyOK (v.2.1.2.2.2.1, v.2.1.2.2.2.2.1, ())
  else decide (0 < v.2.1.1) && decide (v.2.1.1 = kindE v.1) && dealOK v.2.1
theorem G128_is (k : Nat) (kind : Int) : G128 k (kind, ()) = some (kindE kind, ()) := by
  rw [G128_eq]
  unfold kindE
  simp only [sel_dec]
  by_cases h1 : kind = 1
  · simp [h1]
  by_cases h2 : kind = 2
  · simp [h2]
  by_cases h3 : kind = 3
  · simp [h3]
  by_cases h5 : kind = 5 <;> simp [h1, h2, h3, h5]
theorem G49_is (k L : Nat) (h2 : 2 ≤ L) (hL : L ≤ 1000000) (hk : L + 100 < k) (kind : Int) (d : Deal) (hl : lens L d) (hg : goodD d) : G49 k ((kind, d, ()), ()) = some (eventOK (kind, d, ()), ()) := by
  have hr := G33_is k L hL hk d hl hg
  obtain ⟨dk, pan, amt, stan, rrn, code, ⟨⟩⟩ := d
  obtain ⟨l1, l2, l3⟩ := hl
  rw [G49_eq]
  unfold eventOK
  (try simp only [])
  by_cases h4 : kind = 4
  · rw [sel_pos h4, if_pos h4, G26_is, ocall_some]
    (try simp only [])
    rw [G27_is k L hL hk (stan, rrn, ()) l2 h2 hg.2, ocall_some]
    simp only [sameI, sameS, decide_true, Bool.true_and, Bool.and_true]
    by_cases c1 : dk = 0 <;> by_cases c2 : pan = [] <;> by_cases c3 : amt = 0 <;> by_cases c4 : code = [] <;> simp [c1, c2, c3, c4]
  · rw [sel_neg h4, if_neg h4, G128_is, ocall_some, hr, ocall_some]
    by_cases c1 : 0 < dk
    · rw [sel_pos c1, decide_eq_true c1]
      by_cases c2 : dk = kindE kind
      · rw [sel_pos c2, decide_eq_true c2]; rfl
      · rw [sel_neg c2, decide_eq_false c2]; rfl
    · rw [sel_neg c1, decide_eq_false c1]; rfl
set_option synthInstance.maxSize 4000 in
set_option synthInstance.maxHeartbeats 400000 in
instance decE : DecidableEq Entry := fun a b => inferInstanceAs (Decidable ((a : (Int × Txt × Unit) × Int × Txt × Int × Txt × Int × Int × Unit) = b))
end Go.Proofs.YtjgnpmdbkgeakaaDoor.G
end
section
set_option linter.unusedVariables false
set_option linter.unusedSimpArgs false
set_option maxRecDepth 100000
namespace Go.Proofs.YtjgnpmdbkgeakaaDoor.G
open Go Go.Proofs.YtjgnpmdbkgeakaaDoor Th Bits
def evK (side kind : Int) : Int := if side = 1 ∧ (kind = 1 ∨ kind = 3) then kind else if side = 2 ∧ kind = 2 then 2 else if side = 2 ∧ kind = 7 then 5 else 0
def zeroEv : Event := (0, zeroD, ())
def eventF (side : Int) (b : List Int) : Event × Bool :=
  if (readM b).2 = 0 ∧ (readD (readM b).1).2 = 0 ∧ evK side (readD (readM b).1).1.1 ≠ 0 then ((evK side (readD (readM b).1).1.1, (readD (readM b).1).1, ()), true) else (zeroEv, false)
theorem G145_is (k : Nat) (side : Int) : G145 k (side, ()) = some (if side = 1 then [1, 3] else if side = 2 then [2, 5] else [], ()) := by
  rw [G145_eq]
  by_cases h1 : side = 1
  · rw [sel_pos h1, if_pos h1]
  rw [sel_neg h1, if_neg h1]
  by_cases h2 : side = 2
  · rw [sel_pos h2, if_pos h2]
  · rw [sel_neg h2, if_neg h2]
theorem rightEv (k : Nat) (hk : 2000 < k) {m : Msg} (hr : msgRight m = true) (h : (readD m).2 = 0) (kind : Int) (h4 : kind ≠ 4) : G49 k ((kind, (readD m).1, ()), ()) = some (decide ((readD m).1.1 = kindE kind), ()) := by
  obtain ⟨w1, w2⟩ := write_read_deal h
  have hv := readD_val h
  have hR := G49_is k 1000 (by omega) (by omega) (by omega) kind (readD m).1 (by rw [hv]; exact deM_lens hr) (by rw [hv]; exact good_deM m)
  rw [hR]
  unfold eventOK
  rw [if_neg h4]
  (try simp only [])
  have hok : dealOK (readD m).1 = true := by rw [hv]; exact w2
  have h1 := (ok_parts hok).1
  rw [hok, decide_eq_true (show 0 < (readD m).1.1 by omega)]
  simp
theorem G82_is (k : Nat) (hk : 2000 < k) (side : Int) (b : List Int) (hb : ∀ c ∈ b, byteOK c) (hl : b.length ≤ 1000000000) : G82 k (side, b, ()) = some ((eventF side b).1, (eventF side b).2, ()) := by
  rw [G82_eq, G80_is k (by omega) b hb hl, ocall_some]
  unfold eventF
  (try simp only [])
  by_cases he : (readM b).2 = 0
  case neg => rw [sel_not, sel_neg he, if_neg (fun h => he h.1)]; rfl
  obtain ⟨w1, w2, w3⟩ := write_read_msg hb he
  have eR : ((((readM b).1.1, (readM b).1.2.1, ()) : Msg)) = (readM b).1 := rfl
  rw [sel_not, sel_pos he, eR, readDeal k hk _ w1 (by omega), ocall_some]
  (try simp only [])
  by_cases hd : (readD (readM b).1).2 = 0
  case neg => rw [sel_not, sel_neg hd, if_neg (fun h => hd h.2.1)]; rfl
  have hev := fun kind h4 => rightEv k hk w1 hd kind h4
  rw [sel_not, sel_pos hd, G145_is, ocall_some]
  generalize (readD (readM b).1).1 = d at hev
  obtain ⟨k1, k2, k3, k4, k5, k6, ⟨⟩⟩ := d
  (try simp only [] at hev ⊢)
  obtain ⟨c, rfl⟩ : ∃ c, k = c + 3 := ⟨k - 3, by omega⟩
  by_cases s1 : side = 1
  · rw [if_pos s1]
    have e1 := hev 1 (by omega)
    have e3 := hev 3 (by omega)
    rw [show Int.ofNat ([1, 3] : List Int).length = 2 from rfl, G82_8_eq, sel_pos (by omega), sel_pos (by omega), sel_pos (by decide), sel_pos (by decide)]
    have g0 : ([1, 3] : List Int).getD (Int.toNat 0) 0 = 1 := rfl
    rw [g0, e1, ocall_some]
    by_cases c1 : k1 = 1
    · rw [show kindE 1 = 1 from rfl, decide_eq_true c1, sel_true, ocall_some, esel_inr, if_pos ⟨he, hd, by unfold evK; rw [if_pos ⟨s1, .inl c1⟩]; omega⟩]
      unfold evK; rw [if_pos ⟨s1, .inl c1⟩, c1]
    rw [show kindE 1 = 1 from rfl, decide_eq_false c1, sel_false, G82_8_eq, sel_pos (by decide), sel_pos (by decide), sel_pos (by decide), sel_pos (by decide)]
    have g1 : ([1, 3] : List Int).getD (Int.toNat (IntKind.i64.wrap (0 + 1))) 0 = 3 := rfl
    rw [g1, e3, ocall_some]
    by_cases c3 : k1 = 3
    · rw [show kindE 3 = 3 from rfl, decide_eq_true c3, sel_true, ocall_some, esel_inr, if_pos ⟨he, hd, by unfold evK; rw [if_pos ⟨s1, .inr c3⟩]; omega⟩]
      unfold evK; rw [if_pos ⟨s1, .inr c3⟩, c3]
    rw [show kindE 3 = 3 from rfl, decide_eq_false c3, sel_false, G82_8_eq, sel_neg (by decide), ocall_some, esel_inl, if_neg (fun h => h.2.2 (by unfold evK; rw [if_neg (by omega), if_neg (by omega), if_neg (by omega)]))]
    rfl
  rw [if_neg s1]
  by_cases s2 : side = 2
  · rw [if_pos s2]
    have e1 := hev 2 (by omega)
    have e3 := hev 5 (by omega)
    rw [show Int.ofNat ([2, 5] : List Int).length = 2 from rfl, G82_8_eq, sel_pos (by omega), sel_pos (by omega), sel_pos (by decide), sel_pos (by decide)]
    have g0 : ([2, 5] : List Int).getD (Int.toNat 0) 0 = 2 := rfl
    rw [g0, e1, ocall_some]
    by_cases c1 : k1 = 2
    · rw [show kindE 2 = 2 from rfl, decide_eq_true c1, sel_true, ocall_some, esel_inr, if_pos ⟨he, hd, by unfold evK; rw [if_neg (by omega), if_pos ⟨s2, c1⟩]; omega⟩]
      unfold evK; rw [if_neg (by omega), if_pos ⟨s2, c1⟩]
    rw [show kindE 2 = 2 from rfl, decide_eq_false c1, sel_false, G82_8_eq, sel_pos (by decide), sel_pos (by decide), sel_pos (by decide), sel_pos (by decide)]
    have g1 : ([2, 5] : List Int).getD (Int.toNat (IntKind.i64.wrap (0 + 1))) 0 = 5 := rfl
    rw [g1, e3, ocall_some]
    by_cases c3 : k1 = 7
    · rw [show kindE 5 = 7 from rfl, decide_eq_true c3, sel_true, ocall_some, esel_inr, if_pos ⟨he, hd, by unfold evK; rw [if_neg (by omega), if_neg (by omega), if_pos ⟨s2, c3⟩]; omega⟩]
      unfold evK; rw [if_neg (by omega), if_neg (by omega), if_pos ⟨s2, c3⟩]
    rw [show kindE 5 = 7 from rfl, decide_eq_false c3, sel_false, G82_8_eq, sel_neg (by decide), ocall_some, esel_inl, if_neg (fun h => h.2.2 (by unfold evK; rw [if_neg (by omega), if_neg (by omega), if_neg (by omega)]))]
    rfl
  rw [if_neg s2, show Int.ofNat ([] : List Int).length = 0 from rfl, G82_8_eq, sel_neg (by omega), ocall_some, esel_inl, if_neg (fun h => h.2.2 (by unfold evK; rw [if_neg (by omega), if_neg (by omega), if_neg (by omega)]))]
  rfl
def nextA (all : List Int) : Reader × List Int × List Int × Int :=
  if 0 < firstF all then (([], false, ()), all.drop (firstF all).toNat, (all.take (firstF all).toNat).drop 2, 0)
  else if firstF all < 0 then (([], true, ()), [], [], 12) else ((all, false, ()), [], [], 5)
def nextR (r : Reader) (line : List Int) : Reader × List Int × List Int × Int :=
  if rightR r = true then (if r.2.1 = true then (r, line, [], 12) else nextA (r.1 ++ line)) else (r, line, [], 1)
theorem feed_one {r : List Int} {c : Int} (hb : ∀ c ∈ r, byteOK c) (hc : byteOK c) (h : firstF r = 0) :
    (firstF (r ++ [c]) = 0 ∧ feedR (r, false, ()) [c] = ((r ++ [c], false, ()), [], 0)) ∨
    ((∀ t, firstF ((r ++ [c]) ++ t) = -1) ∧ feedR (r, false, ()) [c] = (([], true, ()), [], 12)) ∨
    ((∀ t, firstF ((r ++ [c]) ++ t) = ((r ++ [c]).length : Int)) ∧ 2 ≤ (r ++ [c]).length ∧ feedR (r, false, ()) [c] = (([], false, ()), [(r ++ [c]).drop 2], 0)) := by
  have hb' := bytes_app hb (bytes_one hc)
  have hr : rightR (r, false, ()) = true := by unfold rightR; rw [if_neg (by simp)]; exact decide_eq_true h
  have hf : feedR (r, false, ()) [c] = if (feedA (r ++ [c])).2.2 = true then (([], true, ()), (feedA (r ++ [c])).1, 12) else (((feedA (r ++ [c])).2.1, false, ()), (feedA (r ++ [c])).1, 0) := by
    unfold feedR; rw [if_pos hr, if_neg (by simp)]
  rw [hf]
  have hcs := snoc_cases hb hc h
  generalize r ++ [c] = r' at hb' hcs
  rcases hcs with ⟨c1, c2⟩ | ⟨c1, c2, c3⟩ | ⟨c1, c2, c3, c4⟩ | ⟨c1, c2, c3, c4⟩
  · rw [feedA_zero hb' c2]; exact .inl ⟨c2, rfl⟩
  · have h0 := c3 []
    rw [List.append_nil] at h0
    rw [feedA_neg hb' (by omega)]; exact .inr (.inl ⟨c3, rfl⟩)
  · have h0 := c4 []
    rw [List.append_nil] at h0
    have hp := feedA_pos hb' (by omega)
    rw [h0, Int.toNat_natCast, List.take_length, List.drop_length, feedA_nil] at hp
    rw [hp]; exact .inr (.inr ⟨c4, c1, rfl⟩)
  · rw [feedA_zero hb' c4]; exact .inl ⟨c4, rfl⟩
theorem slice1 {l : List Int} {i : Nat} (h : i < l.length) : List.drop ((i : Int)).toNat (List.take (IntKind.i64.wrap ((i : Int) + 1)).toNat l) = [l[i]] ∨ 9223372036854775806 ≤ i := by
  by_cases hi : i < 9223372036854775806
  · left
    rw [wrap64 (by omega) (by omega), Int.toNat_natCast, show ((i : Int) + 1).toNat = i + 1 by omega, List.take_succ_eq_append_getElem h, List.drop_append, List.drop_of_length_le (by rw [List.length_take]; omega)]
    simp [Nat.min_eq_left (Nat.le_of_lt h)]
  · right; omega
theorem next_loop (line : List Int) (hb : ∀ c ∈ line, byteOK c) (hl : line.length ≤ 100000000) (v4 : List Int) (v5 : Bool) (k : Nat) (hk : 3000 < k) : ∀ (j i : Nat), i + j = line.length → ∀ (r : List Int), (∀ c ∈ r, byteOK c) → firstF r = 0 → ∀ n, j < n →
    G84_g0 k n (line, (i : Int), r, false, v4, v5, ()) = some ((nextA (r ++ line.drop i)).2.1, (nextA (r ++ line.drop i)).2.2.1, (nextA (r ++ line.drop i)).2.2.2, (nextA (r ++ line.drop i)).1.1, (nextA (r ++ line.drop i)).1.2.1, ()) := by
  intro j
  induction j with
  | zero =>
    intro i hij r hr h0 n hn
    obtain ⟨n, rfl⟩ : ∃ m, n = m + 1 := ⟨n - 1, by omega⟩
    have e : nextA (r ++ line.drop i) = ((r, false, ()), [], [], 5) := by
      rw [List.drop_eq_nil_of_le (by omega), List.append_nil]; unfold nextA; rw [if_neg (by omega), if_neg (by omega)]
    rw [G84_g0_eq, sel_pos (by simp only [ofNat_len]; omega), e]
  | succ j ih =>
    intro i hij r hr h0 n hn
    obtain ⟨n, rfl⟩ : ∃ m, n = m + 1 := ⟨n - 1, by omega⟩
    have hlt : i < line.length := by omega
    have hc := hb line[i] (List.getElem_mem _)
    have hrl := first_le hr h0
    have hall : r ++ line.drop i = (r ++ [line[i]]) ++ line.drop (i + 1) := by rw [List.drop_eq_getElem_cons hlt]; simp
    have hs : List.drop ((i : Int)).toNat (List.take (IntKind.i64.wrap ((i : Int) + 1)).toNat line) = [line[i]] := by
      rcases slice1 hlt with h | h
      · exact h
      · omega
    have hw : IntKind.i64.wrap ((i : Int) + 1) = ((i + 1 : Nat) : Int) := by rw [wrap64 (by omega) (by omega)]; omega
    rw [G84_g0_eq, sel_neg (by simp only [ofNat_len]; omega), sel_pos (by omega), sel_pos (by rw [hw]; omega), sel_pos (by rw [hw]; simp only [ofNat_len]; omega), sel_pos (Int.le_refl _), hs,
      G88_is k (r, false, ()) [line[i]] hr (bytes_one hc) (by simp; omega) (by simp; omega), ocall_some, hall]
    rcases feed_one hr hc h0 with ⟨c1, c2⟩ | ⟨c1, c2⟩ | ⟨c1, c1', c2⟩
    · rw [c2]
      (try simp only [])
      rw [sel_not, sel_pos trivial, sel_pos (by rfl), hw]
      exact ih (i + 1) (by omega) (r ++ [line[i]]) (bytes_app hr (bytes_one hc)) c1 n (by omega)
    · have e : nextA ((r ++ [line[i]]) ++ line.drop (i + 1)) = (([], true, ()), [], [], 12) := by unfold nextA; rw [c1, if_neg (by decide), if_pos (by decide)]
      rw [c2, e]
      (try simp only [])
      rw [sel_not, sel_neg (by decide)]
    · have e : nextA ((r ++ [line[i]]) ++ line.drop (i + 1)) = (([], false, ()), line.drop (i + 1), (r ++ [line[i]]).drop 2, 0) := by
        unfold nextA; rw [c1, if_pos (by omega), Int.toNat_natCast, List.drop_left, List.take_left]
      rw [c2, e]
      (try simp only [])
      have ho : Int.ofNat [List.drop 2 (r ++ [line[i]])].length = 1 := rfl
      rw [sel_not, sel_pos trivial, ho, sel_neg (by decide), hw, sel_pos (by omega), sel_pos (by simp only [ofNat_len]; omega), sel_pos (Int.le_refl _), sel_pos (Int.le_refl _), all_of_b, Int.toNat_natCast,
        cloneB k _ (by rw [List.length_drop]; omega), ocall_some, sel_pos (by decide), sel_pos (by simp)]
      rfl
theorem G84_is (k : Nat) (hk : 3000 < k) (r : Reader) (line : List Int) (hr : ∀ c ∈ r.1, byteOK c) (hrl : r.1.length ≤ 1000000000) (hb : ∀ c ∈ line, byteOK c) (hl : line.length ≤ 100000000) (hkl : line.length < k) :
    G84 k (r, line, ()) = some ((nextR r line).1, (nextR r line).2.1, (nextR r line).2.2.1, (nextR r line).2.2.2, ()) := by
  have hR := G87_is k r hr (by omega)
  obtain ⟨rest, br, ⟨⟩⟩ := r
  have hr : ∀ c ∈ rest, byteOK c := hr
  rw [G84_eq, hR, ocall_some]
  unfold nextR
  cases hrr : rightR (rest, br, ()) with
  | false => rw [if_neg (by simp)]; rfl
  | true =>
  rw [if_pos rfl]
  simp only [Bool.not_true, sel_false]
  cases br with
  | true => rw [sel_true, if_pos rfl]
  | false =>
  have h0 : firstF rest = 0 := by
    unfold rightR at hrr
    rw [if_neg (by simp)] at hrr
    exact of_decide_eq_true hrr
  rw [sel_false, if_neg (by simp)]
  have hgo := next_loop line hb hl [] false k hk
  by_cases hz : line.length = 0
  · have : line = [] := List.eq_nil_of_length_eq_zero hz
    subst this
    have e : nextA (rest ++ []) = ((rest, false, ()), [], [], 5) := by rw [List.append_nil]; unfold nextA; rw [if_neg (by omega), if_neg (by omega)]
    rw [sel_pos (by rfl), e]
  · have hlt : 0 < line.length := by omega
    have hc := hb line[0] (List.getElem_mem _)
    have hl0 : rest.length ≤ 2050 := first_le hr h0
    have hall : rest ++ line = (rest ++ [line[0]]) ++ line.drop 1 := by
      have := List.drop_eq_getElem_cons hlt
      rw [List.drop_zero] at this
      rw [List.append_assoc, List.singleton_append, ← this]
    have hs : List.drop (Int.toNat 0) (List.take (IntKind.i64.wrap (0 + 1)).toNat line) = [line[0]] := by
      rcases slice1 hlt with h | h
      · exact h
      · omega
    have hw : IntKind.i64.wrap (0 + 1) = ((1 : Nat) : Int) := by rfl
    simp only [ofNat_len]
    rw [sel_neg (by omega), sel_pos (by rw [hw]; omega), sel_pos (Int.le_refl _), hs, G88_is k (rest, false, ()) [line[0]] hr (bytes_one hc) (by simp; omega) (by simp; omega), ocall_some]
    rcases feed_one hr hc h0 with ⟨c1, c2⟩ | ⟨c1, c2⟩ | ⟨c1, c1', c2⟩
    · rw [c2]
      (try simp only [])
      have hn := hgo (line.length - 1) 1 (by omega) (rest ++ [line[0]]) (bytes_app hr (bytes_one hc)) c1 k (by omega)
      rw [← hall] at hn
      rw [sel_not, sel_pos trivial, sel_pos (by rfl), hw, hn, ocall_some]
    · have e : nextA (rest ++ line) = (([], true, ()), [], [], 12) := by rw [hall]; unfold nextA; rw [c1, if_neg (by decide), if_pos (by decide)]
      rw [c2, e]
      (try simp only [])
      rw [sel_not, sel_neg (by decide)]
    · have e : nextA (rest ++ line) = (([], false, ()), line.drop 1, (rest ++ [line[0]]).drop 2, 0) := by
        rw [hall]; unfold nextA; rw [c1, if_pos (by omega), Int.toNat_natCast, List.drop_left, List.take_left]
      rw [c2, e]
      (try simp only [])
      rw [sel_not, sel_pos trivial, sel_neg (by simp), sel_pos (by rw [hw]; omega), sel_pos (Int.le_refl _), sel_pos (Int.le_refl _), hw, Int.toNat_natCast, Int.toNat_natCast, List.take_length,
        cloneB k _ (by rw [List.length_drop]; omega), ocall_some, sel_pos (by simp), sel_pos (by simp)]
      rfl
end Go.Proofs.YtjgnpmdbkgeakaaDoor.G
end
section
set_option linter.unusedVariables false
set_option linter.unusedSimpArgs false
set_option maxRecDepth 100000
namespace Go.Proofs.YtjgnpmdbkgeakaaDoor.G
open Go Go.Proofs.YtjgnpmdbkgeakaaDoor Th Bits
theorem event_send {d : Deal} (gd : goodD d) (h : dealOK d = true) (side : Int) : eventF side (sendB d) = if evK side d.1 ≠ 0 then ((evK side d.1, d, ()), true) else (zeroEv, false) := by
  have h1 : readM (sendB d) = (sendM d, 0) := read_write_msg (send_right gd h)
  have h2 : readD (sendM d) = (d, 0) := read_write_deal gd h
  unfold eventF
  rw [h1]
  (try simp only [])
  rw [h2]
  by_cases c : evK side d.1 ≠ 0
  · rw [if_pos c, if_pos ⟨trivial, rfl, c⟩]
  · rw [if_neg c, if_neg fun h => c h.2.2]
def dA7 : Deal := (7, [], 0, 1, [82, 82, 78, 48, 48, 48, 48, 48, 48, 48, 48, 49], [48, 48], ())
theorem dA7_good : goodD dA7 := ⟨by decide, by decide⟩
theorem dA7_ok : dealOK dA7 = true := by decide
theorem dA7_lens : lens 300 dA7 := by unfold lens; decide
theorem nextA1 : nextR ([], false, ()) [0, 2, 97, 98, 0, 1, 99] = (([], false, ()), [0, 1, 99], [97, 98], 0) := by kernel_rfl
theorem nextA2 : nextR ([], false, ()) [0, 0] = (([], true, ()), [], [], 12) := by kernel_rfl
theorem G81_is (k : Nat) (hk : 4000 < k) : G81 k () = some (true, ()) := by
  have hD := sendDeal k (by omega) dA7 dA7_good dA7_lens
  rw [if_pos dA7_ok] at hD
  have hM := sendMsg k (by omega) dA7_good dA7_ok
  have hE := fun side => G82_is k (by omega) side (sendB dA7) (send_bytes _) (by have := send_size dA7_good dA7_ok; omega)
  have v2 : eventF 2 (sendB dA7) = ((5, dA7, ()), true) := by rw [event_send dA7_good dA7_ok]; rfl
  have v1 : eventF 1 (sendB dA7) = (zeroEv, false) := by rw [event_send dA7_good dA7_ok]; rfl
  have h2 := hE 2
  have h1 := hE 1
  rw [v2] at h2
  rw [v1] at h1
  have hN1 := G84_is k (by omega) ([], false, ()) [0, 2, 97, 98, 0, 1, 99] (by simp) (by simp) (by simp [byteOK]) (by simp) (by simp; omega)
  rw [nextA1] at hN1
  have hN2 := G84_is k (by omega) ([], false, ()) [0, 0] (by simp) (by simp) (by simp [byteOK]) (by simp) (by simp; omega)
  rw [nextA2] at hN2
  rw [G81_eq]
  have hD' : G37 k ((7, [], 0, 1, [82, 82, 78, 48, 48, 48, 48, 48, 48, 48, 48, 49], [48, 48], ()), ()) = some (sendM dA7, 0, ()) := hD
  rw [hD', ocall_some]
  have hM' : G79 k (((sendM dA7).1, (sendM dA7).2.1, ()), ()) = some (sendB dA7, 0, ()) := hM
  (try simp only [])
  rw [hM', ocall_some]
  (try simp only [])
  rw [h2, ocall_some, h1, ocall_some, hN1, ocall_some]
  (try simp only [])
  rw [hN2, ocall_some]
  (try simp only [])
  rfl
end Go.Proofs.YtjgnpmdbkgeakaaDoor.G
end
section
set_option linter.unusedVariables false
set_option linter.unusedSimpArgs false
namespace Go.Proofs.YtjgnpmdbkgeakaaDoor.PureLineParts
open Go Go.Proofs.YtjgnpmdbkgeakaaDoor Th Bits G
theorem first_gt {rest left : List Int} (hr : ∀ c ∈ rest, byteOK c) (hl : ∀ c ∈ left, byteOK c) (h0 : firstF rest = 0) (h : 0 < firstF (rest ++ left)) : rest.length < (firstF (rest ++ left)).toNat := by
  have hp := first_pos (bytes_app hr hl) h
  rcases first_short hr h0 with c | ⟨c1, c2, c3, c4⟩
  · omega
  · rw [hp.2.2.1, hdrN_app c1]; omega
theorem next_feed {rest left t : List Int} (hr : ∀ c ∈ rest, byteOK c) (hl : ∀ c ∈ left, byteOK c) (ht : ∀ c ∈ t, byteOK c) (h : 0 < firstF (rest ++ left)) : feedA (rest ++ (left ++ t)) = (((rest ++ left).take (firstF (rest ++ left)).toNat).drop 2 :: (feedA ([] ++ ((rest ++ left).drop (firstF (rest ++ left)).toNat ++ t))).1, (feedA ([] ++ ((rest ++ left).drop (firstF (rest ++ left)).toNat ++ t))).2) := by
  have hp := first_pos (bytes_app hr hl) h
  have hf := first_app (bytes_app hr hl) h t
  rw [← List.append_assoc, feedA_pos (bytes_app (bytes_app hr hl) ht) (by rw [hf]; exact h), hf, List.take_append_of_le_length hp.2.1, List.drop_append_of_le_length hp.2.1, List.nil_append]
theorem right_zero {rest : List Int} (h0 : firstF rest = 0) : rightR (rest, false, ()) = true := by unfold rightR; rw [if_neg (by simp)]; exact decide_eq_true h0
def tl (b : List Int) (second : Bool) : List Int := if second = true then [] else b
def endS (T : List Int) (br : Bool) : Reader := if br = true then ([], true, ()) else (T, false, ())
theorem loop (a b : List Int) (hb : ∀ c ∈ b, byteOK c) (hla : a.length ≤ 5000) (hlb : b.length ≤ 5000) (A : List (List Int)) (T : List Int) (br : Bool) (hA : ∀ x ∈ A, ∀ c ∈ x, byteOK c) (hT : ∀ c ∈ T, byteOK c) (hAl : A.length ≤ 15000) (E : Int) (hE : E = if br = true then 12 else 0) :
    ∀ (M : Nat) (rest : List Int) (got : List (List Int)) (left : List Int) (second : Bool) (i n : Nat), (∀ c ∈ rest, byteOK c) → firstF rest = 0 → (∀ c ∈ left, byteOK c) →
      (got ++ (feedA (rest ++ (left ++ tl b second))).1 = A ∧ (feedA (rest ++ (left ++ tl b second))).2 = (T, br)) →
      left.length + (if second = true then 0 else b.length + 1) < M → i + M ≤ a.length + b.length + 2 → got.length ≤ i → M ≤ n →
      G19_10 20000 n (a, b, A, E, got, left, second, (i : Int), rest, false, (endS T br).1, (endS T br).2.1, ()) = some (.inr (true, ())) := by
  intro M
  induction M with
  | zero => intro rest got left second i n hr h0 hl hinv hM; exact absurd hM (by omega)
  | succ M ih =>
    intro rest got left second i n hr h0 hl hinv hM hi hg hn
    obtain ⟨n, rfl⟩ : ∃ m, n = m + 1 := ⟨n - 1, by omega⟩
    have hrl := first_le hr h0
    have hX := bytes_app hr hl
    have htl : ∀ c ∈ tl b second, byteOK c := by unfold tl; split; exact (fun c hc => absurd hc (by simp)); exact hb
    have hll : left.length ≤ 10001 := by omega
    have hN := G84_is 20000 (by omega) (rest, false, ()) left hr (by show rest.length ≤ _; omega) hl (by omega) (by omega)
    have hnx : nextR (rest, false, ()) left = nextA (rest ++ left) := by
      unfold nextR
      rw [if_pos (right_zero h0), if_neg (by simp)]
    rw [hnx] at hN
    have hw : IntKind.i64.wrap ((i : Int) + 1) = ((i + 1 : Nat) : Int) := by rw [wrap64 (by omega) (by omega)]; omega
    rw [G19_10_eq]
    simp only [ofNat_len]
    rw [sel_pos (by rw [wrap64 (n := (a.length : Int) + b.length) (by omega) (by omega), wrap64 (by omega) (by omega)]; omega), hN, ocall_some]
    rcases first_cases _ hX with h | h | h
    · have e : nextA (rest ++ left) = ((rest ++ left, false, ()), [], [], 5) := by unfold nextA; rw [if_neg (by omega), if_neg (by omega)]
      rw [e]
      (try simp only [])
      rw [sel_neg (by decide), sel_pos trivial]
      cases second with
      | false =>
        rw [Bool.not_false, sel_true, sel_pos (by omega), hw]
        refine ih (rest ++ left) got b true (i + 1) n hX h hb ?_ (by simp at hM ⊢; omega) (by omega) (by omega) (by omega)
        have e2 : rest ++ left ++ (b ++ tl b true) = rest ++ (left ++ tl b false) := by simp [tl]
        rw [e2]; exact hinv
      | true =>
        rw [Bool.not_true, sel_false]
        have hfd : feedA (rest ++ (left ++ tl b true)) = ([], rest ++ left, false) := by unfold tl; rw [if_pos rfl, List.append_nil, feedA_zero hX h]
        rw [hfd, List.append_nil] at hinv
        obtain ⟨e1, e2⟩ := hinv
        cases e2
        subst e1
        have hS := G86_is 20000 (rest ++ left, false, ()) (rest ++ left, false, ()) hX hX
        rw [decide_eq_true rfl] at hS
        rw [show (endS (rest ++ left) false) = (rest ++ left, false, ()) from rfl]
        (try simp only [])
        rw [hS, ocall_some, sel_true, G89_is 20000 got got (by omega) (by omega) hA hA, decide_eq_true rfl, ocall_some, sel_true, hE]
        rfl
    · have e : nextA (rest ++ left) = (([], true, ()), [], [], 12) := by unfold nextA; rw [if_neg (by omega), if_pos (by omega)]
      have hfd : feedA (rest ++ (left ++ tl b second)) = ([], [], true) := by
        rw [← List.append_assoc, feedA_neg (bytes_app hX htl) (by rw [first_app_neg hX h]; decide)]
      rw [hfd, List.append_nil] at hinv
      obtain ⟨e1, e2⟩ := hinv
      cases e2
      subst e1
      rw [e]
      (try simp only [])
      rw [sel_neg (by decide), sel_neg (by decide)]
      have hS := G86_is 20000 ([], true, ()) ([], true, ()) (by simp) (by simp)
      rw [decide_eq_true rfl] at hS
      rw [show (endS [] true) = ([], true, ()) from rfl]
      (try simp only [])
      rw [hS, ocall_some, sel_true, G89_is 20000 got got (by omega) (by omega) hA hA, decide_eq_true rfl, ocall_some, sel_true, hE]
      rfl
    · have hgt := first_gt hr hl h0 h
      have hp := first_pos hX h
      have e : nextA (rest ++ left) = (([], false, ()), (rest ++ left).drop (firstF (rest ++ left)).toNat, ((rest ++ left).take (firstF (rest ++ left)).toNat).drop 2, 0) := by unfold nextA; rw [if_pos h]
      have hnf := next_feed hr hl htl h
      have hdl : ((rest ++ left).drop (firstF (rest ++ left)).toNat).length < left.length := by have hp2 := hp.2.1; rw [List.length_append] at hp2; rw [List.length_drop, List.length_append]; omega
      rw [e]
      rw [hnf] at hinv
      have hmb0 := bytes_drop hX (firstF (rest ++ left)).toNat
      generalize (rest ++ left).drop (firstF (rest ++ left)).toNat = more at hinv hdl hmb0
      generalize ((rest ++ left).take (firstF (rest ++ left)).toNat).drop 2 = fr at hinv
      have hmb := hmb0
      (try simp only [])
      rw [sel_pos trivial, sel_pos (by omega), sel_neg (by omega), hw]
      refine ih [] (got ++ [fr]) more second (i + 1) n (by simp) rfl hmb ⟨?_, hinv.2⟩ (by omega) (by omega) (by simp; omega) (by omega)
      rw [List.append_assoc, List.singleton_append]; exact hinv.1
theorem main (r : Reader) (a b : List Int) (hr : ∀ c ∈ r.1, byteOK c) (ha : ∀ c ∈ a, byteOK c) (hb : ∀ c ∈ b, byteOK c) : G19 20000 (r, a, b, ()) = some (true, ()) := by
  have hR := G87_is 20000 r hr
  have hF := G88_is 20000 r (a ++ b) hr (bytes_app ha hb)
  obtain ⟨rest, br0, ⟨⟩⟩ := r
  have hr : ∀ c ∈ rest, byteOK c := hr
  rw [G19_eq, G81_is 20000 (by omega), ocall_some]
  simp only [Bool.not_true, sel_false, ofNat_len]
  by_cases c : (5000 : Int) < a.length
  · rw [sel_pos c]
  by_cases c2 : (5000 : Int) < b.length
  · rw [sel_neg c, sel_pos c2]
  by_cases c3 : (5000 : Int) < rest.length
  · rw [sel_neg c, sel_neg c2, sel_pos c3]
  rw [sel_neg c, sel_neg c2, sel_neg c3, hR (by show rest.length ≤ _; omega), ocall_some]
  cases hrr : rightR (rest, br0, ()) with
  | false => rfl
  | true =>
  simp only [Bool.not_true, sel_false]
  cases br0 with
  | true => rfl
  | false =>
  have h0 : firstF rest = 0 := by
    unfold rightR at hrr
    rw [if_neg (by simp)] at hrr
    exact of_decide_eq_true hrr
  have hrl : rest.length ≤ 2050 := first_le hr h0
  rw [sel_false, sel_pos (by omega), sel_pos (by omega), hF (by show rest.length + _ ≤ _; rw [List.length_append]; omega) (by show rest.length + _ + 10 < _; rw [List.length_append]; omega), ocall_some, sel_pos (by omega)]
  obtain ⟨f1, f2, f3, f4, f5⟩ := feed_bytes _ (rest ++ (a ++ b)) (Nat.le_refl _) (bytes_app hr (bytes_app ha hb))
  have hfr : feedR (rest, false, ()) (a ++ b) = (endS (feedA (rest ++ (a ++ b))).2.1 (feedA (rest ++ (a ++ b))).2.2, (feedA (rest ++ (a ++ b))).1, if (feedA (rest ++ (a ++ b))).2.2 = true then 12 else 0) := by
    unfold feedR endS
    rw [if_pos hrr, if_neg (by simp)]
    by_cases h : (feedA (rest ++ (a ++ b))).2.2 = true
    · simp [h]
    · simp [h]
  rw [hfr]
  have hlp := loop a b hb (by omega) (by omega) (feedA (rest ++ (a ++ b))).1 (feedA (rest ++ (a ++ b))).2.1 (feedA (rest ++ (a ++ b))).2.2 f1 f2 (by simp only [List.length_append] at f4; omega) _ rfl (a.length + b.length + 2) rest [] a false 0 20000 hr h0 ha ⟨rfl, rfl⟩ (by rw [if_neg (by simp)]; omega) (by omega) (by simp) (by omega)
  (try simp only [])
  rw [Int.natCast_zero] at hlp
  rw [hlp, ocall_some, esel_inr]
theorem pure (x0 : Ty.den (.st (.cons (.slice (.int .u8)) (.cons .bool .nil)))) (x1 : Ty.den (.slice (.int .u8))) (x2 : Ty.den (.slice (.int .u8))) (g0 : Ty.Good (.st (.cons (.slice (.int .u8)) (.cons .bool .nil))) x0) (g1 : Ty.Good (.slice (.int .u8)) x1) (g2 : Ty.Good (.slice (.int .u8)) x2) : ∃ k, F19 k (x0, (x1, (x2, PUnit.unit))) = some (true, PUnit.unit) :=
  ⟨20000, main x0 x1 x2 (fun c hc => good_u8 (g0.1.2.2 c hc)) (fun c hc => good_u8 (g1.2.2 c hc)) (fun c hc => good_u8 (g2.2.2 c hc))⟩
end Go.Proofs.YtjgnpmdbkgeakaaDoor.PureLineParts
end
section
set_option linter.unusedVariables false
set_option linter.unusedSimpArgs false
namespace Go.Proofs.YtjgnpmdbkgeakaaDoor
open Go Go.ChangeShapes Go.WideShapes Go.ChangeAt Go.RowKit Th
theorem own : ownKnob Tryd.prog.godebug = none := by kernel_rfl
theorem laidOut : laidOutB Tryd.prog = true := by kernel_rfl
theorem gTypes : Tryd.prog.globalNamed "paydesk/deal.types" = some 0 := by kernel_rfl
theorem tTypes : (Tryd.prog.globals[0]?).map (·.type) = some 229 := by kernel_rfl
theorem mapsRowed' : mapsRowed Tryd.prog = true := by kernel_rfl
theorem stopsHeard' : Tryd.prog.stopsHeard = true := by kernel_rfl
theorem stops' : Tryd.prog.stops = [] := by kernel_rfl
theorem stopKnobs' : Tryd.prog.stopKnobs = [] := by kernel_rfl
theorem plainKeys' : Tryd.prog.plainKeys = Rows.keyRightRow.plainKeys := by kernel_rfl
def ioL : List Char := [Char.ofNat 104, Char.ofNat 97, Char.ofNat 114, Char.ofNat 110, Char.ofNat 101, Char.ofNat 115, Char.ofNat 115, Char.ofNat 32, Char.ofNat 52, Char.ofNat 98, Char.ofNat 55, Char.ofNat 54, Char.ofNat 48, Char.ofNat 97, Char.ofNat 99, Char.ofNat 102, Char.ofNat 49, Char.ofNat 97, Char.ofNat 100, Char.ofNat 99, Char.ofNat 54, Char.ofNat 100, Char.ofNat 51, Char.ofNat 54, Char.ofNat 49, Char.ofNat 50, Char.ofNat 51, Char.ofNat 50, Char.ofNat 57, Char.ofNat 97, Char.ofNat 98, Char.ofNat 51, Char.ofNat 99, Char.ofNat 50, Char.ofNat 48, Char.ofNat 101, Char.ofNat 99, Char.ofNat 48, Char.ofNat 49, Char.ofNat 52, Char.ofNat 53, Char.ofNat 53, Char.ofNat 56, Char.ofNat 101, Char.ofNat 50, Char.ofNat 54, Char.ofNat 55, Char.ofNat 99, Char.ofNat 52, Char.ofNat 57, Char.ofNat 52, Char.ofNat 101, Char.ofNat 54, Char.ofNat 53, Char.ofNat 52, Char.ofNat 48, Char.ofNat 49, Char.ofNat 57, Char.ofNat 99, Char.ofNat 97, Char.ofNat 98, Char.ofNat 49, Char.ofNat 57, Char.ofNat 50, Char.ofNat 49, Char.ofNat 49, Char.ofNat 98, Char.ofNat 102, Char.ofNat 49, Char.ofNat 57, Char.ofNat 54, Char.ofNat 49, Char.ofNat 32, Char.ofNat 99, Char.ofNat 117, Char.ofNat 116, Char.ofNat 32, Char.ofNat 97, Char.ofNat 116, Char.ofNat 32, Char.ofNat 112, Char.ofNat 97, Char.ofNat 121, Char.ofNat 100, Char.ofNat 101, Char.ofNat 115, Char.ofNat 107, Char.ofNat 47, Char.ofNat 112, Char.ofNat 97, Char.ofNat 121, Char.ofNat 100, Char.ofNat 101, Char.ofNat 115, Char.ofNat 107, Char.ofNat 108, Char.ofNat 97, Char.ofNat 119, Char.ofNat 48, Char.ofNat 55, Char.ofNat 46, Char.ofNat 75, Char.ofNat 101, Char.ofNat 121, Char.ofNat 82, Char.ofNat 105, Char.ofNat 103, Char.ofNat 104, Char.ofNat 116, Char.ofNat 32, Char.ofNat 112, Char.ofNat 97, Char.ofNat 121, Char.ofNat 100, Char.ofNat 101, Char.ofNat 115, Char.ofNat 107, Char.ofNat 47, Char.ofNat 112, Char.ofNat 97, Char.ofNat 121, Char.ofNat 100, Char.ofNat 101, Char.ofNat 115, Char.ofNat 107, Char.ofNat 108, Char.ofNat 97, Char.ofNat 119, Char.ofNat 48, Char.ofNat 55, Char.ofNat 46, Char.ofNat 75, Char.ofNat 101, Char.ofNat 121, Char.ofNat 79, Char.ofNat 114, Char.ofNat 100, Char.ofNat 101, Char.ofNat 114, Char.ofNat 32, Char.ofNat 112, Char.ofNat 97, Char.ofNat 121, Char.ofNat 100, Char.ofNat 101, Char.ofNat 115, Char.ofNat 107, Char.ofNat 47, Char.ofNat 112, Char.ofNat 97, Char.ofNat 121, Char.ofNat 100, Char.ofNat 101, Char.ofNat 115, Char.ofNat 107, Char.ofNat 108, Char.ofNat 97, Char.ofNat 119, Char.ofNat 48, Char.ofNat 55, Char.ofNat 46, Char.ofNat 75, Char.ofNat 101, Char.ofNat 121, Char.ofNat 83, Char.ofNat 104, Char.ofNat 97, Char.ofNat 114, Char.ofNat 100, Char.ofNat 115, Char.ofNat 32, Char.ofNat 112, Char.ofNat 97, Char.ofNat 121, Char.ofNat 100, Char.ofNat 101, Char.ofNat 115, Char.ofNat 107, Char.ofNat 47, Char.ofNat 112, Char.ofNat 97, Char.ofNat 121, Char.ofNat 100, Char.ofNat 101, Char.ofNat 115, Char.ofNat 107, Char.ofNat 108, Char.ofNat 97, Char.ofNat 119, Char.ofNat 48, Char.ofNat 54, Char.ofNat 46, Char.ofNat 68, Char.ofNat 101, Char.ofNat 97, Char.ofNat 108, Char.ofNat 82, Char.ofNat 105, Char.ofNat 103, Char.ofNat 104, Char.ofNat 116, Char.ofNat 32, Char.ofNat 112, Char.ofNat 97, Char.ofNat 121, Char.ofNat 100, Char.ofNat 101, Char.ofNat 115, Char.ofNat 107, Char.ofNat 47, Char.ofNat 112, Char.ofNat 97, Char.ofNat 121, Char.ofNat 100, Char.ofNat 101, Char.ofNat 115, Char.ofNat 107, Char.ofNat 108, Char.ofNat 97, Char.ofNat 119, Char.ofNat 48, Char.ofNat 54, Char.ofNat 46, Char.ofNat 68, Char.ofNat 101, Char.ofNat 97, Char.ofNat 108, Char.ofNat 66, Char.ofNat 97, Char.ofNat 99, Char.ofNat 107, Char.ofNat 32, Char.ofNat 112, Char.ofNat 97, Char.ofNat 121, Char.ofNat 100, Char.ofNat 101, Char.ofNat 115, Char.ofNat 107, Char.ofNat 47, Char.ofNat 112, Char.ofNat 97, Char.ofNat 121, Char.ofNat 100, Char.ofNat 101, Char.ofNat 115, Char.ofNat 107, Char.ofNat 108, Char.ofNat 97, Char.ofNat 119, Char.ofNat 49, Char.ofNat 50, Char.ofNat 46, Char.ofNat 67, Char.ofNat 111, Char.ofNat 114, Char.ofNat 101, Char.ofNat 82, Char.ofNat 105, Char.ofNat 103, Char.ofNat 104, Char.ofNat 116, Char.ofNat 32, Char.ofNat 112, Char.ofNat 97, Char.ofNat 121, Char.ofNat 100, Char.ofNat 101, Char.ofNat 115, Char.ofNat 107, Char.ofNat 47, Char.ofNat 112, Char.ofNat 97, Char.ofNat 121, Char.ofNat 100, Char.ofNat 101, Char.ofNat 115, Char.ofNat 107, Char.ofNat 108, Char.ofNat 97, Char.ofNat 119, Char.ofNat 49, Char.ofNat 50, Char.ofNat 46, Char.ofNat 67, Char.ofNat 111, Char.ofNat 114, Char.ofNat 101, Char.ofNat 83, Char.ofNat 116, Char.ofNat 101, Char.ofNat 112, Char.ofNat 115, Char.ofNat 32, Char.ofNat 112, Char.ofNat 97, Char.ofNat 121, Char.ofNat 100, Char.ofNat 101, Char.ofNat 115, Char.ofNat 107, Char.ofNat 47, Char.ofNat 112, Char.ofNat 97, Char.ofNat 121, Char.ofNat 100, Char.ofNat 101, Char.ofNat 115, Char.ofNat 107, Char.ofNat 108, Char.ofNat 97, Char.ofNat 119, Char.ofNat 49, Char.ofNat 50, Char.ofNat 46, Char.ofNat 67, Char.ofNat 111, Char.ofNat 114, Char.ofNat 101, Char.ofNat 79, Char.ofNat 110, Char.ofNat 99, Char.ofNat 101, Char.ofNat 32, Char.ofNat 112, Char.ofNat 97, Char.ofNat 121, Char.ofNat 100, Char.ofNat 101, Char.ofNat 115, Char.ofNat 107, Char.ofNat 47, Char.ofNat 112, Char.ofNat 97, Char.ofNat 121, Char.ofNat 100, Char.ofNat 101, Char.ofNat 115, Char.ofNat 107, Char.ofNat 108, Char.ofNat 97, Char.ofNat 119, Char.ofNat 49, Char.ofNat 50, Char.ofNat 46, Char.ofNat 67, Char.ofNat 111, Char.ofNat 114, Char.ofNat 101, Char.ofNat 82, Char.ofNat 101, Char.ofNat 115, Char.ofNat 116, Char.ofNat 115, Char.ofNat 32, Char.ofNat 112, Char.ofNat 97, Char.ofNat 121, Char.ofNat 100, Char.ofNat 101, Char.ofNat 115, Char.ofNat 107, Char.ofNat 47, Char.ofNat 112, Char.ofNat 97, Char.ofNat 121, Char.ofNat 100, Char.ofNat 101, Char.ofNat 115, Char.ofNat 107, Char.ofNat 108, Char.ofNat 97, Char.ofNat 119, Char.ofNat 49, Char.ofNat 48, Char.ofNat 46, Char.ofNat 83, Char.ofNat 104, Char.ofNat 97, Char.ofNat 114, Char.ofNat 100, Char.ofNat 82, Char.ofNat 105, Char.ofNat 103, Char.ofNat 104, Char.ofNat 116, Char.ofNat 32, Char.ofNat 112, Char.ofNat 97, Char.ofNat 121, Char.ofNat 100, Char.ofNat 101, Char.ofNat 115, Char.ofNat 107, Char.ofNat 47, Char.ofNat 112, Char.ofNat 97, Char.ofNat 121, Char.ofNat 100, Char.ofNat 101, Char.ofNat 115, Char.ofNat 107, Char.ofNat 108, Char.ofNat 97, Char.ofNat 119, Char.ofNat 49, Char.ofNat 48, Char.ofNat 46, Char.ofNat 83, Char.ofNat 104, Char.ofNat 97, Char.ofNat 114, Char.ofNat 100, Char.ofNat 83, Char.ofNat 119, Char.ofNat 97, Char.ofNat 112, Char.ofNat 115, Char.ofNat 32, Char.ofNat 112, Char.ofNat 97, Char.ofNat 121, Char.ofNat 100, Char.ofNat 101, Char.ofNat 115, Char.ofNat 107, Char.ofNat 47, Char.ofNat 112, Char.ofNat 97, Char.ofNat 121, Char.ofNat 100, Char.ofNat 101, Char.ofNat 115, Char.ofNat 107, Char.ofNat 108, Char.ofNat 97, Char.ofNat 119, Char.ofNat 49, Char.ofNat 53, Char.ofNat 46, Char.ofNat 76, Char.ofNat 101, Char.ofNat 100, Char.ofNat 103, Char.ofNat 101, Char.ofNat 114, Char.ofNat 82, Char.ofNat 105, Char.ofNat 103, Char.ofNat 104, Char.ofNat 116, Char.ofNat 32, Char.ofNat 112, Char.ofNat 97, Char.ofNat 121, Char.ofNat 100, Char.ofNat 101, Char.ofNat 115, Char.ofNat 107, Char.ofNat 47, Char.ofNat 112, Char.ofNat 97, Char.ofNat 121, Char.ofNat 100, Char.ofNat 101, Char.ofNat 115, Char.ofNat 107, Char.ofNat 108, Char.ofNat 97, Char.ofNat 119, Char.ofNat 49, Char.ofNat 53, Char.ofNat 46, Char.ofNat 76, Char.ofNat 101, Char.ofNat 100, Char.ofNat 103, Char.ofNat 101, Char.ofNat 114, Char.ofNat 79, Char.ofNat 110, Char.ofNat 99, Char.ofNat 101, Char.ofNat 32, Char.ofNat 112, Char.ofNat 97, Char.ofNat 121, Char.ofNat 100, Char.ofNat 101, Char.ofNat 115, Char.ofNat 107, Char.ofNat 47, Char.ofNat 112, Char.ofNat 97, Char.ofNat 121, Char.ofNat 100, Char.ofNat 101, Char.ofNat 115, Char.ofNat 107, Char.ofNat 108, Char.ofNat 97, Char.ofNat 119, Char.ofNat 49, Char.ofNat 53, Char.ofNat 46, Char.ofNat 76, Char.ofNat 101, Char.ofNat 100, Char.ofNat 103, Char.ofNat 101, Char.ofNat 114, Char.ofNat 84, Char.ofNat 119, Char.ofNat 105, Char.ofNat 99, Char.ofNat 101, Char.ofNat 32, Char.ofNat 112, Char.ofNat 97, Char.ofNat 121, Char.ofNat 100, Char.ofNat 101, Char.ofNat 115, Char.ofNat 107, Char.ofNat 47, Char.ofNat 112, Char.ofNat 97, Char.ofNat 121, Char.ofNat 100, Char.ofNat 101, Char.ofNat 115, Char.ofNat 107, Char.ofNat 108, Char.ofNat 97, Char.ofNat 119, Char.ofNat 48, Char.ofNat 54, Char.ofNat 46, Char.ofNat 68, Char.ofNat 101, Char.ofNat 97, Char.ofNat 108, Char.ofNat 66, Char.ofNat 121, Char.ofNat 116, Char.ofNat 101, Char.ofNat 115, Char.ofNat 32, Char.ofNat 112, Char.ofNat 97, Char.ofNat 121, Char.ofNat 100, Char.ofNat 101, Char.ofNat 115, Char.ofNat 107, Char.ofNat 47, Char.ofNat 112, Char.ofNat 97, Char.ofNat 121, Char.ofNat 100, Char.ofNat 101, Char.ofNat 115, Char.ofNat 107, Char.ofNat 108, Char.ofNat 97, Char.ofNat 119, Char.ofNat 49, Char.ofNat 52, Char.ofNat 46, Char.ofNat 76, Char.ofNat 105, Char.ofNat 110, Char.ofNat 101, Char.ofNat 82, Char.ofNat 105, Char.ofNat 103, Char.ofNat 104, Char.ofNat 116, Char.ofNat 32, Char.ofNat 112, Char.ofNat 97, Char.ofNat 121, Char.ofNat 100, Char.ofNat 101, Char.ofNat 115, Char.ofNat 107, Char.ofNat 47, Char.ofNat 112, Char.ofNat 97, Char.ofNat 121, Char.ofNat 100, Char.ofNat 101, Char.ofNat 115, Char.ofNat 107, Char.ofNat 108, Char.ofNat 97, Char.ofNat 119, Char.ofNat 49, Char.ofNat 52, Char.ofNat 46, Char.ofNat 76, Char.ofNat 105, Char.ofNat 110, Char.ofNat 101, Char.ofNat 80, Char.ofNat 97, Char.ofNat 114, Char.ofNat 116, Char.ofNat 115, Char.ofNat 32, Char.ofNat 112, Char.ofNat 97, Char.ofNat 121, Char.ofNat 100, Char.ofNat 101, Char.ofNat 115, Char.ofNat 107, Char.ofNat 47, Char.ofNat 112, Char.ofNat 97, Char.ofNat 121, Char.ofNat 100, Char.ofNat 101, Char.ofNat 115, Char.ofNat 107, Char.ofNat 108, Char.ofNat 97, Char.ofNat 119, Char.ofNat 49, Char.ofNat 52, Char.ofNat 46, Char.ofNat 76, Char.ofNat 105, Char.ofNat 110, Char.ofNat 101, Char.ofNat 69, Char.ofNat 118, Char.ofNat 101, Char.ofNat 110, Char.ofNat 116, Char.ofNat 115, Char.ofNat 32, Char.ofNat 112, Char.ofNat 97, Char.ofNat 121, Char.ofNat 100, Char.ofNat 101, Char.ofNat 115, Char.ofNat 107, Char.ofNat 47, Char.ofNat 112, Char.ofNat 97, Char.ofNat 121, Char.ofNat 100, Char.ofNat 101, Char.ofNat 115, Char.ofNat 107, Char.ofNat 108, Char.ofNat 97, Char.ofNat 119, Char.ofNat 49, Char.ofNat 55, Char.ofNat 46, Char.ofNat 80, Char.ofNat 111, Char.ofNat 115, Char.ofNat 116, Char.ofNat 66, Char.ofNat 97, Char.ofNat 99, Char.ofNat 107, Char.ofNat 32, Char.ofNat 112, Char.ofNat 97, Char.ofNat 121, Char.ofNat 100, Char.ofNat 101, Char.ofNat 115, Char.ofNat 107, Char.ofNat 47, Char.ofNat 112, Char.ofNat 97, Char.ofNat 121, Char.ofNat 100, Char.ofNat 101, Char.ofNat 115, Char.ofNat 107, Char.ofNat 108, Char.ofNat 97, Char.ofNat 119, Char.ofNat 50, Char.ofNat 49, Char.ofNat 46, Char.ofNat 84, Char.ofNat 114, Char.ofNat 97, Char.ofNat 99, Char.ofNat 101, Char.ofNat 79, Char.ofNat 116, Char.ofNat 104, Char.ofNat 101, Char.ofNat 114, Char.ofNat 115]
theorem io0 : Tryd.prog.initOrder = String.ofList ioL := by kernel_rfl
theorem io : Tryd.prog.initOrder.toList = ioL := by rw [io0, String.toList_ofList]
def ioW : List (List Char) := wordsSigns ioL
theorem ws : wordsSigns Tryd.prog.initOrder.toList = ioW := by rw [io]; rfl
def mainOf (l : List (List Char)) : Option (Bool × List Char) := match l with
  | h :: s :: _ => if !isSumSigns s then none else if h == "harness".toList then some (true, s) else if h == "ownmain".toList then some (false, s) else none
  | _ => none
theorem mainIs_of {P : Program} {W : List (List Char)} (h : wordsSigns P.initOrder.toList = W) : P.mainIs = mainOf W := by
  unfold Program.mainIs; rw [h]; rfl
theorem sha : (ioL.drop 8).take 64 = "4b760acf1adc6d3612329ab3c20ec014558e267c494e654019cab19211bf1961".toList := by
  have : "4b760acf1adc6d3612329ab3c20ec014558e267c494e654019cab19211bf1961" = String.ofList ((ioL.drop 8).take 64) := by kernel_rfl
  rw [this, String.toList_ofList]
theorem main0 : mainOf ioW = some (true, (ioL.drop 8).take 64) := by kernel_rfl
theorem mainIs' : Tryd.prog.mainIs = some (true, "4b760acf1adc6d3612329ab3c20ec014558e267c494e654019cab19211bf1961".toList) := by
  rw [← sha, ← main0]; exact mainIs_of ws
def mayOf (l : List (List Char)) (laysLater bearsReflect : Bool) (fits : List String → Bool) : Bool := match behindMainWord l with
  | c :: rest =>
    ((c == "gc".toList || c == "spec".toList) && (rest.isEmpty || rest.head? == some "stop".toList)) ||
    (c == "carried".toList && rest.take 2 == ["gc".toList, "cut".toList] && !laysLater && !bearsReflect) ||
    ((stripLifts liftWords (c :: rest)).2.head? == some "cut".toList &&
      ((stripLifts liftWords (c :: rest)).1.contains "finals" || !laysLater) && ((stripLifts liftWords (c :: rest)).1.contains "reflectrows" || !bearsReflect) &&
      ((stripLifts liftWords (c :: rest)).1.contains "reflectrows" || !(stripLifts liftWords (c :: rest)).1.contains "leanrows") &&
      fits (stripLifts liftWords (c :: rest)).1)
  | [] => false
theorem may_of {P : Program} {W : List (List Char)} (h : wordsSigns P.initOrder.toList = W) : P.mayEnter = mayOf W P.laysLater P.bearsReflect P.doorFits := by
  unfold Program.mayEnter; rw [h]; rfl
theorem lays : Tryd.prog.laysLater = false := by kernel_rfl
theorem bears : Tryd.prog.bearsReflect = false := by kernel_rfl
theorem strip0 : mayOf ioW false false (fun l => decide (l = [])) = true := by kernel_rfl
theorem fits0 : Tryd.prog.doorFits [] = true := by kernel_rfl
theorem may_mono {W : List (List Char)} {a b : Bool} {f g : List String → Bool} (hfg : ∀ l, f l = true → g l = true) (h : mayOf W a b f = true) : mayOf W a b g = true := by
  unfold mayOf at h ⊢
  split at h
  · simp only [Bool.or_eq_true, Bool.and_eq_true] at h ⊢
    rcases h with (h | h) | h
    · exact .inl (.inl h)
    · exact .inl (.inr h)
    · exact .inr ⟨h.1, hfg _ h.2⟩
  · exact h
theorem mayEnter' : Tryd.prog.mayEnter = true := by
  rw [may_of ws, lays, bears]
  exact may_mono (fun l h => by rw [decide_eq_true_eq] at h; rw [h]; exact fits0) strip0
def liftsOf (l : List (List Char)) : List String :=
  let r := stripLifts liftWords (behindMainWord l)
  if r.2.head? == some "cut".toList then r.1 else []
theorem headLifts_of {P : Program} {W : List (List Char)} (h : wordsSigns P.initOrder.toList = W) : P.headLifts = liftsOf W := by
  unfold Program.headLifts; rw [h]; rfl
theorem headLifts' : Tryd.prog.headLifts = [] := (headLifts_of ws).trans (by kernel_rfl)
def finalOf (l : List (List Char)) (hl : List String) : Bool :=
  let ws := behindMainWord l
  (ws.head? == some "carried".toList && ws.take 3 != ["carried".toList, "gc".toList, "cut".toList]) || hl.contains "finals"
theorem liftsFinal_of {P : Program} {W : List (List Char)} (h : wordsSigns P.initOrder.toList = W) : P.liftsFinal = finalOf W P.headLifts := by
  unfold Program.liftsFinal; rw [h]; rfl
theorem liftsFinal' : Tryd.prog.liftsFinal = Rows.keyRightRow.lifted := by rw [liftsFinal_of ws, headLifts']; kernel_rfl
def makeOf (l : List (List Char)) (hl : List String) : Option Make :=
  match behindMainWord l with
  | c :: rest => if c == "gc".toList || c == "spec".toList then some .whole else if c == "cut".toList || (c == "finals".toList && rest.head? == some "cut".toList) then some .cut else if c == "carried".toList then some .carried else if hl.isEmpty then none else some (.lifted hl)
  | [] => none
theorem make_of {P : Program} {W : List (List Char)} (h : wordsSigns P.initOrder.toList = W) : P.make = makeOf W P.headLifts := by
  unfold Program.make; rw [h]; rfl
theorem make' : Tryd.prog.make = some Rows.keyRightRow.make := by rw [make_of ws, headLifts']; kernel_rfl
abbrev laidL : List (String × DataW Unit) := [("paydesk/deal.types", Rows.laid_paydesk_deal_types)]
theorem door_met (os : Os) (args : Array Value) : laidMetH Tryd.prog laidL ((World.doorLaid Tryd.prog 400 os).forCall (fun _ _ => 0) ⟨#[], args, []⟩).memory :=
  laidMetH_of_parts3 (fuel := 8) (laidMet_of_run' 8 (by kernel_rfl) (by kernel_rfl)) (by kernel_rfl) (by kernel_rfl)
theorem glob_of_laid {W : World} (h : laidMetH Tryd.prog laidL W) : GlobOK W (Old W) := by
  rw [MakeChecks.laidMetH_plain _ _ _ (by kernel_rfl)] at h
  obtain ⟨ps, ⟨g0, t0, cs0, f0, p0, q0, hg0, ht0, hv0, hd0, _, _⟩, _, _⟩ := h
  obtain rfl := Option.some.inj (gTypes.symm.trans hg0)
  obtain rfl := Option.some.inj (tTypes.symm.trans ht0)
  obtain ⟨xs, m1, rfl, hx1, hlen, hn8, hel⟩ := DataW.trod_array Tryd.underlying229 hd0
  have c9 : Tryd.prog.cellsOf 9 = 1 := by kernel_rfl
  have cA : Tryd.prog.cellsOf 229 = 8 := by kernel_rfl
  simp only [Prod.mk.injEq] at hx1
  have hx1 : (DataW.agg [.lit (.string []), .lit (.string [48, 49, 48, 48]), .lit (.string [48, 49, 49, 48]), .lit (.string [48, 52, 48, 48]), .lit (.string [48, 52, 49, 48]), .lit (.string [48, 52, 50, 48]), .lit (.string [48, 52, 50, 49]), .lit (.string [48, 52, 51, 48])] : DataW Unit) = .agg (xs.map (·.1)) := hx1.1
  simp only [DataW.agg.injEq] at hx1
  have key : ∀ (j : Nat) (s : List UInt8), ([[], [48, 49, 48, 48], [48, 49, 49, 48], [48, 52, 48, 48], [48, 52, 49, 48], [48, 52, 50, 48], [48, 52, 50, 49], [48, 52, 51, 48]] : List (List UInt8))[j]? = some s → W.cell? ⟨0, j, none⟩ = some (strV s) := by
    intro j s hs
    have hj : j < 8 := by have := (List.getElem?_eq_some_iff.1 hs).1; simpa using this
    have he := hel j hj
    rw [c9, Nat.mul_one] at he
    have hxj : xs[j]? = some xs[j] := by simp [show j < xs.length by omega]
    rw [hxj] at he
    obtain ⟨b, e1, e2, _⟩ := DataW.trod_string Tryd.underlying9 he
    have hlit : xs[j].1 = .lit (.string s) := by
      have e3 : (xs.map (·.1))[j]? = some xs[j].1 := by rw [List.getElem?_map, hxj]; rfl
      rw [← hx1] at e3
      have h8 : j = 0 ∨ j = 1 ∨ j = 2 ∨ j = 3 ∨ j = 4 ∨ j = 5 ∨ j = 6 ∨ j = 7 := by omega
      rcases h8 with rfl | rfl | rfl | rfl | rfl | rfl | rfl | rfl <;> (simp only [List.getElem?_cons_zero, List.getElem?_cons_succ, Option.some.injEq] at e3 hs; subst hs; exact e3.symm)
    rw [e2] at hlit
    have hb : b.data.toList = s := by simpa using hlit
    have hc : cs0[j]? = some (.string b) := by
      have : (cs0.toList.drop j).take 1 = [.string b] := e1
      have h1 : ((cs0.toList.drop j).take 1)[0]? = some (.string b) := by rw [this]; rfl
      rw [List.getElem?_take_of_lt (by omega), List.getElem?_drop, Nat.add_zero, Array.getElem?_toList] at h1
      exact h1
    rw [World.var?_cell gTypes hv0 j, hc]
    unfold strV
    rw [← hb]
  have h0 : 0 < W.heap.size := by
    have := key 0 [] rfl
    unfold World.cell? at this
    split at this
    · rename_i hb; exact (Array.getElem?_eq_some_iff.1 hb).1
    · cases this
  intro n r hr
  have hn : n = 0 := by
    unfold gtab at hr
    cases hb : Nat.beq n 0 with
    | false => rw [hb] at hr; cases hr
    | true => exact Nat.eq_of_beq_eq_true hb
  subst hn
  have hr : r = ⟨9, .str, [[], [48, 49, 48, 48], [48, 49, 49, 48], [48, 52, 48, 48], [48, 52, 49, 48], [48, 52, 50, 48], [48, 52, 50, 49], [48, 52, 51, 48]]⟩ := (Option.some.inj hr).symm
  subst hr
  refine ⟨_, rfl, fun j x hx => ⟨[strV x], rfl, fun i u hu => ?_, rfl⟩⟩
  have hi : i = 0 := by have := (List.getElem?_eq_some_iff.1 hu).1; simp at this; omega
  subst hi
  have hu : u = strV x := by simpa using hu.symm
  subst hu
  have ha : (⟨0, 0, none⟩ : Addr).add (j * (Ty.size .str) + 0) = ⟨0, j, none⟩ := by
    show (⟨0, 0, none⟩ : Addr).add (j * 1 + 0) = _
    unfold Addr.add; split <;> simp_all
  rw [ha]
  exact ⟨key j x hx, h0⟩
end Go.Proofs.YtjgnpmdbkgeakaaDoor
end
section
set_option linter.unusedVariables false
set_option linter.unusedSimpArgs false
namespace Go.Proofs.YtjgnpmdbkgeakaaDoor.lineParts
open Go.ChangeShapes Go.WideShapes Go.ChangeAt Go.RowKit Go.Proofs.YtjgnpmdbkgeakaaDoor Th G
open Go.ChangeMaps (open_string shut_string)
theorem own : ownKnob Tryd.prog.godebug = none := by kernel_rfl
theorem laidOut : laidOutB Tryd.prog = true := by kernel_rfl
set_option maxRecDepth 100000 in
theorem lifted (os : Os) (started : os.Started) (H : Type) (enc : TypeId × Value → H) :
    ReturnsInHanded {} Tryd.checked os 19 .any (fun w args => (Rows.linePartsSpec.pre enc Tryd.prog Tryd.f19 [] false w args ∧ laidMetH Tryd.prog laidL w) ∧ sizedMet enc Tryd.prog Tryd.f19 (OpenSpec.ofChange Rows.linePartsSpec) false w args) (Rows.linePartsSpec.post enc Tryd.prog Tryd.f19 false true false false) := by
  refine returnsInHanded_of_change_and (C := Tryd.checked) (X := fun w _ => laidMetH Tryd.prog laidL w) (fun _ _ _ hh h => h.of_heap hh) own started (by kernel_rfl) Tryd.func19
    (ChangeSpec.witness_shaped (enc := enc) (C := Tryd.checked) (os := os) (X := fun w _ => laidMetH Tryd.prog laidL w) false (World.doorLaid Tryd.prog 400 os) #[.agg #[.slice none 0 0, .bool false], .slice none 0 0, .slice none 0 0] 8 rfl (World.shaped_of_RefB (by kernel_rfl) (by kernel_rfl)) (by kernel_rfl) (by kernel_rfl) (by kernel_rfl) (door_met os _)) ?_
  intro W base args ds gs before hval0 hW hcnd hsz0 hL _
  have hsz : (DataW.weightsEach Tryd.prog (Tryd.f19.params.toList ++ Rows.linePartsSpec.plain.varTypes Tryd.prog) (ds ++ gs)).all (· ≤ reachBytes) = true := hsz0
  have hval : ∀ (j : Nat) t v, Tryd.f19.params[j]? = some t → args[j]? = some v → Value.okWide Tryd.prog W .any base t v := hval0
  have hW' := hW
  obtain ⟨p, q, hA0, hV, rfl, hfz, hnd⟩ := hW
  have hA : DataW.TrodAll enc Tryd.prog W 0 (fun _ => true) true Tryd.f19.params.toList args.toList ds p := hA0
  rw [Tryd.params19] at hA hval hsz
  obtain ⟨v0, vs0, d0, ds0, p0, q0, hargs, rfl, rfl, h0, r0⟩ := trodAll_cons hA
  obtain ⟨v1, vs1, d1, ds1, p1, q1, rfl, rfl, rfl, h1, r1⟩ := trodAll_cons r0
  obtain ⟨v2, vs2, d2, ds2, p2, q2, rfl, rfl, rfl, h2, r2⟩ := trodAll_cons r1
  obtain ⟨rfl, rfl, rfl⟩ := trodAll_nil r2
  obtain rfl : args = #[v0, v1, v2] := by cases args; simp_all
  obtain ⟨rfl, rfl⟩ := trodVars_none hV
  obtain ⟨x0, a0, g0⟩ := open_arg (T := (.st (.cons (.slice (.int .u8)) (.cons .bool .nil)))) (by kernel_rfl) (hval 0 115 v0 rfl rfl) h0 (weights_of hsz (j := 0) (t := 115) rfl rfl)
  have k0 := h0
  have lt0 : ∀ x ∈ p0, x.block < W.heap.size := by obtain ⟨m, hm⟩ := k0; exact DataW.trod_lt m _ _ _ hm
  obtain ⟨x1, a1, g1⟩ := open_arg (T := (.slice (.int .u8))) (by kernel_rfl) (hval 1 110 v1 rfl rfl) h1 (weights_of hsz (j := 1) (t := 110) rfl rfl)
  have k1 := h1
  have lt1 : ∀ x ∈ p1, x.block < W.heap.size := by obtain ⟨m, hm⟩ := k1; exact DataW.trod_lt m _ _ _ hm
  obtain ⟨x2, a2, g2⟩ := open_arg (T := (.slice (.int .u8))) (by kernel_rfl) (hval 2 110 v2 rfl rfl) h2 (weights_of hsz (j := 2) (t := 110) rfl rfl)
  have k2 := h2
  have lt2 : ∀ x ∈ p2, x.block < W.heap.size := by obtain ⟨m, hm⟩ := k2; exact DataW.trod_lt m _ _ _ hm
  obtain ⟨k, hk⟩ := PureLineParts.pure x0 x1 x2 g0 g1 g2
  clear hA0 hval0 hsz0 hsz
  refine (law_of (fn19 k [Ty.av (.st (.cons (.slice (.int .u8)) (.cons .bool .nil))) x0, Ty.av (.slice (.int .u8)) x1, Ty.av (.slice (.int .u8)) x2] (x0, (x1, (x2, PUnit.unit))) (true, PUnit.unit) rfl rfl hk) (glob_of_laid hL) (us := [v0, v1, v2]) ⟨a0, a1, a2, trivial⟩).mono fun e W' ⟨he, bel⟩ => ?_
  subst he
  exact ⟨_, rfl, _, _, _, [], _, [], hW', trodAll_mk1 (shut_bool Tryd.underlying4 _), (trodAll_cons_mk (Below.trod laidOut (by kernel_rfl) (of_decide_eq_true (by kernel_rfl)) k0 bel lt0) (trodAll_cons_mk (Below.trod laidOut (by kernel_rfl) (of_decide_eq_true (by kernel_rfl)) k1 bel lt1) (trodAll_cons_mk (Below.trod laidOut (by kernel_rfl) (of_decide_eq_true (by kernel_rfl)) k2 bel lt2) trodAll_mk0))), rfl, bel.frame _, fun h => by cases h⟩
theorem inP : Tryd.prog.inPlace 19 = [] := by kernel_rfl
theorem unf : Tryd.prog.unfollowed 19 = true := by kernel_rfl
theorem rec' : Tryd.prog.recurses 19 = true := by kernel_rfl
theorem nam : Tryd.prog.varsNamed 19 = ["paydesk/deal.types"] := by kernel_rfl
theorem lk : false = Tryd.prog.looks [] := by kernel_rfl
theorem gb : false = Rows.linePartsRow.goesBy Tryd.prog := by kernel_rfl
theorem facts : joinedFacts Tryd.prog 19 Tryd.f19 Rows.linePartsSpec Rows.linePartsRow = true := by
  unfold joinedFacts
  rw [laidOut, mapsRowed', stopsHeard', mayEnter', plainKeys', liftsFinal', make', stops', stopKnobs', inP, unf, rec', nam]
  kernel_rfl
theorem over : Rows.linePartsRow.holds Tryd.pinned (OpenSpec.ofChange Rows.linePartsSpec) :=
  OpenClaim.holds_of_wide 19 Tryd.f19 rfl rfl rfl rfl rfl rfl rfl ⟨rfl, rfl, rfl, rfl, rfl⟩ rfl rfl rfl rfl rfl (by kernel_rfl) Tryd.func19 facts
    (of_decide_eq_true (by kernel_rfl)) (by unfold Func.isWrapper; first | (rw [if_pos (by decide +kernel)]; kernel_rfl) | (rw [if_neg (by decide +kernel)]; exact ⟨rfl, rfl⟩))
    (fun os started H enc _ => lifted os started H enc)
end Go.Proofs.YtjgnpmdbkgeakaaDoor.lineParts
namespace Go.Proofs.YtjgnpmdbkgeakaaDoor
theorem lineParts_card_holds : Rows.LinePartsCardSaid :=
  Claim7.holds_tied_plain_at .later [] [.data] true (true, "4b760acf1adc6d3612329ab3c20ec014558e267c494e654019cab19211bf1961") false
    lineParts.over (fun _ h => by cases h) (by kernel_rfl) (fun _ h => by cases h) lineParts_row_tie rfl ⟨rfl, rfl⟩ mainIs' rfl
    (fun f fn hf hfn => by
      obtain rfl : f = 19 := Option.some.inj ((show Tryd.prog.funcNamed "paydesk/paydesklaw14.LineParts" = some 19 by kernel_rfl).symm.trans hf) |>.symm
      obtain rfl : fn = Tryd.f19 := (Option.some.inj (Tryd.func19.symm.trans hfn)).symm
      exact ⟨lineParts.lk, fun j t ht => by
        rw [Tryd.params19] at ht
        have hm : t ∈ [115, 110, 110] := by simpa using Array.mem_of_getElem? ht
        have hall : ([115, 110, 110].all fun u => !Tryd.prog.wantsStandIn u) = true := by kernel_rfl
        exact (show Tryd.prog.wantsStandIn t = false by simpa using List.all_eq_true.1 hall t hm)⟩)
    lineParts.gb
end Go.Proofs.YtjgnpmdbkgeakaaDoor
end
