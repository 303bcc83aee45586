/- What the functions of the fields' laws answer: writing and reading. -/
import Derived.Test.YtjgnpmdbkgeakaaField
set_option linter.unusedVariables false
set_option linter.unusedSimpArgs false
namespace Go.Proofs.Ytjgnpmdbkgeakaa.G
open Go Go.Proofs.Ytjgnpmdbkgeakaa Th

theorem ahead_cases {kind : Int} : ahead kind = 0 ∨ ahead kind = 2 ∨ ahead kind = 3 := by unfold ahead; split <;> (try split) <;> simp
theorem ahead_two {kind : Int} (h : ahead kind = 2) : kind = 3 ∨ kind = 4 := by
  unfold ahead at h; split at h
  · assumption
  · split at h <;> cases h

def writeF (d : Def) (s : List UInt8) : List UInt8 := if ahead d.2.1 = 0 then s else digs s.length (ahead d.2.1) ++ s

theorem put_len {d : Def} (hd : d ∈ D) {n : Nat} (h : sized d n = true) (ha : ahead d.2.1 ≠ 0) : putOK n ((ahead d.2.1 : Nat) : Int) = (digs n (ahead d.2.1), 0) := by
  obtain ⟨_, _, _, _, h1, h2, h3⟩ := D_all d hd
  unfold sized at h
  rw [if_neg ha] at h
  simp only [Bool.and_eq_true, decide_eq_true_eq] at h
  rcases ahead_cases (kind := d.2.1) with e | e | e
  · exact absurd e ha
  · have := h3 (ahead_two e)
    rw [e]
    unfold putOK
    rw [if_neg (by omega), Int.toNat_natCast, if_pos (Nat.div_eq_of_lt (by omega))]
  · rw [e]
    unfold putOK
    rw [if_neg (by omega), Int.toNat_natCast, if_pos (Nat.div_eq_of_lt (by omega))]

theorem rightF_some {n : Int} {d : Def} (hd : defOf n = some d) (s : List UInt8) : rightF n s = (sized d s.length && signs d s) := by unfold rightF; rw [hd]

theorem sized_le {d : Def} (hd : d ∈ D) {n : Nat} (h : sized d n = true) : 1 ≤ n ∧ n ≤ 999 := by
  obtain ⟨_, _, _, _, h1, h2, h3⟩ := D_all d hd
  unfold sized at h
  split at h
  · simp only [decide_eq_true_eq] at h; omega
  · simp only [Bool.and_eq_true, decide_eq_true_eq] at h; omega

theorem G12_is (k : Nat) (hk : 20 < k) (n : Int) (d : Def) (hd : defOf n = some d) (s : List UInt8) (hs : s.length ≤ 140737488351232) (hks : s.length < k) :
    G12 k (n, s, ()) = some (if rightF n s = true then (toBytes (writeF d s), 0, ()) else ([], 1, ())) := by
  obtain ⟨hm, _⟩ := defOf_mem hd
  rw [G12_eq, G10_is k hk, ocall_some]
  have e : defR n = (d, true) := by unfold defR; rw [hd]
  rw [e]
  simp only [Bool.not_true, sel_false]
  rw [G14_is k hk n s (by rw [maxLen_eq]; omega) hks, ocall_some]
  cases hr : rightF n s with
  | false => rfl
  | true =>
    rw [rightF_some hd] at hr
    simp only [Bool.and_eq_true] at hr
    simp only [Bool.not_true, sel_false, G30_is, ocall_some]
    unfold writeF
    by_cases ha : ahead d.2.1 = 0
    · rw [if_pos ha, esel_inr, G88_eq, ocall_some, if_pos ha]
      rfl
    · have hsz := sized_le hm hr.1
      rw [if_neg ha, esel_inl, G86_eq, ocall_some, if_neg ha]
      simp only [ofNat_len]
      rw [sel_pos (by omega), wrapu64 (by omega) (by omega), G31_is k hk s.length _ (by omega), put_len hm hr.1 ha, ocall_some]
      (try simp only [])
      rw [sel_pos (by rw [digs_len]; rcases ahead_cases (kind := d.2.1) with e | e | e <;> omega)]
      rfl

theorem ofBytes_len (b : List Int) : (ofBytes b).length = b.length := by simp [ofBytes]
theorem ofBytes_take (b : List Int) (n : Nat) : ofBytes (b.take n) = (ofBytes b).take n := by simp [ofBytes, List.map_take]
theorem ofBytes_drop (b : List Int) (n : Nat) : ofBytes (b.drop n) = (ofBytes b).drop n := by simp [ofBytes, List.map_drop]

/-- a value's length, by bytes -/
def lenF (d : Def) (b : List UInt8) : Int × Int :=
  if ahead d.2.1 = 0 then (d.2.2.1, 0) else if b.length < ahead d.2.1 then (0, 2)
  else if (getOK (b.take (ahead d.2.1))).2 = 0 ∧ (getOK (b.take (ahead d.2.1))).1 ≠ 0 then
    (if d.2.2.1 < ((getOK (b.take (ahead d.2.1))).1 : Int) then (0, 4) else (((getOK (b.take (ahead d.2.1))).1 : Int), 0)) else (0, 3)

theorem G36_is (k : Nat) (hk : 20 < k) (d : Def) (hm : d ∈ D) (b : List Int) (hb : b.length ≤ 9223372036854775807) : G36 k ((d.1, d.2.1, d.2.2.1, ()), b, ()) = some ((lenF d (ofBytes b)).1, (lenF d (ofBytes b)).2, ()) := by
  obtain ⟨_, _, _, _, h1, h2, h3⟩ := D_all d hm
  rw [G36_eq]
  simp only [G30_is, ocall_some]
  unfold lenF
  by_cases ha : ahead d.2.1 = 0
  · rw [if_pos ha, esel_inr, G88_eq, ocall_some, if_pos ha]
    rfl
  · rw [if_neg ha, esel_inl, G86_eq, ocall_some, if_neg ha, ofBytes_len]
    simp only [ofNat_len]
    rw [sel_neg (by omega)]
    by_cases hl : b.length < ahead d.2.1
    · rw [sel_pos (by omega), if_pos hl]
    · rw [sel_neg (by omega), if_neg hl, sel_pos (by simp only [Int.ofNat_eq_natCast]; omega), sel_pos (by omega), sel_pos (by omega)]
      simp only [Int.toNat_natCast]
      rw [show (Int.ofNat 0).toNat = 0 from rfl, List.drop_zero, ofBytes_take, G52_is k _ hk, ocall_some]
      generalize getOK ((ofBytes b).take (ahead d.2.1)) = g
      obtain ⟨g1, g2⟩ := g
      (try simp only [])
      have w1 : IntKind.u64.wrap d.2.2.1 = d.2.2.1 := wrapu64 (by omega) (by omega)
      simp only [w1]
      by_cases c1 : g2 = 0
      · subst c1
        simp only [decide_true, Bool.not_true, sel_false, true_and]
        by_cases c2 : g1 = 0
        · subst c2
          rw [if_neg (by simp)]
          rfl
        · rw [if_pos c2, sel_neg (by omega)]
          by_cases c3 : d.2.2.1 < (g1 : Int)
          · rw [sel_pos c3, if_pos c3]
          · rw [sel_neg c3, if_neg c3, wrap64 (by omega) (by omega)]
      · simp only [c1, decide_false, Bool.not_false, sel_true, false_and, if_false]

theorem lenF_le {d : Def} (hm : d ∈ D) {b : List UInt8} (h : (lenF d b).2 = 0) : 1 ≤ (lenF d b).1 ∧ (lenF d b).1 ≤ d.2.2.1 := by
  obtain ⟨_, _, _, _, h1, h2, h3⟩ := D_all d hm
  unfold lenF at h ⊢
  split
  · exact ⟨h1, Int.le_refl _⟩
  · rename_i ha
    rw [if_neg ha] at h
    split
    · rename_i hb; rw [if_pos hb] at h; cases h
    · rename_i hb
      rw [if_neg hb] at h
      split
      · rename_i hg
        rw [if_pos hg] at h
        split
        · rename_i hc; rw [if_pos hc] at h; cases h
        · rename_i hc
          have := hg.2
          (try simp only []); omega
      · rename_i hg; rw [if_neg hg] at h; cases h

/-- a value out of bytes -/
def readF (d : Def) (b : List UInt8) : List UInt8 × Int × Int :=
  if (lenF d b).2 = 0 then
    (if (b.length : Int) < (ahead d.2.1 : Int) + (lenF d b).1 then ([], 0, 2)
     else if signs d ((b.take ((ahead d.2.1 : Int) + (lenF d b).1).toNat).drop (ahead d.2.1)) = true then ((b.take ((ahead d.2.1 : Int) + (lenF d b).1).toNat).drop (ahead d.2.1), (ahead d.2.1 : Int) + (lenF d b).1, 0)
     else ([], 0, 3))
  else ([], 0, (lenF d b).2)

theorem G16_is (k : Nat) (hk : 1100 < k) (n : Int) (d : Def) (hd : defOf n = some d) (b : List Int) (hb : b.length ≤ 9223372036854775807) :
    G16 k (n, b, ()) = some ((readF d (ofBytes b)).1, (readF d (ofBytes b)).2.1, (readF d (ofBytes b)).2.2, ()) := by
  obtain ⟨hm, _⟩ := defOf_mem hd
  obtain ⟨_, _, _, _, h1, h2, h3⟩ := D_all d hm
  have ha3 := ahead_cases (kind := d.2.1)
  rw [G16_eq, G10_is k (by omega), ocall_some]
  have e : defR n = (d, true) := by unfold defR; rw [hd]
  rw [e]
  simp only [Bool.not_true, sel_false]
  rw [G36_is k (by omega) d hm b hb, ocall_some]
  unfold readF
  by_cases c0 : (lenF d (ofBytes b)).2 = 0
  · obtain ⟨l1, l2⟩ := lenF_le hm c0
    rw [if_pos c0]
    simp only [c0, decide_true, Bool.not_true, sel_false]
    rw [ofBytes_len]
    have hin : ∀ (a : Int), a = ((ahead d.2.1 : Nat) : Int) →
        (sel (decide (Int.ofNat b.length < IntKind.i64.wrap (a + (lenF d (ofBytes b)).1))) (some (([] : List UInt8), (0 : Int), (2 : Int), ()))
          (sel (decide ((0 : Int) ≤ a)) (sel (decide (a ≤ IntKind.i64.wrap (a + (lenF d (ofBytes b)).1))) (sel (decide (IntKind.i64.wrap (a + (lenF d (ofBytes b)).1) ≤ Int.ofNat b.length))
            (sel (decide (Int.ofNat b.length ≤ Int.ofNat b.length))
              (ocall (G33 k ((d.1, d.2.1, d.2.2.1, ()), ofBytes (List.drop a.toNat (List.take (IntKind.i64.wrap (a + (lenF d (ofBytes b)).1)).toNat b)), ())) fun (r : Bool × Unit) =>
                sel (!r.fst) (some (([] : List UInt8), (0 : Int), (3 : Int), ()))
                  (some (ofBytes (List.drop a.toNat (List.take (IntKind.i64.wrap (a + (lenF d (ofBytes b)).1)).toNat b)), IntKind.i64.wrap (a + (lenF d (ofBytes b)).1), (0 : Int), ())))
              none) none) none) none)) =
        some ((if (b.length : Int) < (ahead d.2.1 : Int) + (lenF d (ofBytes b)).1 then (([], 0, 2) : List UInt8 × Int × Int)
         else if signs d (((ofBytes b).take ((ahead d.2.1 : Int) + (lenF d (ofBytes b)).1).toNat).drop (ahead d.2.1)) = true then (((ofBytes b).take ((ahead d.2.1 : Int) + (lenF d (ofBytes b)).1).toNat).drop (ahead d.2.1), (ahead d.2.1 : Int) + (lenF d (ofBytes b)).1, 0)
         else ([], 0, 3)).1, (if (b.length : Int) < (ahead d.2.1 : Int) + (lenF d (ofBytes b)).1 then (([], 0, 2) : List UInt8 × Int × Int)
         else if signs d (((ofBytes b).take ((ahead d.2.1 : Int) + (lenF d (ofBytes b)).1).toNat).drop (ahead d.2.1)) = true then (((ofBytes b).take ((ahead d.2.1 : Int) + (lenF d (ofBytes b)).1).toNat).drop (ahead d.2.1), (ahead d.2.1 : Int) + (lenF d (ofBytes b)).1, 0)
         else ([], 0, 3)).2.1, (if (b.length : Int) < (ahead d.2.1 : Int) + (lenF d (ofBytes b)).1 then (([], 0, 2) : List UInt8 × Int × Int)
         else if signs d (((ofBytes b).take ((ahead d.2.1 : Int) + (lenF d (ofBytes b)).1).toNat).drop (ahead d.2.1)) = true then (((ofBytes b).take ((ahead d.2.1 : Int) + (lenF d (ofBytes b)).1).toNat).drop (ahead d.2.1), (ahead d.2.1 : Int) + (lenF d (ofBytes b)).1, 0)
         else ([], 0, 3)).2.2, ()) := by
      rintro a rfl
      have w : IntKind.i64.wrap (((ahead d.2.1 : Nat) : Int) + (lenF d (ofBytes b)).1) = ((ahead d.2.1 : Nat) : Int) + (lenF d (ofBytes b)).1 := wrap64 (by omega) (by omega)
      simp only [w, Int.toNat_natCast, ofNat_len, ofBytes_drop, ofBytes_take]
      by_cases c1 : (b.length : Int) < (ahead d.2.1 : Int) + (lenF d (ofBytes b)).1
      · rw [sel_pos c1]; simp only [c1, if_true]
      · rw [sel_neg c1, sel_pos (by omega), sel_pos (by omega), sel_pos (by omega), sel_pos (by omega)]
        rw [G33_is k d _ (by rw [maxLen_eq]; simp; omega) (by simp; omega), ocall_some]
        simp only [c1, if_false]
        cases signs d (((ofBytes b).take ((ahead d.2.1 : Int) + (lenF d (ofBytes b)).1).toNat).drop (ahead d.2.1)) <;> rfl
    rw [G30_is, ocall_some]
    by_cases ha : ahead d.2.1 = 0
    · rw [if_pos ha, esel_inr, G88_eq, ocall_some]
      exact hin 0 (by rw [ha]; rfl)
    · rw [if_neg ha, esel_inl, G86_eq, ocall_some]
      exact hin _ rfl
  · rw [if_neg c0]
    simp only [c0, decide_false, Bool.not_false, sel_true]

end Go.Proofs.Ytjgnpmdbkgeakaa.G
