/- What comes of FieldBack: always true. -/
import Derived.Test.YtjgnpmdbkgeakaaField4
import Derived.Test.YtjgnpmdbkgeakaaPureFieldKnown
set_option linter.unusedVariables false
set_option linter.unusedSimpArgs false
namespace Go.Proofs.Ytjgnpmdbkgeakaa.PureFieldBack
open Go Go.Proofs.Ytjgnpmdbkgeakaa Th G PureFieldKnown

/-- what is read is right, and has just these bytes -/
theorem last (n : Int) (b : List Int) (hb : b.length ≤ 3000) :
    (ocall (G16 5000 (n, b, ())) fun (r : List UInt8 × Int × Int × Unit) =>
      sel (!decide (r.snd.snd.fst = (0 : Int)))
        (sel (decide (r.fst = []))
          (some (decide (r.snd.fst = (0 : Int)), ()))
          (some (false, ())))
        (ocall (G12 5000 (n, r.fst, ()))
          fun (r_4 : List Int × Int × Unit) =>
          sel (decide (r_4.snd.fst = (0 : Int)))
            (ocall (G14 5000 (n, r.fst, ()))
              fun (r_5 : Bool × Unit) =>
              sel r_5.fst
                (sel (decide (r.snd.fst ≤ Int.ofNat b.length))
                  (sel (decide ((0 : Int) < r.snd.fst))
                    (sel (decide (Int.ofNat (0 : Nat) ≤ r.snd.fst))
                      (sel (decide (r.snd.fst ≤ Int.ofNat b.length))
                        (sel (decide (Int.ofNat b.length ≤ Int.ofNat b.length))
                          (some (decide (ofBytes r_4.fst = ofBytes (List.drop (Int.ofNat (0 : Nat)).toNat (List.take r.snd.fst.toNat b))), ()))
                          none)
                        none)
                      none)
                    (some (false, ())))
                  (some (false, ())))
                (some (false, ())))
            (some (false, ())))) = some (true, ()) := by
  cases hd : defOf n with
  | none => rw [G16_none 5000 (by omega) n b hd]; rfl
  | some d =>
    obtain ⟨hm, _⟩ := defOf_mem hd
    rw [G16_is 5000 (by omega) n d hd b (by omega), ocall_some]
    by_cases c : (readF d (ofBytes b)).2.2 = 0
    · obtain ⟨k, k1, k2, k3, k4, k5, k6⟩ := read_back hm _ c
      rw [ofBytes_len] at k3
      have hsz := sized_le hm k4
      have hr : rightF n (readF d (ofBytes b)).1 = true := by rw [rightF_some hd, k4, k5]; rfl
      simp only [c, decide_true, Bool.not_true, sel_false]
      rw [G12_is 5000 (by omega) n d hd _ (by omega) (by omega), G14_is 5000 (by omega) n _ (by rw [maxLen_eq]; omega) (by omega), if_pos hr, ocall_some, ocall_some, hr]
      simp only [decide_true, sel_true, k1, Int.ofNat_eq_natCast]
      rw [sel_pos (by omega), sel_pos (by omega), sel_pos (by omega), sel_pos (by omega), sel_pos (by omega), k6, ofBytes_toBytes]
      simp only [Int.toNat_natCast, List.drop_zero, ofBytes_take, decide_true]
    · obtain ⟨r1, r2⟩ := read_none d _ c
      simp only [c, decide_false, Bool.not_false, sel_true, r1, r2, decide_true]

theorem main (n : Int) (s t : List UInt8) (b : List Int) (cut : Int) (hs : s.length ≤ 140737488351232) (ht : t.length ≤ 140737488351232) (hc : 0 ≤ cut ∧ cut ≤ 65535) : G4 5000 (n, s, t, b, cut, ()) = some (true, ()) := by
  rw [G4_eq, G9_is 5000 (by omega), ocall_some]
  simp only [Bool.not_true, sel_false]
  by_cases c1 : (3000 : Int) < Int.ofNat s.length
  · rw [sel_pos c1]
  rw [sel_neg c1]
  by_cases c2 : (3000 : Int) < Int.ofNat t.length
  · rw [sel_pos c2]
  rw [sel_neg c2]
  by_cases c3 : (3000 : Int) < Int.ofNat b.length
  · rw [sel_pos c3]
  rw [sel_neg c3]
  simp only [Int.ofNat_eq_natCast] at c1 c2 c3
  have hL := last n b (by omega)
  cases hd : defOf n with
  | none =>
    rw [G12_none 5000 (by omega) n s hd, G12_none 5000 (by omega) n t hd, ocall_some, ocall_some]
    rw [show (decide ((([] : List Int), (5 : Int), ()).snd.fst = 0)) = false from rfl, sel_false]
    exact hL
  | some d =>
    obtain ⟨hm, _⟩ := defOf_mem hd
    rw [G12_is 5000 (by omega) n d hd s (by omega) (by omega), G12_is 5000 (by omega) n d hd t (by omega) (by omega), ocall_some, ocall_some]
    cases hr : rightF n s with
    | false =>
      rw [if_neg (by simp), show (decide ((([] : List Int), (1 : Int), ()).snd.fst = 0)) = false from rfl, sel_false]
      exact hL
    | true =>
      have hr' := hr
      rw [rightF_some hd] at hr'
      simp only [Bool.and_eq_true] at hr'
      obtain ⟨q1, q2⟩ := hr'
      have hsz := sized_le hm q1
      have hw := writeF_len d s
      have ha3 := ahead_cases (kind := d.2.1)
      rw [if_pos rfl]
      simp only [decide_true, sel_true, toBytes_len, Int.ofNat_eq_natCast]
      rw [sel_pos (by omega), sel_pos (by omega), sel_pos (by omega)]
      have e1 : ofBytes ((toBytes (writeF d s)).append b) = writeF d s ++ ofBytes b := by
        show ofBytes (toBytes (writeF d s) ++ b) = _
        rw [ofBytes_append, ofBytes_toBytes]
      rw [G16_is 5000 (by omega) n d hd _ (by show (toBytes (writeF d s) ++ b).length ≤ _; rw [List.length_append, toBytes_len]; omega), e1, read_write hm s _ q1 q2, ocall_some]
      have z : ¬ (((writeF d s).length : Int) = 0) := by omega
      simp only [z, decide_false, Bool.not_false, sel_true]
      have w : IntKind.i64.wrap cut = cut := wrap64 (by omega) (by omega)
      have m1 : cut.tmod ((writeF d s).length : Int) = ((cut.toNat % (writeF d s).length : Nat) : Int) := by
        rw [Int.tmod_eq_emod_of_nonneg hc.1]
        conv => lhs; rw [show cut = ((cut.toNat : Nat) : Int) from by omega]
        exact (Int.natCast_emod _ _).symm
      have m2 : cut.toNat % (writeF d s).length < (writeF d s).length := Nat.mod_lt _ (by omega)
      simp only [w, m1]
      generalize cut.toNat % (writeF d s).length = m at m2 ⊢
      rw [sel_pos (by omega), sel_pos (by omega), sel_pos (by omega)]
      have e2 : ofBytes (List.drop ((0 : Nat) : Int).toNat (List.take ((m : Nat) : Int).toNat (toBytes (writeF d s)))) = (writeF d s).take m := by
        rw [Int.toNat_natCast, Int.toNat_natCast, List.drop_zero, ofBytes_take, ofBytes_toBytes]
      rw [G16_is 5000 (by omega) n d hd _ (by rw [List.length_drop, List.length_take, toBytes_len]; omega), e2, ocall_some, read_cut hm s m q1 m2]
      simp only [decide_true, Bool.not_true, sel_false]
      cases hr2 : rightF n t with
      | false =>
        rw [if_neg (by simp), show (decide ((([] : List Int), (1 : Int), ()).snd.fst = 0)) = false from rfl, sel_false]
        exact hL
      | true =>
        have hr' := hr2
        rw [rightF_some hd] at hr'
        simp only [Bool.and_eq_true] at hr'
        obtain ⟨p1, p2⟩ := hr'
        rw [if_pos rfl]
        simp only [decide_true, sel_true, toBytes_len]
        by_cases c4 : s = t
        · rw [decide_eq_true c4, Bool.not_true, sel_false]
          exact hL
        · rw [decide_eq_false c4, Bool.not_false, sel_true]
          by_cases c5 : ((writeF d s).length : Int) ≤ ((writeF d t).length : Int)
          · rw [sel_pos c5, sel_pos (by omega), sel_pos c5, sel_pos (by omega)]
            have e3 : ofBytes (List.drop ((0 : Nat) : Int).toNat (List.take (((writeF d s).length : Nat) : Int).toNat (toBytes (writeF d t)))) = (writeF d t).take (writeF d s).length := by
              rw [Int.toNat_natCast, Int.toNat_natCast, List.drop_zero, ofBytes_take, ofBytes_toBytes]
            rw [e3, ofBytes_toBytes, sel_neg (fun h => c4 (write_apart hm s t q1 q2 p1 p2 h))]
            exact hL
          · rw [sel_neg c5]
            exact hL

theorem pure (x0 : Ty.den (.int .i64)) (x1 : Ty.den .str) (x2 : Ty.den .str) (x3 : Ty.den (.slice (.int .u8))) (x4 : Ty.den (.int .u16)) (g0 : Ty.Good (.int .i64) x0) (g1 : Ty.Good .str x1) (g2 : Ty.Good .str x2) (g3 : Ty.Good (.slice (.int .u8)) x3) (g4 : Ty.Good (.int .u16) x4) : ∃ k, F4 k (x0, (x1, (x2, (x3, (x4, PUnit.unit))))) = some (true, PUnit.unit) :=
  ⟨5000, main x0 x1 x2 x3 x4 g1 g2 (good_u16 g4)⟩
end Go.Proofs.Ytjgnpmdbkgeakaa.PureFieldBack
