/- What comes of MessageRight: always true. -/
import Derived.Test.YtjgnpmdbkgeakaaMessage4
import Derived.Test.YtjgnpmdbkgeakaaEqM
set_option linter.unusedVariables false
set_option linter.unusedSimpArgs false
set_option maxRecDepth 100000
namespace Go.Proofs.Ytjgnpmdbkgeakaa.PureMessageRight
open Go Go.Proofs.Ytjgnpmdbkgeakaa Th G Bits

def m0 : Msg := ([48, 52, 51, 48], [(11, [48, 48, 48, 48, 48, 49], ()), (39, [48, 48], ())], ())
def w0 : List Int := [48, 52, 51, 48, 0, 32, 0, 0, 2, 0, 0, 0, 48, 48, 48, 48, 48, 49, 48, 48]
theorem m0_right : msgRight m0 = true := by rfl
theorem m0_write : writeM m0 = w0 := by rfl
theorem readM_len {b : List Int} (hb : ∀ c ∈ b, byteOK c) : (readM b).1.2.1.length ≤ 127 := by
  by_cases h : (readM b).2 = 0
  · exact (write_read_msg hb h).2.2
  · rw [readM_bad h]; exact Nat.zero_le _
theorem sameM (k : Nat) (hk : 1000 < k) (m : Msg) (hm : m.2.1.length ≤ 200) (o : Msg) : G28 k (m, o, ()) = some (decide (m = o), ()) := by
  obtain ⟨s, a, ⟨⟩⟩ := m
  obtain ⟨t, b, ⟨⟩⟩ := o
  exact G28_is k s t a b (by have : a.length ≤ 200 := hm; omega) (by have : a.length ≤ 200 := hm; omega)

theorem awake (k : Nat) (hk : 3000 < k) : G18 k () = some (true, ()) := by
  have hb0 : ∀ c ∈ w0, byteOK c := by rw [← m0_write]; exact writeM_ok m0
  have hb1 : ∀ c ∈ w0 ++ [48], byteOK c := by
    intro c hc
    rcases List.mem_append.1 hc with h | h
    · exact hb0 c h
    · simp only [List.mem_singleton] at h; subst h; exact ⟨by decide, by decide⟩
  have hx : ∀ x ∈ m0.2.1, x.2.1.length ≤ maxLen ∧ x.2.1.length < k := by
    intro x hx
    simp only [m0, List.mem_cons, List.not_mem_nil, or_false] at hx
    rw [maxLen_eq]
    rcases hx with rfl | rfl
    · exact ⟨by decide, by show 6 < k; omega⟩
    · exact ⟨by decide, by show 2 < k; omega⟩
  have h1 := G21_is k (by omega) m0.1 m0.2.1 (by decide) hx
  have hr : msgRight (m0.1, m0.2.1, ()) = true := m0_right
  have hw : writeM (m0.1, m0.2.1, ()) = w0 := m0_write
  rw [if_pos hr, hw] at h1
  have r0 : readM w0 = (m0, 0) := by rw [← m0_write]; exact read_write_msg m0_right
  have r1 : readM (w0 ++ [48]) = (zeroM, 4) := by
    have := read_write_more m0_right [48]
    rw [m0_write, if_neg (by simp)] at this
    exact this
  have h2 := G25_is k (by omega) w0 hb0 (by decide)
  have h3 := G25_is k (by omega) (w0 ++ [48]) hb1 (by decide)
  rw [r0] at h2
  rw [r1] at h3
  have h4 := G23_is k 39 m0.1 m0.2.1 (by decide) (by show 2 < k; omega)
  have h5 := sameM k (by omega) m0 (by decide) m0
  rw [decide_eq_true rfl] at h5
  have h6 := G27_is k (by omega) m0.1 m0.2.1 (by decide) (by show 2 < k; omega) hx
  rw [hr] at h6
  simp only [m0, zeroM] at h1 h2 h3 h4 h5 h6
  rw [G18_eq, h1, ocall_some]
  (try simp only [])
  rw [h2, ocall_some, sel_pos (by decide), sel_pos (by decide), h3, ocall_some]
  (try simp only [])
  rw [h4, ocall_some, h5, h6]
  simp only [ocall_some]
  rfl

theorem main (typ : Txt) (l : List G.Item) (n : Int) (b : List Int) (hb : ∀ c ∈ b, byteOK c) : G6 6000 ((typ, l, ()), n, b, ()) = some (true, ()) := by
  rw [G6_eq, awake 6000 (by omega), ocall_some]
  simp only [Bool.not_true, sel_false]
  obtain ⟨s, hs, hs2⟩ := G19_is 6000 (by omega) typ l
  rw [hs, ocall_some]
  cases s with
  | false => rfl
  | true =>
  simp only [Bool.not_true, sel_false, ofNat_len]
  obtain ⟨hm1, hm2, hm3⟩ := hs2 rfl
  have hl2 : l.length ≤ 200 := hm2
  by_cases hlb : b.length ≤ 5000
  case neg => rw [sel_pos (by omega)]
  rw [sel_neg (by omega)]
  have hx : ∀ x ∈ l, x.2.1.length ≤ maxLen ∧ x.2.1.length < 6000 := fun x hx => by
    have : x.2.1.length ≤ 1200 := hm3 x hx
    rw [maxLen_eq]; omega
  have hR := G20_is 6000 (by omega) typ l (by omega) (by omega) hx
  have hMR := G27_is 6000 (by omega) typ l (by omega) (by omega) hx
  have hW := G21_is 6000 (by omega) typ l (by omega) hx
  have hG := G23_is 6000 n typ l (by omega) (by omega)
  have hG2 := G24_is 6000 n typ l (by omega) (by omega)
  have hRd := G25_is 6000 (by omega) b hb (by omega)
  have hRd2 := G26_is 6000 (by omega) b hb (by omega)
  have hS := sameM 6000 (by omega) (readM b).1 (by have := readM_len hb; omega) (readM b).1
  rw [decide_eq_true rfl] at hS
  have eS : ((((readM b).1.1, (readM b).1.2.1, ()) : Msg)) = (readM b).1 := rfl
  have tail : (ocall (G23 6000 ((typ, l, ()), n, ())) fun r_3 => ocall (G24 6000 ((typ, l, ()), n, ())) fun r_4 => ocall (G25 6000 (b, ())) fun r_5 => ocall (G26 6000 (b, ())) fun r_6 => ocall (G27 6000 ((typ, l, ()), ())) fun r_7 =>
      sel (r_7.1 == msgRight (typ, l, ())) (sel (decide (r_3.1 = r_4.1)) (sel (r_3.2.1 == r_4.2.1) (ocall (G28 6000 ((r_5.1.1, r_5.1.2.1, ()), (r_6.1.1, r_6.1.2.1, ()), ())) fun r => sel r.1 (some (decide (r_5.2.1 = r_6.2.1), ())) (some (false, ()))) (some (false, ()))) (some (false, ()))) (some (false, ()))) = some ((true : Bool), ()) := by
    rw [hG, ocall_some, hG2, ocall_some, hRd, ocall_some, hRd2, ocall_some, hMR, ocall_some]
    simp only [beq_self_eq_true, decide_true, sel_true]
    rw [eS, hS, ocall_some]
    simp
  rw [hR, ocall_some, hW]
  by_cases hr : msgRight (typ, l, ()) = true
  · have hW2 := G22_is 6000 (by omega) typ l (by omega) hr
    rw [hr] at tail
    rw [if_pos hr, hr, ocall_some]
    simp only [sel_true, Bool.not_true, sel_false, decide_true]
    rw [hW2, ocall_some]
    simp only [decide_true, Bool.not_true, sel_false]
    exact tail
  · have hr' := Bool.eq_false_iff.2 hr
    rw [hr'] at tail
    rw [if_neg hr, hr', ocall_some]
    simp only [sel_false, Bool.not_false, sel_true, decide_true, Bool.not_true, List.length_nil, Int.natCast_zero]
    exact tail

theorem pure (x0 : Ty.den (.st (.cons .str (.cons (.slice (.st (.cons (.int .i64) (.cons .str .nil)))) .nil)))) (x1 : Ty.den (.int .i64)) (x2 : Ty.den (.slice (.int .u8))) (g0 : Ty.Good (.st (.cons .str (.cons (.slice (.st (.cons (.int .i64) (.cons .str .nil)))) .nil))) x0) (g1 : Ty.Good (.int .i64) x1) (g2 : Ty.Good (.slice (.int .u8)) x2) : ∃ k, F6 k (x0, (x1, (x2, PUnit.unit))) = some (true, PUnit.unit) :=
  ⟨6000, main x0.1 x0.2.1 x1 x2 fun c hc => good_u8 (g2.2.2 c hc)⟩
end Go.Proofs.Ytjgnpmdbkgeakaa.PureMessageRight
