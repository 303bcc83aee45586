/- What comes of QueueRight: always true. -/
import Derived.Test.YthglkecbfakmpaaQueue
set_option linter.unusedVariables false
set_option linter.unusedSimpArgs false
namespace Go.Proofs.Ythglkecbfakmpaa.PureQueueRight
open Go Go.Proofs.Ythglkecbfakmpaa Th G

theorem main (q : Int) (l m : Bs) (room : Int) (hq : -9223372036854775808 ≤ q ∧ q ≤ 9223372036854775807) (hl : l.length ≤ maxLen) (hm : m.length ≤ maxLen) : G3 1000 ((q, l, ()), m, room, ()) = some (true, ()) := by
  rw [G3_eq, G16_is 1000 (by omega)]
  simp only [ocall_some, Bool.not_true, sel_false]
  rcases G17_is 1000 (by omega) l hl with h | ⟨h, hll, hlb⟩
  · rw [h]; rfl
  rw [h]
  simp only [ocall_some, Bool.not_true, sel_false]
  rcases G17_is 1000 (by omega) m hm with h' | ⟨h', hml, hmb⟩
  · rw [h']; rfl
  rw [h']
  have e1 : G19 1000 ((room, [], ()), (room, [], ()), ()) = some (true, ()) := G19_is 1000 _ _ (by simp) (by simp)
  have e2 : G19 1000 ((0, [], ()), (0, [], ()), ()) = some (true, ()) := G19_is 1000 _ _ (by simp) (by simp)
  have hmb' : ∀ x ∈ m, x.length ≤ 140737488351232 := fun x hx => by have := hmb x hx; omega
  have hm' : m.length < 1000 := by omega
  -- the queue
  have fin : ∃ (a : (Int × Bs × Unit) × Int × Unit) (b : (Int × Bs × Unit) × List Int × Int × Unit) (n : Int), G21 1000 ((q, l, ()), m, ()) = some a ∧ G22 1000 ((q, l, ()), m, ()) = some a ∧ G23 1000 ((q, l, ()), ()) = some b ∧ G24 1000 ((q, l, ()), ()) = some b ∧
      G19 1000 (a.fst, a.fst, ()) = some (true, ()) ∧ G19 1000 (b.fst, b.fst, ()) = some (true, ()) ∧ G26 1000 ((q, l, ()), ()) = some (n, ()) ∧ n = if qRight q l = true then IntKind.i64.wrap (q - (l.length : Int)) else 0 := by
    cases hR : qRight q l with
    | false =>
      refine ⟨_, _, _, G21_no 1000 q l m hR, G22_no 1000 q l m hR, G23_no 1000 q l hR, G24_no 1000 q l hR, G19_is 1000 _ _ hl (by omega), G19_is 1000 _ _ hl (by omega), G26_no 1000 q l hR, ?_⟩
      simp
    | true =>
      have hR' := hR
      simp only [qRight, Bool.and_eq_true, decide_eq_true_eq] at hR'
      have h5 : IntKind.i64.wrap (q - (l.length : Int)) = q - l.length := wrap64 (by omega) (by omega)
      have h1 := G21_is 1000 q l m hR hm' hm hmb'
      have h2 := G22_is 1000 q l m hR (by omega)
      have h3 : G19 1000 ((if (l.length : Int) + m.length ≤ q then ((q, l ++ m, ()), 0, ()) else ((q, l, ()), 7, ()) : (Int × Bs × Unit) × Int × Unit).fst, (if (l.length : Int) + m.length ≤ q then ((q, l ++ m, ()), 0, ()) else ((q, l, ()), 7, ()) : (Int × Bs × Unit) × Int × Unit).fst, ()) = some (true, ()) := by
        split
        · exact G19_is 1000 _ _ (by rw [List.length_append, maxLen_eq]; omega) (by rw [List.length_append]; omega)
        · exact G19_is 1000 _ _ hl (by omega)
      cases l with
      | nil => exact ⟨_, _, _, h1, h2, G23_nil 1000 q hR, G24_nil 1000 q hR, h3, G19_is 1000 _ _ hl (by simp), G26_is 1000 q _ hR, by rw [if_pos rfl, h5]⟩
      | cons x l =>
        have hx := hlb x (.head _)
        have hll' := hll
        rw [List.length_cons] at hll'
        exact ⟨_, _, _, h1, h2, G23_is 1000 q x l hR (by omega), G24_is 1000 q x l hR, h3, G19_is 1000 _ _ (by rw [maxLen_eq]; omega) (by omega), G26_is 1000 q _ hR, by rw [if_pos rfl, h5]⟩
  obtain ⟨a, b, n, f1, f2, f3, f4, f5, f6, f7, f8⟩ := fin
  have f5' : G19 1000 ((a.fst.fst, a.fst.snd.fst, ()), (a.fst.fst, a.fst.snd.fst, ()), ()) = some (true, ()) := f5
  have f6' : G19 1000 ((b.fst.fst, b.fst.snd.fst, ()), (b.fst.fst, b.fst.snd.fst, ()), ()) = some (true, ()) := f6
  by_cases c1 : 1 ≤ room
  · by_cases c2 : room ≤ 64
    · simp only [ocall_some, Bool.not_true, sel_false, G18_is 1000 room c1 c2, c1, c2, decide_true, sel_true, e1, G20_is, G25_is, f1, f2, f3, f4, f5', f6', f7, f8, ofNat_len]
      cases qRight q l <;> simp
    · simp only [ocall_some, Bool.not_true, sel_false, G18_no 1000 room (by omega), c1, c2, decide_true, decide_false, sel_true, e2, G20_is, G25_is, f1, f2, f3, f4, f5', f6', f7, f8, ofNat_len]
      cases qRight q l <;> simp
  · simp only [ocall_some, Bool.not_true, sel_false, G18_no 1000 room (by omega), c1, decide_true, decide_false, sel_true, e2, G20_is, G25_is, f1, f2, f3, f4, f5', f6', f7, f8, ofNat_len]
    cases qRight q l <;> simp

theorem pure (x0 : Ty.den (.st (.cons (.int .i64) (.cons (.slice (.slice (.int .u8))) .nil)))) (x1 : Ty.den (.slice (.slice (.int .u8)))) (x2 : Ty.den (.int .i64)) (g0 : Ty.Good (.st (.cons (.int .i64) (.cons (.slice (.slice (.int .u8))) .nil))) x0) (g1 : Ty.Good (.slice (.slice (.int .u8))) x1) (g2 : Ty.Good (.int .i64) x2) : ∃ k, F3 k (x0, (x1, (x2, PUnit.unit))) = some (true, PUnit.unit) := by
  obtain ⟨q, l, ⟨⟩⟩ := x0
  exact ⟨1000, main q l x1 x2 (good_i64 g0.1) g0.2.1.1 g1.1⟩
end Go.Proofs.Ythglkecbfakmpaa.PureQueueRight
