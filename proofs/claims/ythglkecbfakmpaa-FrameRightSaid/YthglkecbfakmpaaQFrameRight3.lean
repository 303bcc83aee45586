/- The statement FrameRight, out of what its function answers. No condition. -/
import Derived.Test.YthglkecbfakmpaaQFrameRight2
import Derived.Test.YthglkecbfakmpaaRows
import Derived.Carry
section
set_option maxRecDepth 1000000
set_option linter.unusedVariables false
set_option linter.unusedSimpArgs false
namespace Go.Proofs.Ythglkecbfakmpaa.G
open Go Go.Proofs.Ythglkecbfakmpaa Th
theorem G10_eq (k : Nat) (v0 : List Int) (v1 : Bool) (v2 : List Int) : G10 k ((v0, v1, ()), v2, ()) = ocall (G48 k ()) fun r => sel (!r.1) (some (false, ())) (sel (decide (5000 < Int.ofNat v0.length)) (some (true, ())) (sel (decide (5000 < Int.ofNat
 v2.length)) (some (true, ())) (ocall (G49 k (v2, ())) fun r => sel (decide (Int.ofNat v2.length = 0)) (sel (!decide (r.2.1 = 2)) (some (false, ())) (sel (decide (r.2.1 = 0)) (ocall (G50 k (v2, ())) fun r_1 => sel (!decide (ofBytes r.1 = ofBytes r_1.1)) (some (false,
 ())) (sel (!decide (r.2.1 = 0)) (sel (!decide (Int.ofNat r.1.length = 0)) (some (false, ())) (ocall (G51 k ((v0, v1, ()), v2, ())) fun r => ocall (G52 k ((v0, v1, ()), v2, ())) fun r_2 => ocall (G53 k ((v0, v1, ()), ())) fun r_3 =>
 ocall (G54 k ((v0, v1, ()), ())) fun r_4 => sel (r_3.1 == r_4.1) (ocall (G55 k ((r.1.1, r.1.2.1, ()), (r_2.1.1, r_2.1.2.1, ()), ())) fun r_5 => sel r_5.1 (ocall (G27 k (r.2.1, r_2.2.1, ())) fun r_6 => sel r_6.1 (some (decide (r.2.2.1 = r_2.2.2.1),
 ())) (some (false, ()))) (some (false, ()))) (some (false, ())))) (ocall (G51 k ((v0, v1, ()), v2, ())) fun r => ocall (G52 k ((v0, v1, ()), v2, ())) fun r_2 => ocall (G53 k ((v0, v1, ()), ())) fun r_3 => ocall (G54 k
 ((v0, v1, ()), ())) fun r_4 => sel (r_3.1 == r_4.1) (ocall (G55 k ((r.1.1, r.1.2.1, ()), (r_2.1.1, r_2.1.2.1, ()), ())) fun r_5 => sel r_5.1 (ocall (G27 k (r.2.1, r_2.2.1, ())) fun r_6 => sel r_6.1 (some (decide (r.2.2.1 = r_2.2.2.1), ()))
 (some (false, ()))) (some (false, ()))) (some (false, ()))))) (sel (!decide (r.2.1 = 0)) (sel (!decide (Int.ofNat r.1.length = 0)) (some (false, ())) (ocall (G51 k ((v0, v1, ()), v2, ())) fun r => ocall (G52 k ((v0, v1, ()), v2, ()))
 fun r_1 => ocall (G53 k ((v0, v1, ()), ())) fun r_2 => ocall (G54 k ((v0, v1, ()), ())) fun r_3 => sel (r_2.1 == r_3.1) (ocall (G55 k ((r.1.1, r.1.2.1, ()), (r_1.1.1, r_1.1.2.1, ()), ())) fun r_4 => sel r_4.1 (ocall (G27 k (r.2.1, r_1.2.1,
 ())) fun r_5 => sel r_5.1 (some (decide (r.2.2.1 = r_1.2.2.1), ())) (some (false, ()))) (some (false, ()))) (some (false, ())))) (ocall (G51 k ((v0, v1, ()), v2, ())) fun r => ocall (G52 k ((v0, v1, ()), v2, ())) fun r_1 =>
 ocall (G53 k ((v0, v1, ()), ())) fun r_2 => ocall (G54 k ((v0, v1, ()), ())) fun r_3 => sel (r_2.1 == r_3.1) (ocall (G55 k ((r.1.1, r.1.2.1, ()), (r_1.1.1, r_1.1.2.1, ()), ())) fun r_4 => sel r_4.1 (ocall (G27 k (r.2.1, r_1.2.1, ()))
 fun r_5 => sel r_5.1 (some (decide (r.2.2.1 = r_1.2.2.1), ())) (some (false, ()))) (some (false, ()))) (some (false, ())))))) (sel (decide (2048 < Int.ofNat v2.length)) (sel (!decide (r.2.1 = 4)) (some (false, ())) (sel (decide (r.2.1 = 0)) (ocall (G50 k (v2,
 ())) fun r_1 => sel (!decide (ofBytes r.1 = ofBytes r_1.1)) (some (false, ())) (sel (!decide (r.2.1 = 0)) (sel (!decide (Int.ofNat r.1.length = 0)) (some (false, ())) (ocall (G51 k ((v0, v1, ()), v2, ())) fun r => ocall (G52 k ((v0, v1, ()), v2,
 ())) fun r_2 => ocall (G53 k ((v0, v1, ()), ())) fun r_3 => ocall (G54 k ((v0, v1, ()), ())) fun r_4 => sel (r_3.1 == r_4.1) (ocall (G55 k ((r.1.1, r.1.2.1, ()), (r_2.1.1, r_2.1.2.1, ()), ())) fun r_5 => sel r_5.1 (ocall (G27 k (r.2.1,
 r_2.2.1, ())) fun r_6 => sel r_6.1 (some (decide (r.2.2.1 = r_2.2.2.1), ())) (some (false, ()))) (some (false, ()))) (some (false, ())))) (ocall (G51 k ((v0, v1, ()), v2, ())) fun r => ocall (G52 k ((v0, v1, ()), v2, ())) fun
 r_2 => ocall (G53 k ((v0, v1, ()), ())) fun r_3 => ocall (G54 k ((v0, v1, ()), ())) fun r_4 => sel (r_3.1 == r_4.1) (ocall (G55 k ((r.1.1, r.1.2.1, ()), (r_2.1.1, r_2.1.2.1, ()), ())) fun r_5 => sel r_5.1 (ocall (G27 k (r.2.1, r_2.2.1,
 ())) fun r_6 => sel r_6.1 (some (decide (r.2.2.1 = r_2.2.2.1), ())) (some (false, ()))) (some (false, ()))) (some (false, ()))))) (sel (!decide (r.2.1 = 0)) (sel (!decide (Int.ofNat r.1.length = 0)) (some (false, ())) (ocall (G51 k ((v0, v1,
 ()), v2, ())) fun r => ocall (G52 k ((v0, v1, ()), v2, ())) fun r_1 => ocall (G53 k ((v0, v1, ()), ())) fun r_2 => ocall (G54 k ((v0, v1, ()), ())) fun r_3 => sel (r_2.1 == r_3.1) (ocall (G55 k ((r.1.1, r.1.2.1, ()), (r_1.1.1,
 r_1.1.2.1, ()), ())) fun r_4 => sel r_4.1 (ocall (G27 k (r.2.1, r_1.2.1, ())) fun r_5 => sel r_5.1 (some (decide (r.2.2.1 = r_1.2.2.1), ())) (some (false, ()))) (some (false, ()))) (some (false, ())))) (ocall (G51 k ((v0, v1, ()), v2,
 ())) fun r => ocall (G52 k ((v0, v1, ()), v2, ())) fun r_1 => ocall (G53 k ((v0, v1, ()), ())) fun r_2 => ocall (G54 k ((v0, v1, ()), ())) fun r_3 => sel (r_2.1 == r_3.1) (ocall (G55 k ((r.1.1, r.1.2.1, ()), (r_1.1.1, r_1.1.2.1,
 ()), ())) fun r_4 => sel r_4.1 (ocall (G27 k (r.2.1, r_1.2.1, ())) fun r_5 => sel r_5.1 (some (decide (r.2.2.1 = r_1.2.2.1), ())) (some (false, ()))) (some (false, ()))) (some (false, ())))))) (sel (!decide (r.2.1 = 0)) (some (false,
 ())) (sel (decide (r.2.1 = 0)) (ocall (G50 k (v2, ())) fun r_1 => sel (!decide (ofBytes r.1 = ofBytes r_1.1)) (some (false, ())) (sel (!decide (r.2.1 = 0)) (sel (!decide (Int.ofNat r.1.length = 0)) (some (false, ())) (ocall (G51 k ((v0, v1, ()), v2,
 ())) fun r => ocall (G52 k ((v0, v1, ()), v2, ())) fun r_2 => ocall (G53 k ((v0, v1, ()), ())) fun r_3 => ocall (G54 k ((v0, v1, ()), ())) fun r_4 => sel (r_3.1 == r_4.1) (ocall (G55 k ((r.1.1, r.1.2.1, ()), (r_2.1.1, r_2.1.2.1,
 ()), ())) fun r_5 => sel r_5.1 (ocall (G27 k (r.2.1, r_2.2.1, ())) fun r_6 => sel r_6.1 (some (decide (r.2.2.1 = r_2.2.2.1), ())) (some (false, ()))) (some (false, ()))) (some (false, ())))) (ocall (G51 k ((v0, v1, ()), v2, ()))
 fun r => ocall (G52 k ((v0, v1, ()), v2, ())) fun r_2 => ocall (G53 k ((v0, v1, ()), ())) fun r_3 => ocall (G54 k ((v0, v1, ()), ())) fun r_4 => sel (r_3.1 == r_4.1) (ocall (G55 k ((r.1.1, r.1.2.1, ()), (r_2.1.1, r_2.1.2.1, ()),
 ())) fun r_5 => sel r_5.1 (ocall (G27 k (r.2.1, r_2.2.1, ())) fun r_6 => sel r_6.1 (some (decide (r.2.2.1 = r_2.2.2.1), ())) (some (false, ()))) (some (false, ()))) (some (false, ()))))) (sel (!decide (r.2.1 = 0)) (sel (!decide (Int.ofNat r.1.length =
 0)) (some (false, ())) (ocall (G51 k ((v0, v1, ()), v2, ())) fun r => ocall (G52 k ((v0, v1, ()), v2, ())) fun r_1 => ocall (G53 k ((v0, v1, ()), ())) fun r_2 => ocall (G54 k ((v0, v1, ()), ())) fun r_3 => sel (r_2.1 == r_3.1)
 (ocall (G55 k ((r.1.1, r.1.2.1, ()), (r_1.1.1, r_1.1.2.1, ()), ())) fun r_4 => sel r_4.1 (ocall (G27 k (r.2.1, r_1.2.1, ())) fun r_5 => sel r_5.1 (some (decide (r.2.2.1 = r_1.2.2.1), ())) (some (false, ()))) (some (false, ()))) (some (false,
 ())))) (ocall (G51 k ((v0, v1, ()), v2, ())) fun r => ocall (G52 k ((v0, v1, ()), v2, ())) fun r_1 => ocall (G53 k ((v0, v1, ()), ())) fun r_2 => ocall (G54 k ((v0, v1, ()), ())) fun r_3 => sel (r_2.1 == r_3.1) (ocall (G55 k
 ((r.1.1, r.1.2.1, ()), (r_1.1.1, r_1.1.2.1, ()), ())) fun r_4 => sel r_4.1 (ocall (G27 k (r.2.1, r_1.2.1, ())) fun r_5 => sel r_5.1 (some (decide (r.2.2.1 = r_1.2.2.1), ())) (some (false, ()))) (some (false, ()))) (some (false,
 ())))))))))) := by kernel_rfl
end Go.Proofs.Ythglkecbfakmpaa.G
end
section
set_option linter.unusedVariables false
set_option linter.unusedSimpArgs false
set_option maxRecDepth 100000
namespace Go.Proofs.Ythglkecbfakmpaa.G
open Go Go.Proofs.Ythglkecbfakmpaa Th
def lenSum : List (List Int) → Nat
  | [] => 0
  | x :: l => x.length + lenSum l
theorem lenSum_take (L : List (List Int)) : ∀ i, lenSum (L.take i) ≤ lenSum L := by
  induction L with
  | nil => intro i; simp [lenSum]
  | cons x L ih =>
    intro i
    cases i with
    | zero => exact Nat.zero_le _
    | succ i => have := ih i; simp only [List.take_succ_cons, lenSum]; omega
theorem lenSum_snoc (L : List (List Int)) (x : List Int) : lenSum (L ++ [x]) = lenSum L + x.length := by
  induction L with
  | nil => simp [lenSum]
  | cons y L ih => simp only [List.cons_append, lenSum, ih]; omega
theorem lenSum_flat (L : List (List Int)) : L.flatten.length = lenSum L := by
  induction L with
  | nil => rfl
  | cons y L ih => simp only [List.flatten_cons, List.length_append, lenSum, ih]
theorem G78_3_is (k : Nat) (L : List (List Int)) (hL : L.length ≤ 1000000) (hS : lenSum L ≤ 140737488355328) : ∀ (j i : Nat), i + j = L.length → ∀ n, j < n →
    G78_3 k n (L, ((lenSum (L.take i) : Nat) : Int), L, (L.length : Int), (i : Int), ()) = some (L, ((lenSum L : Nat) : Int), ()) := by
  intro j
  induction j with
  | zero =>
    intro i hij n hn
    obtain ⟨n, rfl⟩ : ∃ m, n = m + 1 := ⟨n - 1, by omega⟩
    rw [G78_3_eq, sel_neg (by omega), List.take_of_length_le (by omega)]
  | succ j ih =>
    intro i hij n hn
    obtain ⟨n, rfl⟩ : ∃ m, n = m + 1 := ⟨n - 1, by omega⟩
    have hlt : i < L.length := by omega
    have hs := lenSum_take L (i + 1)
    have e : lenSum (L.take (i + 1)) = lenSum (L.take i) + L[i].length := by rw [List.take_succ_eq_append_getElem hlt, lenSum_snoc]
    have := ih (i + 1) (by omega) n (by omega)
    rw [G78_3_eq, sel_pos (by omega), sel_pos (by omega), sel_pos (by simp only [ofNat_len]; omega)]
    simp only [Int.toNat_natCast, getD_of hlt, ofNat_len]
    rw [wrap64 (n := (i : Int) + 1) (by omega) (by omega), wrap64 (by omega) (by omega), sel_neg (by omega)]
    rw [e] at this
    rw [Int.natCast_add, Int.natCast_add, Int.natCast_one] at this
    exact this
theorem G78_11_is (k : Nat) (L : List (List Int)) (hL : L.length ≤ 1000000) (hS : lenSum L ≤ 140737488355328) : ∀ (j i : Nat), i + j = L.length → ∀ n, j < n →
    G78_11 k n ((L.take i).flatten, L, (L.length : Int), (i : Int), ()) = some (L.flatten, ()) := by
  intro j
  induction j with
  | zero =>
    intro i hij n hn
    obtain ⟨n, rfl⟩ : ∃ m, n = m + 1 := ⟨n - 1, by omega⟩
    rw [G78_11_eq, sel_neg (by omega), List.take_of_length_le (by omega)]
  | succ j ih =>
    intro i hij n hn
    obtain ⟨n, rfl⟩ : ∃ m, n = m + 1 := ⟨n - 1, by omega⟩
    have hlt : i < L.length := by omega
    have hs := lenSum_take L (i + 1)
    have e : (L.take (i + 1)).flatten = (L.take i).flatten ++ L[i] := by rw [List.take_succ_eq_append_getElem hlt, List.flatten_append]; simp
    have e2 := lenSum_flat (L.take (i + 1))
    rw [e, List.length_append] at e2
    have := ih (i + 1) (by omega) n (by omega)
    rw [G78_11_eq, sel_pos (by omega), sel_pos (by omega), sel_pos (by simp only [ofNat_len]; omega)]
    simp only [Int.toNat_natCast, getD_of hlt]
    rw [sel_pos (by omega), wrap64 (by omega) (by omega)]
    rw [e, Int.natCast_add, Int.natCast_one] at this
    exact this
theorem G78_is (k : Nat) (L : List (List Int)) (hL : L.length ≤ 1000000) (hk : L.length < k) (hS : lenSum L ≤ 140737488355328) : G78 k (L, ()) = some (L.flatten, ()) := by
  have h1 := G78_3_is k L hL hS L.length 0 (by omega) k hk
  have h2 := G78_11_is k L hL hS L.length 0 (by omega) k hk
  simp only [List.take_zero, lenSum, Int.natCast_zero, List.flatten_nil] at h1 h2
  rw [G78_eq]
  simp only [ofNat_len]
  rw [h1, ocall_some]
  (try simp only [])
  rw [G92_eq, sel_pos (by omega), sel_pos (by omega), ocall_some, h2, ocall_some]
end Go.Proofs.Ythglkecbfakmpaa.G
end
section
set_option linter.unusedVariables false
set_option linter.unusedSimpArgs false
set_option maxRecDepth 100000
namespace Go.Proofs.Ythglkecbfakmpaa.G
open Go Go.Proofs.Ythglkecbfakmpaa Th Bits
abbrev Reader := List Int × Bool × Unit
def hdrN (b : List Int) : Int := 256 * b.getD 0 0 + b.getD 1 0
def firstF (b : List Int) : Int := if b.length < 2 then 0 else if hdrN b = 0 ∨ 2048 < hdrN b then -1 else if (b.length : Int) < 2 + hdrN b then 0 else 2 + hdrN b
def rightR (r : Reader) : Bool := if r.2.1 = true then decide (r.1.length = 0) else decide (firstF r.1 = 0)
theorem hdrN_ok {b : List Int} (hb : ∀ c ∈ b, byteOK c) (h2 : 2 ≤ b.length) : ∃ x y : Nat, b.getD 0 0 = x ∧ b.getD 1 0 = y ∧ x < 256 ∧ y < 256 ∧ hdrN b = ((256 * x + y : Nat) : Int) := by
  have h0 : b.getD 0 0 = b[0] := getD_of (show 0 < b.length by omega) 0
  have h1 : b.getD 1 0 = b[1] := getD_of (show 1 < b.length by omega) 0
  have b0 := hb b[0] (List.getElem_mem _)
  have b1 := hb b[1] (List.getElem_mem _)
  unfold byteOK at b0 b1
  obtain ⟨x, hx⟩ := Int.eq_ofNat_of_zero_le b0.1
  obtain ⟨y, hy⟩ := Int.eq_ofNat_of_zero_le b1.1
  refine ⟨x, y, by rw [h0, hx], by rw [h1, hy], by omega, by omega, ?_⟩
  unfold hdrN
  rw [h0, h1, hx, hy]; omega
theorem or_hdr {x y : Nat} (hx : x < 256) (hy : y < 256) : bits .or .i64 (IntKind.i64.wrap (IntKind.i64.wrap (x : Int) * 256)) (IntKind.i64.wrap (y : Int)) = ((256 * x + y : Nat) : Int) := by
  rw [wrap64 (n := (x : Int)) (by omega) (by omega), show (x : Int) * 256 = ((x * 256 : Nat) : Int) by omega, wrap64 (by omega) (by omega), wrap64 (by omega) (by omega)]
  have hb : (x * 256 ||| y) < 2 ^ 64 := Nat.or_lt_two_pow (by omega) (by omega)
  have e : (BitVec.ofInt 64 ((x * 256 : Nat) : Int) ||| BitVec.ofInt 64 (y : Int)).toNat = (x * 256 ||| y) := by
    rw [BitVec.toNat_or, BitVec.ofInt_natCast, BitVec.ofInt_natCast, BitVec.toNat_ofNat, BitVec.toNat_ofNat, Nat.mod_eq_of_lt (by omega), Nat.mod_eq_of_lt (by omega)]
  have h8 := Nat.shiftLeft_add_eq_or_of_lt (b := y) (i := 8) (by omega) x
  rw [Nat.shiftLeft_eq] at h8
  show IntKind.i64.wrap (((BitVec.ofInt 64 ((x * 256 : Nat) : Int) ||| BitVec.ofInt 64 (y : Int)).toNat : Nat) : Int) = _
  rw [e, ← h8, wrap64 (by omega) (by omega)]
  omega
theorem G79_is (k : Nat) (b : List Int) (hb : ∀ c ∈ b, byteOK c) (hl : b.length ≤ 1000000000000) : G79 k (b, ()) = some (firstF b, ()) := by
  rw [G79_eq]
  unfold firstF
  simp only [ofNat_len]
  by_cases c2 : b.length < 2
  · rw [sel_pos (by omega), if_pos c2]
  obtain ⟨x, y, e0, e1, hx, hy, hh⟩ := hdrN_ok hb (by omega)
  have e8 : (2 : Int) ^ min (Int.toNat 8) 64 = 256 := by rfl
  have ez : Int.toNat 0 = 0 := rfl
  have eo : Int.toNat 1 = 1 := rfl
  rw [sel_neg (by omega), if_neg c2, sel_pos (by omega), sel_pos (by omega), hh]
  simp only [e8, ez, eo, e0, e1, or_hdr hx hy]
  rw [wrap64 (n := 2 + _) (by omega) (by omega)]
  by_cases h0 : ((256 * x + y : Nat) : Int) = 0
  · rw [sel_pos h0, sel_pos h0, if_pos (.inl h0)]
  rw [sel_neg h0]
  by_cases h1 : 2048 < ((256 * x + y : Nat) : Int)
  · rw [sel_pos h1, if_pos (.inr h1)]
  rw [sel_neg h1, if_neg (by omega)]
  by_cases h3 : (b.length : Int) < 2 + ((256 * x + y : Nat) : Int)
  · rw [sel_pos h3, if_pos h3]
  · rw [sel_neg h3, if_neg h3]
theorem G53_is (k : Nat) (r : Reader) (hb : ∀ c ∈ r.1, byteOK c) (hl : r.1.length ≤ 1000000000000) : G53 k (r, ()) = some (rightR r, ()) := by
  obtain ⟨rest, br, ⟨⟩⟩ := r
  rw [G53_eq]
  unfold rightR
  cases br with
  | true =>
    rw [sel_true, if_pos rfl]
    simp only [ofNat_len]
    rw [show decide (((rest.length : Nat) : Int) = 0) = decide (rest.length = 0) from decide_eq_decide.2 (by omega)]
  | false => rw [sel_false, if_neg (by simp), G79_is k rest hb hl, ocall_some]
def feedF : Nat → List Int → List (List Int) × List Int × Bool
  | 0, all => ([], all, false)
  | k + 1, all => if 0 < firstF all then ((all.take (firstF all).toNat).drop 2 :: (feedF k (all.drop (firstF all).toNat)).1, (feedF k (all.drop (firstF all).toNat)).2)
    else if firstF all < 0 then ([], [], true) else ([], all, false)
def feedA (all : List Int) : List (List Int) × List Int × Bool := feedF (all.length + 1) all
theorem first_pos {b : List Int} (hb : ∀ c ∈ b, byteOK c) (h : 0 < firstF b) : 3 ≤ (firstF b).toNat ∧ (firstF b).toNat ≤ b.length ∧ firstF b = 2 + hdrN b ∧ 1 ≤ hdrN b ∧ hdrN b ≤ 2048 ∧ 2 ≤ b.length := by
  unfold firstF at h ⊢
  by_cases c2 : b.length < 2
  · rw [if_pos c2] at h; omega
  obtain ⟨x, y, e0, e1, hx, hy, hh⟩ := hdrN_ok hb (by omega)
  rw [if_neg c2] at h ⊢
  by_cases c3 : hdrN b = 0 ∨ 2048 < hdrN b
  · rw [if_pos c3] at h; omega
  rw [if_neg c3] at h ⊢
  by_cases c4 : (b.length : Int) < 2 + hdrN b
  · rw [if_pos c4] at h; omega
  rw [if_neg c4]
  omega
theorem bytes_drop {b : List Int} (hb : ∀ c ∈ b, byteOK c) (n : Nat) : ∀ c ∈ b.drop n, byteOK c := fun c hc => hb c (List.mem_of_mem_drop hc)
theorem bytes_take {b : List Int} (hb : ∀ c ∈ b, byteOK c) (n : Nat) : ∀ c ∈ b.take n, byteOK c := fun c hc => hb c (List.mem_of_mem_take hc)
theorem bytes_app {a b : List Int} (ha : ∀ c ∈ a, byteOK c) (hb : ∀ c ∈ b, byteOK c) : ∀ c ∈ a ++ b, byteOK c := fun c hc => (List.mem_append.1 hc).elim (ha c) (hb c)
theorem feedF_same : ∀ (n : Nat) (all : List Int), (∀ c ∈ all, byteOK c) → all.length ≤ n → ∀ k k', all.length < k → all.length < k' → feedF k all = feedF k' all := by
  intro n
  induction n with
  | zero =>
    intro all hb h k k' hk hk'
    have : all = [] := List.eq_nil_of_length_eq_zero (by omega)
    subst this
    obtain ⟨k, rfl⟩ : ∃ m, k = m + 1 := ⟨k - 1, by omega⟩
    obtain ⟨k', rfl⟩ : ∃ m, k' = m + 1 := ⟨k' - 1, by omega⟩
    rfl
  | succ n ih =>
    intro all hb h k k' hk hk'
    obtain ⟨k, rfl⟩ : ∃ m, k = m + 1 := ⟨k - 1, by omega⟩
    obtain ⟨k', rfl⟩ : ∃ m, k' = m + 1 := ⟨k' - 1, by omega⟩
    by_cases c : 0 < firstF all
    · have hf := first_pos hb c
      have := ih (all.drop (firstF all).toNat) (bytes_drop hb _) (by rw [List.length_drop]; omega) k k' (by rw [List.length_drop]; omega) (by rw [List.length_drop]; omega)
      show (if 0 < firstF all then _ else _) = (if 0 < firstF all then _ else _)
      rw [if_pos c, if_pos c, this]
    · show (if 0 < firstF all then _ else _) = (if 0 < firstF all then _ else _)
      rw [if_neg c, if_neg c]
theorem feedA_eq {all : List Int} (hb : ∀ c ∈ all, byteOK c) : feedA all = if 0 < firstF all then ((all.take (firstF all).toNat).drop 2 :: (feedA (all.drop (firstF all).toNat)).1, (feedA (all.drop (firstF all).toNat)).2)
    else if firstF all < 0 then ([], [], true) else ([], all, false) := by
  unfold feedA
  show (if 0 < firstF all then _ else _) = _
  by_cases c : 0 < firstF all
  · have hf := first_pos hb c
    rw [if_pos c, if_pos c, feedF_same all.length (all.drop (firstF all).toNat) (bytes_drop hb _) (by rw [List.length_drop]; omega) all.length ((all.drop (firstF all).toNat).length + 1) (by rw [List.length_drop]; omega) (by omega)]
  · rw [if_neg c, if_neg c]
theorem feedA_pos {all : List Int} (hb : ∀ c ∈ all, byteOK c) (h : 0 < firstF all) : feedA all = ((all.take (firstF all).toNat).drop 2 :: (feedA (all.drop (firstF all).toNat)).1, (feedA (all.drop (firstF all).toNat)).2) := by rw [feedA_eq hb, if_pos h]
theorem feedA_neg {all : List Int} (hb : ∀ c ∈ all, byteOK c) (h : firstF all < 0) : feedA all = ([], [], true) := by rw [feedA_eq hb, if_neg (by omega), if_pos h]
theorem feedA_zero {all : List Int} (hb : ∀ c ∈ all, byteOK c) (h : firstF all = 0) : feedA all = ([], all, false) := by rw [feedA_eq hb, if_neg (by omega), if_neg (by omega)]
theorem first_cases (b : List Int) (hb : ∀ c ∈ b, byteOK c) : firstF b = 0 ∨ firstF b = -1 ∨ 0 < firstF b := by
  unfold firstF
  by_cases c2 : b.length < 2
  · rw [if_pos c2]; exact .inl rfl
  obtain ⟨x, y, e0, e1, hx, hy, hh⟩ := hdrN_ok hb (by omega)
  rw [if_neg c2]
  split
  · exact .inr (.inl rfl)
  split
  · exact .inl rfl
  · right; right; omega
def feedR (r : Reader) (b : List Int) : Reader × List (List Int) × Int :=
  if rightR r = true then
    (if r.2.1 = true then (r, [], 12)
     else if (feedA (r.1 ++ b)).2.2 = true then (([], true, ()), (feedA (r.1 ++ b)).1, 12) else (((feedA (r.1 ++ b)).2.1, false, ()), (feedA (r.1 ++ b)).1, 0))
  else (r, [], 1)
theorem cloneB (k : Nat) (l : List Int) (hl : l.length ≤ 1000000000000) : G73 k l = some (l, ()) := by
  rw [G73_eq, sel_pos (by omega)]
theorem G51_g0_is (k : Nat) : ∀ (n : Nat) (all : List Int), all.length ≤ n → (∀ c ∈ all, byteOK c) → all.length ≤ 1000000000 → ∀ (out : List (List Int)), out.length + all.length ≤ 1000000000 → ∀ c, n < c →
    G51_g0 k c (all, out, [], false, ()) = some (if (feedA all).2.2 = true then (out ++ (feedA all).1, 12, [], true, ()) else (out ++ (feedA all).1, 0, (feedA all).2.1, false, ())) := by
  intro n
  induction n with
  | zero =>
    intro all hn hb hl out ho c hc
    obtain ⟨c, rfl⟩ : ∃ m, c = m + 1 := ⟨c - 1, by omega⟩
    have : all = [] := List.eq_nil_of_length_eq_zero (by omega)
    subst this
    have h0 : firstF [] = 0 := rfl
    rw [G51_g0_eq, G79_is k [] hb (by omega), ocall_some, feedA_zero hb h0, if_neg (by simp)]
    simp only [h0]
    rw [sel_neg (by omega), sel_neg (by omega), cloneB k [] (by simp), ocall_some, List.append_nil]
  | succ n ih =>
    intro all hn hb hl out ho c hc
    obtain ⟨c, rfl⟩ : ∃ m, c = m + 1 := ⟨c - 1, by omega⟩
    rw [G51_g0_eq, G79_is k all hb (by omega), ocall_some]
    simp only [ofNat_len]
    rcases first_cases all hb with h | h | h
    · rw [feedA_zero hb h, if_neg (by simp), sel_neg (by omega), sel_neg (by omega), cloneB k all (by omega), ocall_some, List.append_nil]
    · rw [feedA_neg hb (by omega), if_pos rfl, sel_neg (by omega), sel_pos (by omega), List.append_nil]
    · have hf := first_pos hb h
      rw [sel_pos h, sel_pos (by omega), sel_pos (Int.le_refl _), sel_pos (by omega), sel_pos (by omega), sel_pos (by omega), sel_pos (by omega), sel_pos (Int.le_refl _), sel_pos (Int.le_refl _), Int.toNat_natCast, List.take_of_length_le (Nat.le_refl all.length),
        ih _ (by rw [List.length_drop]; omega) (bytes_drop hb _) (by rw [List.length_drop]; omega) _ (by rw [List.length_append, List.length_drop]; simp; omega) c (by omega), feedA_pos hb h]
      have e2 : Int.toNat 2 = 2 := rfl
      rw [e2]
      by_cases hq : (feedA (all.drop (firstF all).toNat)).2.2 = true
      · rw [if_pos hq, if_pos hq]; simp
      · rw [if_neg hq, if_neg hq]; simp
theorem G51_is (k : Nat) (r : Reader) (b : List Int) (hr : ∀ c ∈ r.1, byteOK c) (hb : ∀ c ∈ b, byteOK c) (hl : r.1.length + b.length ≤ 100000000) (hk : r.1.length + b.length + 10 < k) : G51 k (r, b, ()) = some ((feedR r b).1, (feedR r b).2.1, (feedR r b).2.2, ()) := by
  have hR := G53_is k r hr (by omega)
  obtain ⟨rest, br, ⟨⟩⟩ := r
  have hl : rest.length + b.length ≤ 100000000 := hl
  have hk : rest.length + b.length + 10 < k := hk
  have hr : ∀ c ∈ rest, byteOK c := hr
  rw [G51_eq, hR, ocall_some]
  unfold feedR
  cases hrr : rightR (rest, br, ()) with
  | false => rw [if_neg (by simp)]; rfl
  | true =>
  rw [if_pos rfl]
  simp only [Bool.not_true, sel_false]
  cases br with
  | true => rw [sel_true, if_pos rfl]
  | false =>
  rw [sel_false, if_neg (by simp), G78_is k [rest, b] (by simp) (by simp; omega) (by simp only [lenSum]; omega), ocall_some]
  have ef : [rest, b].flatten = rest ++ b := by simp
  have hab := bytes_app hr hb
  have hlen : (rest ++ b).length = rest.length + b.length := List.length_append
  simp only [ef, ofNat_len]
  rw [G79_is k (rest ++ b) hab (by omega), ocall_some]
  (try simp only [])
  generalize rest ++ b = all at hab hlen
  rcases first_cases all hab with h | h | h
  · rw [feedA_zero hab h, if_neg (by simp), sel_neg (by omega), sel_neg (by omega), cloneB k all (by omega), ocall_some]
  · rw [feedA_neg hab (by omega), if_pos rfl, sel_neg (by omega), sel_pos (by omega)]
  · have hf := first_pos hab h
    rw [sel_pos h, sel_pos (by omega), sel_pos (Int.le_refl _), sel_pos (by omega), sel_pos (by omega), sel_pos (by omega), sel_pos (Int.le_refl _), sel_pos (Int.le_refl _), Int.toNat_natCast, List.take_of_length_le (Nat.le_refl all.length),
      G51_g0_is k all.length _ (by rw [List.length_drop]; omega) (bytes_drop hab _) (by rw [List.length_drop]; omega) _ (by rw [List.length_drop]; simp; omega) k (by omega), ocall_some, feedA_pos hab h]
    have e2 : Int.toNat 2 = 2 := rfl
    rw [e2]
    by_cases hq : (feedA (all.drop (firstF all).toNat)).2.2 = true
    · rw [if_pos hq, if_pos hq]; simp
    · rw [if_neg hq, if_neg hq]; simp
end Go.Proofs.Ythglkecbfakmpaa.G
end
section
set_option linter.unusedVariables false
set_option linter.unusedSimpArgs false
set_option maxRecDepth 100000
namespace Go.Proofs.Ythglkecbfakmpaa.G
open Go Go.Proofs.Ythglkecbfakmpaa Th Bits
theorem G80_is (k : Nat) (n : Int) : G80 k (n, ()) = some (decide (0 < n ∧ n ≤ 2048), ()) := by
  rw [G80_eq]
  by_cases h : 0 < n
  · rw [sel_pos h, show decide (n < 2049) = decide (0 < n ∧ n ≤ 2048) from decide_eq_decide.2 (by omega)]
  · rw [sel_neg h, decide_eq_false (by omega)]
theorem hdr_wrap {x y : Nat} (hx : x < 256) (hy : y < 256) : IntKind.i64.wrap (IntKind.i64.wrap (256 * IntKind.i64.wrap (x : Int)) + IntKind.i64.wrap (y : Int)) = ((256 * x + y : Nat) : Int) := by
  rw [wrap64 (n := (x : Int)) (by omega) (by omega), wrap64 (n := (y : Int)) (by omega) (by omega), wrap64 (n := 256 * (x : Int)) (by omega) (by omega), wrap64 (by omega) (by omega)]
  omega
theorem G54_is (k : Nat) (r : Reader) (hb : ∀ c ∈ r.1, byteOK c) (hl : r.1.length ≤ 1000000000000) : G54 k (r, ()) = some (rightR r, ()) := by
  obtain ⟨rest, br, ⟨⟩⟩ := r
  have hb : ∀ c ∈ rest, byteOK c := hb
  have hl : rest.length ≤ 1000000000000 := hl
  rw [G54_eq]
  unfold rightR
  simp only [ofNat_len]
  cases br with
  | true =>
    rw [sel_true, if_pos rfl]
    rw [show decide (((rest.length : Nat) : Int) = 0) = decide (rest.length = 0) from decide_eq_decide.2 (by omega)]
  | false =>
  rw [sel_false, if_neg (by simp)]
  (try simp only [])
  unfold firstF
  by_cases c2 : rest.length < 2
  · rw [sel_pos (by omega), if_pos c2]; rfl
  obtain ⟨x, y, e0, e1, hx, hy, hh⟩ := hdrN_ok (b := rest) hb (show 2 ≤ rest.length by omega)
  have ez : Int.toNat 0 = 0 := rfl
  have eo : Int.toNat 1 = 1 := rfl
  rw [sel_neg (by omega), if_neg c2, sel_pos (by omega), sel_pos (by omega), hh]
  simp only [ez, eo, e0, e1, hdr_wrap hx hy]
  rw [G80_is, ocall_some, wrap64 (n := 2 + _) (by omega) (by omega)]
  by_cases h0 : ((256 * x + y : Nat) : Int) = 0 ∨ 2048 < ((256 * x + y : Nat) : Int)
  · rw [if_pos h0, decide_eq_false (show ¬ (0 < ((256 * x + y : Nat) : Int) ∧ ((256 * x + y : Nat) : Int) ≤ 2048) by omega)]; rfl
  · rw [if_neg h0, decide_eq_true (show 0 < ((256 * x + y : Nat) : Int) ∧ ((256 * x + y : Nat) : Int) ≤ 2048 by omega), sel_true]
    by_cases h3 : (rest.length : Int) < 2 + ((256 * x + y : Nat) : Int)
    · rw [if_pos h3, decide_eq_true h3]; rfl
    · rw [if_neg h3, decide_eq_false h3, decide_eq_false (by omega)]
theorem hdrN_app {r : List Int} (h : 2 ≤ r.length) (t : List Int) : hdrN (r ++ t) = hdrN r := by
  match r, h with
  | a :: b :: r, _ => rfl
theorem first_short {r : List Int} (hb : ∀ c ∈ r, byteOK c) (h : firstF r = 0) : r.length < 2 ∨ (2 ≤ r.length ∧ 1 ≤ hdrN r ∧ hdrN r ≤ 2048 ∧ (r.length : Int) < 2 + hdrN r) := by
  unfold firstF at h
  by_cases c2 : r.length < 2
  · exact .inl c2
  obtain ⟨x, y, e0, e1, hx, hy, hh⟩ := hdrN_ok hb (by omega)
  rw [if_neg c2] at h
  by_cases c3 : hdrN r = 0 ∨ 2048 < hdrN r
  · rw [if_pos c3] at h; omega
  rw [if_neg c3] at h
  by_cases c4 : (r.length : Int) < 2 + hdrN r
  · exact .inr ⟨by omega, by omega, by omega, c4⟩
  · rw [if_neg c4] at h; omega
theorem first_le {r : List Int} (hb : ∀ c ∈ r, byteOK c) (h : firstF r = 0) : r.length ≤ 2050 := by
  rcases first_short hb h with h1 | h1 <;> omega
theorem bytes_one {c : Int} (h : byteOK c) : ∀ x ∈ [c], byteOK x := fun x hx => by simp only [List.mem_singleton] at hx; rw [hx]; exact h
theorem snoc_cases {r : List Int} {c : Int} (hb : ∀ c ∈ r, byteOK c) (hc : byteOK c) (h : firstF r = 0) :
    ((r ++ [c]).length < 2 ∧ firstF (r ++ [c]) = 0) ∨
    (2 ≤ (r ++ [c]).length ∧ ¬ (0 < hdrN (r ++ [c]) ∧ hdrN (r ++ [c]) ≤ 2048) ∧ ∀ t, firstF ((r ++ [c]) ++ t) = -1) ∨
    (2 ≤ (r ++ [c]).length ∧ (0 < hdrN (r ++ [c]) ∧ hdrN (r ++ [c]) ≤ 2048) ∧ ((r ++ [c]).length : Int) = 2 + hdrN (r ++ [c]) ∧ ∀ t, firstF ((r ++ [c]) ++ t) = ((r ++ [c]).length : Int)) ∨
    (2 ≤ (r ++ [c]).length ∧ (0 < hdrN (r ++ [c]) ∧ hdrN (r ++ [c]) ≤ 2048) ∧ ((r ++ [c]).length : Int) ≠ 2 + hdrN (r ++ [c]) ∧ firstF (r ++ [c]) = 0) := by
  have hb' := bytes_app hb (bytes_one hc)
  have hlen : (r ++ [c]).length = r.length + 1 := by simp
  by_cases c2 : (r ++ [c]).length < 2
  · refine .inl ⟨c2, ?_⟩
    unfold firstF; rw [if_pos c2]
  obtain ⟨x, y, e0, e1, hx, hy, hh⟩ := hdrN_ok hb' (by omega)
  by_cases c3 : 0 < hdrN (r ++ [c]) ∧ hdrN (r ++ [c]) ≤ 2048
  case neg =>
    refine .inr (.inl ⟨by omega, c3, fun t => ?_⟩)
    unfold firstF
    rw [if_neg (by rw [List.length_append]; omega), hdrN_app (by omega), if_pos (by omega)]
  by_cases c4 : ((r ++ [c]).length : Int) = 2 + hdrN (r ++ [c])
  · refine .inr (.inr (.inl ⟨by omega, c3, c4, fun t => ?_⟩))
    unfold firstF
    rw [if_neg (by rw [List.length_append]; omega), hdrN_app (by omega), if_neg (by omega), if_neg (by rw [List.length_append]; omega)]
    exact c4.symm
  · refine .inr (.inr (.inr ⟨by omega, c3, c4, ?_⟩))
    have hlt : ((r ++ [c]).length : Int) < 2 + hdrN (r ++ [c]) := by
      rcases first_short hb h with h1 | ⟨h1, h2, h3, h4⟩
      · omega
      · have := hdrN_app h1 [c]
        rw [this] at c4 ⊢
        omega
    unfold firstF
    rw [if_neg c2, if_neg (by omega), if_pos hlt]
theorem feedA_nil : feedA [] = ([], [], false) := rfl
theorem G52_8_is (k : Nat) (b : List Int) (hb : ∀ c ∈ b, byteOK c) (hl : b.length ≤ 100000000) (v4 : List Int) (v5 : Bool) : ∀ (j i : Nat), i + j = b.length → ∀ (rest : List Int) (out : List (List Int)), (∀ c ∈ rest, byteOK c) → firstF rest = 0 → out.length ≤ i → ∀ n, j < n →
    G52_8 k n (b, rest, out, (i : Int), v4, v5, ()) = some (if (feedA (rest ++ b.drop i)).2.2 = true then .inr (out ++ (feedA (rest ++ b.drop i)).1, 12, [], true, ()) else .inl ((feedA (rest ++ b.drop i)).2.1, out ++ (feedA (rest ++ b.drop i)).1, v4, v5, ())) := by
  intro j
  induction j with
  | zero =>
    intro i hij rest out hr h0 ho n hn
    obtain ⟨n, rfl⟩ : ∃ m, n = m + 1 := ⟨n - 1, by omega⟩
    rw [G52_8_eq, sel_neg (by simp only [ofNat_len]; omega), List.drop_eq_nil_of_le (by omega), List.append_nil, feedA_zero hr h0, if_neg (by simp), List.append_nil]
  | succ j ih =>
    intro i hij rest out hr h0 ho n hn
    obtain ⟨n, rfl⟩ : ∃ m, n = m + 1 := ⟨n - 1, by omega⟩
    have hlt : i < b.length := by omega
    have hc := hb b[i] (List.getElem_mem _)
    have hrl : rest.length ≤ 2050 := first_le hr h0
    have hbd := bytes_drop hb (i + 1)
    have hall : rest ++ b.drop i = (rest ++ [b[i]]) ++ b.drop (i + 1) := by rw [List.drop_eq_getElem_cons hlt]; simp
    have next := ih (i + 1) (by omega)
    rw [Int.natCast_add, Int.natCast_one] at next
    rw [G52_8_eq, sel_pos (by simp only [ofNat_len]; omega), sel_pos (by omega), sel_pos (by simp only [ofNat_len]; omega)]
    simp only [Int.toNat_natCast, getD_of hlt]
    rw [wrap64 (n := (i : Int) + 1) (by omega) (by omega), sel_pos (by omega), hall]
    have hb' := bytes_app hr (bytes_one hc)
    have hcs := snoc_cases hr hc h0
    have hlen : (rest ++ [b[i]]).length = rest.length + 1 := by simp
    generalize rest ++ [b[i]] = r' at hb' hcs hlen
    simp only [ofNat_len]
    rcases hcs with ⟨c1, c2⟩ | ⟨c1, c2, c3⟩ | ⟨c1, c2, c3, c4⟩ | ⟨c1, c2, c3, c4⟩
    · rw [sel_pos (by omega), next r' out hb' c2 (by omega) n (by omega)]
    all_goals
      obtain ⟨x, y, e0, e1, hx, hy, hh⟩ := hdrN_ok hb' c1
      have ez : Int.toNat 0 = 0 := rfl
      have eo : Int.toNat 1 = 1 := rfl
      rw [sel_neg (by omega), sel_pos (by omega), sel_pos (by omega), sel_pos (by omega), sel_pos (by omega)]
      simp only [ez, eo, e0, e1, hdr_wrap hx hy]
      rw [← hh, G80_is, ocall_some]
    · rw [decide_eq_false c2, Bool.not_false, sel_true, feedA_neg (bytes_app hb' hbd) (by rw [c3]; decide), if_pos rfl, List.append_nil]
    · rw [decide_eq_true c2, Bool.not_true, sel_false, wrap64 (by omega) (by omega), sel_pos c3, sel_pos (by omega), sel_pos (Int.le_refl _), sel_pos (Int.le_refl _), sel_pos (by omega)]
      have hpos : 0 < firstF (r' ++ b.drop (i + 1)) := by rw [c4]; omega
      have hf := feedA_pos (bytes_app hb' hbd) hpos
      rw [c4, Int.toNat_natCast, List.take_left, List.drop_left] at hf
      have e2 : Int.toNat 2 = 2 := rfl
      have hn := next [] (out ++ [r'.drop 2]) (fun c hc => absurd hc (by simp)) rfl (by simp; omega) n (by omega)
      rw [List.nil_append] at hn
      rw [Int.toNat_natCast, List.take_length, e2, hn, hf]
      by_cases hq : (feedA (b.drop (i + 1))).2.2 = true
      · rw [if_pos hq, if_pos hq]; simp
      · rw [if_neg hq, if_neg hq]; simp
    · rw [decide_eq_true c2, Bool.not_true, sel_false, wrap64 (by omega) (by omega), sel_neg c3, next r' out hb' c4 (by omega) n (by omega)]
theorem G52_is (k : Nat) (r : Reader) (b : List Int) (hr : ∀ c ∈ r.1, byteOK c) (hb : ∀ c ∈ b, byteOK c) (hl : b.length ≤ 100000000) (hl2 : r.1.length ≤ 100000000) (hk : b.length < k) : G52 k (r, b, ()) = some ((feedR r b).1, (feedR r b).2.1, (feedR r b).2.2, ()) := by
  have hR := G54_is k r hr (by omega)
  obtain ⟨rest, br, ⟨⟩⟩ := r
  have hr : ∀ c ∈ rest, byteOK c := hr
  have hl2 : rest.length ≤ 100000000 := hl2
  rw [G52_eq, hR, ocall_some]
  unfold feedR
  cases hrr : rightR (rest, br, ()) with
  | false => rw [if_neg (by simp)]; rfl
  | true =>
  rw [if_pos rfl]
  simp only [Bool.not_true, sel_false]
  cases br with
  | true => rw [sel_true, if_pos rfl]
  | false =>
  have h0 : firstF rest = 0 := by
    unfold rightR at hrr
    rw [if_neg (by simp)] at hrr
    exact of_decide_eq_true hrr
  have hrl : rest.length ≤ 2050 := first_le hr h0
  have h8 := G52_8_is k b hb hl [] false b.length 0 (by omega) rest [] hr h0 (by simp) k hk
  rw [List.drop_zero, Int.natCast_zero, List.nil_append] at h8
  rw [sel_false, if_neg (by simp), sel_pos (by omega), h8, ocall_some]
  by_cases hq : (feedA (rest ++ b)).2.2 = true
  · rw [if_pos hq, esel_inr, if_pos hq]
  · rw [if_neg hq, esel_inl, if_neg hq]
theorem toBytes_ofB : ∀ (b : List Int), (∀ c ∈ b, byteOK c) → toBytes (ofBytes b) = b := by
  intro b
  induction b with
  | nil => intro _; rfl
  | cons c b ih =>
    intro h
    have h1 := h c (List.mem_cons_self ..)
    have h2 := ih fun c hc => h c (List.mem_cons_of_mem _ hc)
    unfold byteOK at h1
    simp only [ofBytes, toBytes, List.map_cons, List.map_map] at h2 ⊢
    rw [h2]
    congr 1
    simp
    omega
theorem ofBytes_inj {a b : List Int} (ha : ∀ c ∈ a, byteOK c) (hb : ∀ c ∈ b, byteOK c) : decide (ofBytes a = ofBytes b) = decide (a = b) := by
  refine decide_eq_decide.2 ⟨fun h => ?_, fun h => by rw [h]⟩
  rw [← toBytes_ofB a ha, h, toBytes_ofB b hb]
theorem G55_is (k : Nat) (a b : Reader) (ha : ∀ c ∈ a.1, byteOK c) (hb : ∀ c ∈ b.1, byteOK c) : G55 k (a, b, ()) = some (decide (a = b), ()) := by
  obtain ⟨a1, a2, ⟨⟩⟩ := a
  obtain ⟨b1, b2, ⟨⟩⟩ := b
  rw [G55_eq, ofBytes_inj ha hb]
  by_cases c1 : a1 = b1 <;> cases a2 <;> cases b2 <;> simp [c1]
theorem G27_4_is (k : Nat) (a b : List (List Int)) (hab : a.length = b.length) (hl : a.length ≤ 1000000000) (ha : ∀ x ∈ a, ∀ c ∈ x, byteOK c) (hb : ∀ x ∈ b, ∀ c ∈ x, byteOK c) : ∀ (j i : Nat), i + j = a.length → ∀ n, j < n →
    G27_4 k n (a, b, (i : Int), ()) = some (sel (decide (a.drop i = b.drop i)) (.inl ()) (.inr (false, ()))) := by
  intro j
  induction j with
  | zero =>
    intro i hij n hn
    obtain ⟨n, rfl⟩ : ∃ m, n = m + 1 := ⟨n - 1, by omega⟩
    rw [G27_4_eq, sel_neg (by simp only [ofNat_len]; omega), List.drop_eq_nil_of_le (by omega), List.drop_eq_nil_of_le (by omega)]
    rfl
  | succ j ih =>
    intro i hij n hn
    obtain ⟨n, rfl⟩ : ∃ m, n = m + 1 := ⟨n - 1, by omega⟩
    have hlt : i < a.length := by omega
    have hlt' : i < b.length := by omega
    rw [G27_4_eq]
    simp only [ofNat_len, Int.toNat_natCast, getD_of hlt, getD_of hlt']
    rw [sel_pos (by omega), sel_pos (by omega), sel_pos (by omega), sel_pos (by omega), sel_pos (by omega), ofBytes_inj (ha _ (List.getElem_mem _)) (hb _ (List.getElem_mem _)), List.drop_eq_getElem_cons hlt, List.drop_eq_getElem_cons hlt', wrap64 (by omega) (by omega)]
    simp only [List.cons.injEq]
    by_cases c : a[i] = b[i]
    · rw [decide_eq_true c, Bool.not_true, sel_false]
      have := ih (i + 1) (by omega) n (by omega)
      simp only [Int.natCast_add, Int.natCast_one] at this
      rw [this]
      have e : decide (a[i] = b[i] ∧ a.drop (i + 1) = b.drop (i + 1)) = decide (a.drop (i + 1) = b.drop (i + 1)) := decide_eq_decide.2 ⟨fun h => h.2, fun h => ⟨c, h⟩⟩
      rw [e]
    · rw [decide_eq_false c, Bool.not_false, sel_true, decide_eq_false (fun h => c h.1)]; rfl
theorem G27_is (k : Nat) (a b : List (List Int)) (hl : a.length ≤ 1000000000) (hk : a.length < k) (ha : ∀ x ∈ a, ∀ c ∈ x, byteOK c) (hb : ∀ x ∈ b, ∀ c ∈ x, byteOK c) : G27 k (a, b, ()) = some (decide (a = b), ()) := by
  rw [G27_eq]
  simp only [ofNat_len]
  by_cases h2 : a.length = b.length
  case neg =>
    rw [decide_eq_false (show ¬ (a.length : Int) = (b.length : Int) by omega), Bool.not_false, sel_true, decide_eq_false (fun e => h2 (by rw [e]))]
  rw [decide_eq_true (show (a.length : Int) = (b.length : Int) by omega), Bool.not_true, sel_false]
  have := G27_4_is k a b h2 hl ha hb a.length 0 (by omega) k hk
  simp only [List.drop_zero, Int.natCast_zero] at this
  rw [this, ocall_some]
  cases decide (a = b) <;> rfl
theorem feed_bytes : ∀ (n : Nat) (all : List Int), all.length ≤ n → (∀ c ∈ all, byteOK c) → (∀ x ∈ (feedA all).1, ∀ c ∈ x, byteOK c) ∧ (∀ c ∈ (feedA all).2.1, byteOK c) ∧ firstF (feedA all).2.1 = 0 ∧ (feedA all).1.length ≤ all.length ∧ (feedA all).2.1.length ≤ all.length := by
  intro n
  induction n with
  | zero =>
    intro all hn hb
    have : all = [] := List.eq_nil_of_length_eq_zero (by omega)
    subst this
    exact ⟨fun x hx => absurd hx (by simp [feedA_nil]), fun x hx => absurd hx (by simp [feedA_nil]), rfl, Nat.zero_le _, Nat.zero_le _⟩
  | succ n ih =>
    intro all hn hb
    rcases first_cases all hb with h | h | h
    · rw [feedA_zero hb h]; exact ⟨fun x hx => absurd hx (by simp), hb, h, Nat.zero_le _, Nat.le_refl _⟩
    · rw [feedA_neg hb (by omega)]; exact ⟨fun x hx => absurd hx (by simp), fun x hx => absurd hx (by simp), rfl, Nat.zero_le _, Nat.zero_le _⟩
    · have hf := first_pos hb h
      rw [feedA_pos hb h]
      obtain ⟨i1, i2, i3, i4, i5⟩ := ih (all.drop (firstF all).toNat) (by rw [List.length_drop]; omega) (bytes_drop hb _)
      rw [List.length_drop] at i4 i5
      refine ⟨fun x hx => ?_, i2, i3, by simp only [List.length_cons]; omega, by (try simp only []); omega⟩
      rcases List.mem_cons.1 hx with rfl | hx
      · exact bytes_drop (bytes_take hb _) _
      · exact i1 x hx
end Go.Proofs.Ythglkecbfakmpaa.G
end
section
set_option linter.unusedVariables false
set_option linter.unusedSimpArgs false
set_option maxRecDepth 100000
namespace Go.Proofs.Ythglkecbfakmpaa.G
open Go Go.Proofs.Ythglkecbfakmpaa Th Bits
theorem u8mod (w : Nat) : IntKind.u8.wrap ((w : Int).tmod 256) = ((w % 256 : Nat) : Int) := by
  rw [show (256 : Int) = ((256 : Nat) : Int) from rfl, ← Int.ofNat_tmod]
  unfold IntKind.wrap
  simp only [IntKind.bits, IntKind.signed]
  simp
end Go.Proofs.Ythglkecbfakmpaa.G
end
section
set_option linter.unusedVariables false
set_option linter.unusedSimpArgs false
set_option maxRecDepth 100000
namespace Go.Proofs.Ythglkecbfakmpaa.G
open Go Go.Proofs.Ythglkecbfakmpaa Th Bits
def frameW (b : List Int) : List Int := ((b.length / 256 % 256 : Nat) : Int) :: ((b.length % 256 : Nat) : Int) :: b
def putW (b : List Int) : List Int × Int := if b.length = 0 then ([], 2) else if 2048 < b.length then ([], 4) else (frameW b, 0)
theorem G49_is (k : Nat) (b : List Int) : G49 k (b, ()) = some ((putW b).1, (putW b).2, ()) := by
  rw [G49_eq]
  unfold putW
  by_cases h : b.length = 0
  · rw [sel_pos h, if_pos h]
  · rw [sel_neg h, if_neg h]
    by_cases h2 : 2048 < b.length
    · rw [sel_pos h2, if_pos h2]
    · rw [sel_neg h2, if_neg h2]; rfl
theorem G50_is (k : Nat) (b : List Int) (hl : b.length ≤ 2048) : G50 k (b, ()) = some (frameW b, ()) := by
  rw [G50_eq]
  simp only [ofNat_len]
  have ed : (b.length : Int).tdiv 256 = ((b.length / 256 : Nat) : Int) := rfl
  have e1 : IntKind.u8.wrap (IntKind.i64.wrap ((b.length : Int).tdiv 256)) = ((b.length / 256 % 256 : Nat) : Int) := by
    rw [ed, wrap64 (by omega) (by omega)]
    unfold IntKind.wrap
    simp only [IntKind.bits, IntKind.signed]
    simp
  have e2 : IntKind.u8.wrap ((b.length : Int).tmod 256) = ((b.length % 256 : Nat) : Int) := u8mod _
  rw [e1, e2, sel_pos (by omega)]
  rfl
theorem feedR_bytes {r : Reader} {b : List Int} (hr : ∀ c ∈ r.1, byteOK c) (hb : ∀ c ∈ b, byteOK c) : (∀ c ∈ (feedR r b).1.1, byteOK c) ∧ (∀ x ∈ (feedR r b).2.1, ∀ c ∈ x, byteOK c) ∧ (feedR r b).2.1.length ≤ r.1.length + b.length ∧ (feedR r b).1.1.length ≤ r.1.length + b.length ∧ (rightR r = true → rightR (feedR r b).1 = true) := by
  obtain ⟨h1, h2, h3, h4, h5⟩ := feed_bytes _ (r.1 ++ b) (Nat.le_refl _) (bytes_app hr hb)
  rw [List.length_append] at h4 h5
  unfold feedR
  by_cases c1 : rightR r = true
  · rw [if_pos c1]
    by_cases c2 : r.2.1 = true
    · rw [if_pos c2]; exact ⟨hr, fun x hx => absurd hx (by simp), Nat.zero_le _, Nat.le_add_right _ _, fun _ => c1⟩
    · rw [if_neg c2]
      by_cases c3 : (feedA (r.1 ++ b)).2.2 = true
      · rw [if_pos c3]; exact ⟨fun x hx => absurd hx (by simp), h1, h4, Nat.zero_le _, fun _ => rfl⟩
      · rw [if_neg c3]; exact ⟨h2, h1, h4, h5, fun _ => by unfold rightR; rw [if_neg (by simp)]; exact decide_eq_true h3⟩
  · rw [if_neg c1]; exact ⟨hr, fun x hx => absurd hx (by simp), Nat.zero_le _, Nat.le_add_right _ _, fun h => absurd h c1⟩
theorem G48_is (k : Nat) (hk : 100 < k) : G48 k () = some (true, ()) := by
  have f1 := G51_is k ([], false, ()) [0, 1, 65, 0] (by simp) (by simp [byteOK]) (by simp) (by simp; omega)
  have e1 : feedR ([], false, ()) [0, 1, 65, 0] = (([0], false, ()), [[65]], 0) := by kernel_rfl
  rw [e1] at f1
  have f2 := G51_is k ([0], false, ()) [0] (by simp [byteOK]) (by simp [byteOK]) (by simp) (by simp; omega)
  have e2 : feedR ([0], false, ()) [0] = (([], true, ()), [], 12) := by kernel_rfl
  rw [e2] at f2
  have r1 := G53_is k ([0], false, ()) (by simp [byteOK]) (by simp)
  have e3 : rightR ([0], false, ()) = true := by kernel_rfl
  rw [e3] at r1
  have p1 : putW [65] = ([0, 1, 65], 0) := by kernel_rfl
  have p2 : putW [] = ([], 2) := by kernel_rfl
  rw [G48_eq, G49_is, p1, ocall_some]
  (try simp only [])
  rw [sel_pos (by decide), sel_pos (by decide), show ([0, 1, 65] : List Int) ++ [0] = [0, 1, 65, 0] from rfl, f1, ocall_some]
  (try simp only [])
  rw [f2, ocall_some, G49_is, p2, ocall_some]
  (try simp only [])
  rw [r1, ocall_some]
  rfl
end Go.Proofs.Ythglkecbfakmpaa.G
end
section
set_option linter.unusedVariables false
set_option linter.unusedSimpArgs false
namespace Go.Proofs.Ythglkecbfakmpaa.PureFrameRight
open Go Go.Proofs.Ythglkecbfakmpaa Th Bits G
theorem main (r : Reader) (b : List Int) (hr : ∀ c ∈ r.1, byteOK c) (hb : ∀ c ∈ b, byteOK c) : G10 20000 (r, b, ()) = some (true, ()) := by
  have hF := G51_is 20000 r b hr hb
  have hG := G52_is 20000 r b hr hb
  have hR := G53_is 20000 r hr
  have hQ := G54_is 20000 r hr
  obtain ⟨b1, b2, b3, b4, b5⟩ := feedR_bytes hr hb
  have hS := G55_is 20000 (feedR r b).1 (feedR r b).1 b1 b1
  have hL := G27_is 20000 (feedR r b).2.1 (feedR r b).2.1
  rw [show (r : Reader) = (r.1, r.2.1, ()) from rfl, G10_eq, G48_is 20000 (by omega), ocall_some, show ((r.1, r.2.1, ()) : Reader) = r from rfl]
  simp only [Bool.not_true, sel_false, ofNat_len]
  by_cases c : (5000 : Int) < r.1.length
  · rw [sel_pos c]
  by_cases c2 : (5000 : Int) < b.length
  · rw [sel_neg c, sel_pos c2]
  rw [sel_neg c, sel_neg c2, G49_is, ocall_some]
  have hF := hF (by omega) (by omega)
  have hG := hG (by omega) (by omega) (by omega)
  have hR := hR (by omega)
  have hQ := hQ (by omega)
  have hL := hL (by omega) (by omega) b2 b2
  rw [decide_eq_true rfl] at hS hL
  have tail : (ocall (G51 20000 (r, b, ())) fun r_4 => ocall (G52 20000 (r, b, ())) fun r_1 => ocall (G53 20000 (r, ())) fun r_2 => ocall (G54 20000 (r, ())) fun r_3 => sel (r_2.1 == r_3.1)
      (ocall (G55 20000 ((r_4.1.1, r_4.1.2.1, ()), (r_1.1.1, r_1.1.2.1, ()), ())) fun r_6 => sel r_6.1 (ocall (G27 20000 (r_4.2.1, r_1.2.1, ())) fun r_5 => sel r_5.1 (some (decide (r_4.2.2.1 = r_1.2.2.1), ())) (some (false, ()))) (some (false, ()))) (some (false, ()))) = some (true, ()) := by
    rw [hF, ocall_some, hG, ocall_some, hR, ocall_some, hQ, ocall_some, beq_self_eq_true, sel_true]
    (try simp only [])
    have hS' : G55 20000 (((feedR r b).1.1, (feedR r b).1.2.1, ()), ((feedR r b).1.1, (feedR r b).1.2.1, ()), ()) = some (true, ()) := hS
    rw [hS', ocall_some, sel_true, hL, ocall_some, sel_true]; simp
  by_cases h0 : b.length = 0
  · have e : putW b = ([], 2) := by unfold putW; rw [if_pos h0]
    rw [e, sel_pos (by omega)]
    (try simp only [])
    rw [sel_not, sel_pos trivial, sel_neg (by decide), sel_not, sel_neg (by decide), sel_not, sel_pos (by rfl)]
    exact tail
  rw [sel_neg (by omega)]
  by_cases h2 : 2048 < b.length
  · have e : putW b = ([], 4) := by unfold putW; rw [if_neg h0, if_pos h2]
    rw [e, sel_pos (by omega)]
    (try simp only [])
    rw [sel_not, sel_pos trivial, sel_neg (by decide), sel_not, sel_neg (by decide), sel_not, sel_pos (by rfl)]
    exact tail
  · have e : putW b = (frameW b, 0) := by unfold putW; rw [if_neg h0, if_neg h2]
    rw [e, sel_neg (by omega)]
    (try simp only [])
    rw [sel_not, sel_pos trivial, sel_pos trivial, G50_is 20000 b (by omega), ocall_some]
    simp only [decide_true, Bool.not_true, sel_false]
    exact tail
theorem pure (x0 : Ty.den (.st (.cons (.slice (.int .u8)) (.cons .bool .nil)))) (x1 : Ty.den (.slice (.int .u8))) (g0 : Ty.Good (.st (.cons (.slice (.int .u8)) (.cons .bool .nil))) x0) (g1 : Ty.Good (.slice (.int .u8)) x1) : ∃ k, F10 k (x0, (x1, PUnit.unit)) = some (true, PUnit.unit) :=
  ⟨20000, main x0 x1 (fun c hc => good_u8 (g0.1.2.2 c hc)) (fun c hc => good_u8 (g1.2.2 c hc))⟩
end Go.Proofs.Ythglkecbfakmpaa.PureFrameRight
end
section
set_option linter.unusedVariables false
set_option linter.unusedSimpArgs false
namespace Go.Proofs.Ythglkecbfakmpaa.frameRight
open Go.ChangeShapes Go.WideShapes Go.ChangeAt Go.RowKit Go.Proofs.Ythglkecbfakmpaa Th G
open Go.ChangeMaps (open_string shut_string)
theorem own : ownKnob Try.prog.godebug = none := by kernel_rfl
theorem laidOut : laidOutB Try.prog = true := by kernel_rfl
set_option maxRecDepth 100000 in
theorem lifted (os : Os) (started : os.Started) (H : Type) (enc : TypeId × Value → H) :
    ReturnsInHanded {} Try.checked os 10 .any (Rows.frameRightSpec.pre6 enc Try.prog Try.f10 Rows.frameRightRow.domain false) (Rows.frameRightSpec.post enc Try.prog Try.f10 false true false false) := by
  refine returnsInHanded_of_change_sized (C := Try.checked) own started (by kernel_rfl) Try.func10
    (ChangeSpec.witness6 (enc := enc) (C := Try.checked) false ⟨#[], #[.agg #[.slice none 0 0, .bool false], .slice none 0 0], []⟩ 8 (by kernel_rfl) (by kernel_rfl) (by kernel_rfl) (by kernel_rfl)) ?_
  intro W base args ds gs before hval0 hW hcnd hsz0 _
  have hsz : (DataW.weightsEach Try.prog (Try.f10.params.toList ++ Rows.frameRightSpec.plain.varTypes Try.prog) (ds ++ gs)).all (· ≤ reachBytes) = true := hsz0
  have hval : ∀ (j : Nat) t v, Try.f10.params[j]? = some t → args[j]? = some v → Value.okWide Try.prog W .any base t v := hval0
  have hW' := hW
  obtain ⟨p, q, hA0, hV, rfl, hfz, hnd⟩ := hW
  have hA : DataW.TrodAll enc Try.prog W 0 (fun _ => true) true Try.f10.params.toList args.toList ds p := hA0
  rw [Try.params10] at hA hval hsz
  obtain ⟨v0, vs0, d0, ds0, p0, q0, hargs, rfl, rfl, h0, r0⟩ := trodAll_cons hA
  obtain ⟨v1, vs1, d1, ds1, p1, q1, rfl, rfl, rfl, h1, r1⟩ := trodAll_cons r0
  obtain ⟨rfl, rfl, rfl⟩ := trodAll_nil r1
  obtain rfl : args = #[v0, v1] := by cases args; simp_all
  obtain ⟨rfl, rfl⟩ := trodVars_none hV
  obtain ⟨x0, a0, g0⟩ := open_arg (T := (.st (.cons (.slice (.int .u8)) (.cons .bool .nil)))) (by kernel_rfl) (hval 0 77 v0 rfl rfl) h0 (weights_of hsz (j := 0) (t := 77) rfl rfl)
  have k0 := h0
  have lt0 : ∀ x ∈ p0, x.block < W.heap.size := by obtain ⟨m, hm⟩ := k0; exact DataW.trod_lt m _ _ _ hm
  obtain ⟨x1, a1, g1⟩ := open_arg (T := (.slice (.int .u8))) (by kernel_rfl) (hval 1 35 v1 rfl rfl) h1 (weights_of hsz (j := 1) (t := 35) rfl rfl)
  have k1 := h1
  have lt1 : ∀ x ∈ p1, x.block < W.heap.size := by obtain ⟨m, hm⟩ := k1; exact DataW.trod_lt m _ _ _ hm
  obtain ⟨k, hk⟩ := PureFrameRight.pure x0 x1 g0 g1
  clear hA0 hval0 hsz0 hsz
  refine (law_of (fn10 k [Ty.av (.st (.cons (.slice (.int .u8)) (.cons .bool .nil))) x0, Ty.av (.slice (.int .u8)) x1] (x0, (x1, PUnit.unit)) (true, PUnit.unit) rfl rfl hk) (fun _ _ hr => by cases hr) (us := [v0, v1]) ⟨a0, a1, trivial⟩).mono fun e W' ⟨he, bel⟩ => ?_
  subst he
  exact ⟨_, rfl, _, _, _, [], _, [], hW', trodAll_mk1 (shut_bool Try.underlying4 _), (trodAll_cons_mk (Below.trod laidOut (by kernel_rfl) (of_decide_eq_true (by kernel_rfl)) k0 bel lt0) (trodAll_cons_mk (Below.trod laidOut (by kernel_rfl) (of_decide_eq_true (by kernel_rfl)) k1 bel lt1) trodAll_mk0)), rfl, bel.frame _, fun h => by cases h⟩
theorem over : Rows.frameRightRow.holds Try.pinned (OpenSpec.ofChange Rows.frameRightSpec) :=
  OpenClaim.holds_of_wide 10 Try.f10 rfl rfl rfl rfl rfl rfl rfl ⟨rfl, rfl, rfl, rfl, rfl⟩ rfl rfl rfl rfl rfl (by kernel_rfl) Try.func10 (by kernel_rfl)
    (of_decide_eq_true (by kernel_rfl)) (by unfold Func.isWrapper; first | (rw [if_pos (by decide +kernel)]; kernel_rfl) | (rw [if_neg (by decide +kernel)]; exact ⟨rfl, rfl⟩))
    (fun os started H enc _ => lifted os started H enc)
end Go.Proofs.Ythglkecbfakmpaa.frameRight
namespace Go.Proofs.Ythglkecbfakmpaa
theorem frameRight_holds : Rows.FrameRightSaid := frameRight.over
end Go.Proofs.Ythglkecbfakmpaa
end
