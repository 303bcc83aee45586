/- What slices.Concat of rows of bytes answers. -/
import Derived.Test.YtjgnpmdbkgeakaaEq
set_option linter.unusedVariables false
set_option linter.unusedSimpArgs false
set_option maxRecDepth 100000
namespace Go.Proofs.Ytjgnpmdbkgeakaa.G
open Go Go.Proofs.Ytjgnpmdbkgeakaa Th

def lenSum : List (List Int) → Nat
  | [] => 0
  | x :: l => x.length + lenSum l
theorem lenSum_take (L : List (List Int)) : ∀ i, lenSum (L.take i) ≤ lenSum L := by
  induction L with
  | nil => intro i; simp [lenSum]
  | cons x L ih =>
    intro i
    cases i with
    | zero => exact Nat.zero_le _
    | succ i => have := ih i; simp only [List.take_succ_cons, lenSum]; omega
theorem lenSum_snoc (L : List (List Int)) (x : List Int) : lenSum (L ++ [x]) = lenSum L + x.length := by
  induction L with
  | nil => simp [lenSum]
  | cons y L ih => simp only [List.cons_append, lenSum, ih]; omega
theorem lenSum_flat (L : List (List Int)) : L.flatten.length = lenSum L := by
  induction L with
  | nil => rfl
  | cons y L ih => simp only [List.flatten_cons, List.length_append, lenSum, ih]

theorem G41_3_is (k : Nat) (L : List (List Int)) (hL : L.length ≤ 1000000) (hS : lenSum L ≤ 140737488355328) : ∀ (j i : Nat), i + j = L.length → ∀ n, j < n →
    G41_3 k n (L, ((lenSum (L.take i) : Nat) : Int), L, (L.length : Int), (i : Int), ()) = some (L, ((lenSum L : Nat) : Int), ()) := by
  intro j
  induction j with
  | zero =>
    intro i hij n hn
    obtain ⟨n, rfl⟩ : ∃ m, n = m + 1 := ⟨n - 1, by omega⟩
    rw [G41_3_eq, sel_neg (by omega), List.take_of_length_le (by omega)]
  | succ j ih =>
    intro i hij n hn
    obtain ⟨n, rfl⟩ : ∃ m, n = m + 1 := ⟨n - 1, by omega⟩
    have hlt : i < L.length := by omega
    have hs := lenSum_take L (i + 1)
    have e : lenSum (L.take (i + 1)) = lenSum (L.take i) + L[i].length := by rw [List.take_succ_eq_append_getElem hlt, lenSum_snoc]
    have := ih (i + 1) (by omega) n (by omega)
    rw [G41_3_eq, sel_pos (by omega), sel_pos (by omega), sel_pos (by simp only [ofNat_len]; omega)]
    simp only [Int.toNat_natCast, getD_of hlt, ofNat_len]
    rw [wrap64 (n := (i : Int) + 1) (by omega) (by omega), wrap64 (by omega) (by omega), sel_neg (by omega)]
    rw [e] at this
    rw [Int.natCast_add, Int.natCast_add, Int.natCast_one] at this
    exact this

theorem G41_11_is (k : Nat) (L : List (List Int)) (hL : L.length ≤ 1000000) (hS : lenSum L ≤ 140737488355328) : ∀ (j i : Nat), i + j = L.length → ∀ n, j < n →
    G41_11 k n ((L.take i).flatten, L, (L.length : Int), (i : Int), ()) = some (L.flatten, ()) := by
  intro j
  induction j with
  | zero =>
    intro i hij n hn
    obtain ⟨n, rfl⟩ : ∃ m, n = m + 1 := ⟨n - 1, by omega⟩
    rw [G41_11_eq, sel_neg (by omega), List.take_of_length_le (by omega)]
  | succ j ih =>
    intro i hij n hn
    obtain ⟨n, rfl⟩ : ∃ m, n = m + 1 := ⟨n - 1, by omega⟩
    have hlt : i < L.length := by omega
    have hs := lenSum_take L (i + 1)
    have e : (L.take (i + 1)).flatten = (L.take i).flatten ++ L[i] := by rw [List.take_succ_eq_append_getElem hlt, List.flatten_append]; simp
    have e2 := lenSum_flat (L.take (i + 1))
    rw [e, List.length_append] at e2
    have := ih (i + 1) (by omega) n (by omega)
    rw [G41_11_eq, sel_pos (by omega), sel_pos (by omega), sel_pos (by simp only [ofNat_len]; omega)]
    simp only [Int.toNat_natCast, getD_of hlt]
    rw [sel_pos (by omega), wrap64 (by omega) (by omega)]
    rw [e, Int.natCast_add, Int.natCast_one] at this
    exact this

theorem G41_is (k : Nat) (L : List (List Int)) (hL : L.length ≤ 1000000) (hk : L.length < k) (hS : lenSum L ≤ 140737488355328) : G41 k (L, ()) = some (L.flatten, ()) := by
  have h1 := G41_3_is k L hL hS L.length 0 (by omega) k hk
  have h2 := G41_11_is k L hL hS L.length 0 (by omega) k hk
  simp only [List.take_zero, lenSum, Int.natCast_zero, List.flatten_nil] at h1 h2
  rw [G41_eq]
  simp only [ofNat_len]
  rw [h1, ocall_some]
  (try simp only [])
  rw [G57_eq, sel_pos (by omega), sel_pos (by omega), ocall_some, h2, ocall_some]
end Go.Proofs.Ytjgnpmdbkgeakaa.G
