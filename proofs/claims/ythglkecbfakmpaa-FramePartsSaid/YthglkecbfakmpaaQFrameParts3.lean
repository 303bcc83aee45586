/- The statement FrameParts, out of what its function answers. No condition. -/
import Derived.Test.YthglkecbfakmpaaQFrameParts2
import Derived.Test.YthglkecbfakmpaaRows
import Derived.Carry
section
set_option linter.unusedVariables false
set_option linter.unusedSimpArgs false
set_option maxRecDepth 100000
namespace Go.Proofs.Ythglkecbfakmpaa.G
open Go Go.Proofs.Ythglkecbfakmpaa Th Bits
theorem feedF_same : ∀ (n : Nat) (all : List Int), (∀ c ∈ all, byteOK c) → all.length ≤ n → ∀ k k', all.length < k → all.length < k' → feedF k all = feedF k' all := by
  intro n
  induction n with
  | zero =>
    intro all hb h k k' hk hk'
    have : all = [] := List.eq_nil_of_length_eq_zero (by omega)
    subst this
    obtain ⟨k, rfl⟩ : ∃ m, k = m + 1 := ⟨k - 1, by omega⟩
    obtain ⟨k', rfl⟩ : ∃ m, k' = m + 1 := ⟨k' - 1, by omega⟩
    rfl
  | succ n ih =>
    intro all hb h k k' hk hk'
    obtain ⟨k, rfl⟩ : ∃ m, k = m + 1 := ⟨k - 1, by omega⟩
    obtain ⟨k', rfl⟩ : ∃ m, k' = m + 1 := ⟨k' - 1, by omega⟩
    by_cases c : 0 < firstF all
    · have hf := first_pos hb c
      have := ih (all.drop (firstF all).toNat) (bytes_drop hb _) (by rw [List.length_drop]; omega) k k' (by rw [List.length_drop]; omega) (by rw [List.length_drop]; omega)
      show (if 0 < firstF all then _ else _) = (if 0 < firstF all then _ else _)
      rw [if_pos c, if_pos c, this]
    · show (if 0 < firstF all then _ else _) = (if 0 < firstF all then _ else _)
      rw [if_neg c, if_neg c]
theorem feedA_eq {all : List Int} (hb : ∀ c ∈ all, byteOK c) : feedA all = if 0 < firstF all then ((all.take (firstF all).toNat).drop 2 :: (feedA (all.drop (firstF all).toNat)).1, (feedA (all.drop (firstF all).toNat)).2)
    else if firstF all < 0 then ([], [], true) else ([], all, false) := by
  unfold feedA
  show (if 0 < firstF all then _ else _) = _
  by_cases c : 0 < firstF all
  · have hf := first_pos hb c
    rw [if_pos c, if_pos c, feedF_same all.length (all.drop (firstF all).toNat) (bytes_drop hb _) (by rw [List.length_drop]; omega) all.length ((all.drop (firstF all).toNat).length + 1) (by rw [List.length_drop]; omega) (by omega)]
  · rw [if_neg c, if_neg c]
theorem feedA_pos {all : List Int} (hb : ∀ c ∈ all, byteOK c) (h : 0 < firstF all) : feedA all = ((all.take (firstF all).toNat).drop 2 :: (feedA (all.drop (firstF all).toNat)).1, (feedA (all.drop (firstF all).toNat)).2) := by rw [feedA_eq hb, if_pos h]
theorem feedA_neg {all : List Int} (hb : ∀ c ∈ all, byteOK c) (h : firstF all < 0) : feedA all = ([], [], true) := by rw [feedA_eq hb, if_neg (by omega), if_pos h]
theorem feedA_zero {all : List Int} (hb : ∀ c ∈ all, byteOK c) (h : firstF all = 0) : feedA all = ([], all, false) := by rw [feedA_eq hb, if_neg (by omega), if_neg (by omega)]
theorem first_cases (b : List Int) (hb : ∀ c ∈ b, byteOK c) : firstF b = 0 ∨ firstF b = -1 ∨ 0 < firstF b := by
  unfold firstF
  by_cases c2 : b.length < 2
  · rw [if_pos c2]; exact .inl rfl
  obtain ⟨x, y, e0, e1, hx, hy, hh⟩ := hdrN_ok hb (by omega)
  rw [if_neg c2]
  split
  · exact .inr (.inl rfl)
  split
  · exact .inl rfl
  · right; right; omega
def feedR (r : Reader) (b : List Int) : Reader × List (List Int) × Int :=
  if rightR r = true then
    (if r.2.1 = true then (r, [], 12)
     else if (feedA (r.1 ++ b)).2.2 = true then (([], true, ()), (feedA (r.1 ++ b)).1, 12) else (((feedA (r.1 ++ b)).2.1, false, ()), (feedA (r.1 ++ b)).1, 0))
  else (r, [], 1)
theorem cloneB (k : Nat) (l : List Int) (hl : l.length ≤ 1000000000000) : G73 k l = some (l, ()) := by
  rw [G73_eq, sel_pos (by omega)]
theorem G51_g0_is (k : Nat) : ∀ (n : Nat) (all : List Int), all.length ≤ n → (∀ c ∈ all, byteOK c) → all.length ≤ 1000000000 → ∀ (out : List (List Int)), out.length + all.length ≤ 1000000000 → ∀ c, n < c →
    G51_g0 k c (all, out, [], false, ()) = some (if (feedA all).2.2 = true then (out ++ (feedA all).1, 12, [], true, ()) else (out ++ (feedA all).1, 0, (feedA all).2.1, false, ())) := by
  intro n
  induction n with
  | zero =>
    intro all hn hb hl out ho c hc
    obtain ⟨c, rfl⟩ : ∃ m, c = m + 1 := ⟨c - 1, by omega⟩
    have : all = [] := List.eq_nil_of_length_eq_zero (by omega)
    subst this
    have h0 : firstF [] = 0 := rfl
    rw [G51_g0_eq, G79_is k [] hb (by omega), ocall_some, feedA_zero hb h0, if_neg (by simp)]
    simp only [h0]
    rw [sel_neg (by omega), sel_neg (by omega), cloneB k [] (by simp), ocall_some, List.append_nil]
  | succ n ih =>
    intro all hn hb hl out ho c hc
    obtain ⟨c, rfl⟩ : ∃ m, c = m + 1 := ⟨c - 1, by omega⟩
    rw [G51_g0_eq, G79_is k all hb (by omega), ocall_some]
    simp only [ofNat_len]
    rcases first_cases all hb with h | h | h
    · rw [feedA_zero hb h, if_neg (by simp), sel_neg (by omega), sel_neg (by omega), cloneB k all (by omega), ocall_some, List.append_nil]
    · rw [feedA_neg hb (by omega), if_pos rfl, sel_neg (by omega), sel_pos (by omega), List.append_nil]
    · have hf := first_pos hb h
      rw [sel_pos h, sel_pos (by omega), sel_pos (Int.le_refl _), sel_pos (by omega), sel_pos (by omega), sel_pos (by omega), sel_pos (by omega), sel_pos (Int.le_refl _), sel_pos (Int.le_refl _), Int.toNat_natCast, List.take_of_length_le (Nat.le_refl all.length),
        ih _ (by rw [List.length_drop]; omega) (bytes_drop hb _) (by rw [List.length_drop]; omega) _ (by rw [List.length_append, List.length_drop]; simp; omega) c (by omega), feedA_pos hb h]
      have e2 : Int.toNat 2 = 2 := rfl
      rw [e2]
      by_cases hq : (feedA (all.drop (firstF all).toNat)).2.2 = true
      · rw [if_pos hq, if_pos hq]; simp
      · rw [if_neg hq, if_neg hq]; simp
theorem G51_is (k : Nat) (r : Reader) (b : List Int) (hr : ∀ c ∈ r.1, byteOK c) (hb : ∀ c ∈ b, byteOK c) (hl : r.1.length + b.length ≤ 100000000) (hk : r.1.length + b.length + 10 < k) : G51 k (r, b, ()) = some ((feedR r b).1, (feedR r b).2.1, (feedR r b).2.2, ()) := by
  have hR := G53_is k r hr (by omega)
  obtain ⟨rest, br, ⟨⟩⟩ := r
  have hl : rest.length + b.length ≤ 100000000 := hl
  have hk : rest.length + b.length + 10 < k := hk
  have hr : ∀ c ∈ rest, byteOK c := hr
  rw [G51_eq, hR, ocall_some]
  unfold feedR
  cases hrr : rightR (rest, br, ()) with
  | false => rw [if_neg (by simp)]; rfl
  | true =>
  rw [if_pos rfl]
  simp only [Bool.not_true, sel_false]
  cases br with
  | true => rw [sel_true, if_pos rfl]
  | false =>
  rw [sel_false, if_neg (by simp), G78_is k [rest, b] (by simp) (by simp; omega) (by simp only [lenSum]; omega), ocall_some]
  have ef : [rest, b].flatten = rest ++ b := by simp
  have hab := bytes_app hr hb
  have hlen : (rest ++ b).length = rest.length + b.length := List.length_append
  simp only [ef, ofNat_len]
  rw [G79_is k (rest ++ b) hab (by omega), ocall_some]
  (try simp only [])
  generalize rest ++ b = all at hab hlen
  rcases first_cases all hab with h | h | h
  · rw [feedA_zero hab h, if_neg (by simp), sel_neg (by omega), sel_neg (by omega), cloneB k all (by omega), ocall_some]
  · rw [feedA_neg hab (by omega), if_pos rfl, sel_neg (by omega), sel_pos (by omega)]
  · have hf := first_pos hab h
    rw [sel_pos h, sel_pos (by omega), sel_pos (Int.le_refl _), sel_pos (by omega), sel_pos (by omega), sel_pos (by omega), sel_pos (Int.le_refl _), sel_pos (Int.le_refl _), Int.toNat_natCast, List.take_of_length_le (Nat.le_refl all.length),
      G51_g0_is k all.length _ (by rw [List.length_drop]; omega) (bytes_drop hab _) (by rw [List.length_drop]; omega) _ (by rw [List.length_drop]; simp; omega) k (by omega), ocall_some, feedA_pos hab h]
    have e2 : Int.toNat 2 = 2 := rfl
    rw [e2]
    by_cases hq : (feedA (all.drop (firstF all).toNat)).2.2 = true
    · rw [if_pos hq, if_pos hq]; simp
    · rw [if_neg hq, if_neg hq]; simp
end Go.Proofs.Ythglkecbfakmpaa.G
end
section
set_option linter.unusedVariables false
set_option linter.unusedSimpArgs false
set_option maxRecDepth 100000
namespace Go.Proofs.Ythglkecbfakmpaa.G
open Go Go.Proofs.Ythglkecbfakmpaa Th Bits
theorem hdrN_app {r : List Int} (h : 2 ≤ r.length) (t : List Int) : hdrN (r ++ t) = hdrN r := by
  match r, h with
  | a :: b :: r, _ => rfl
theorem feedA_nil : feedA [] = ([], [], false) := rfl
theorem toBytes_ofB : ∀ (b : List Int), (∀ c ∈ b, byteOK c) → toBytes (ofBytes b) = b := by
  intro b
  induction b with
  | nil => intro _; rfl
  | cons c b ih =>
    intro h
    have h1 := h c (List.mem_cons_self ..)
    have h2 := ih fun c hc => h c (List.mem_cons_of_mem _ hc)
    unfold byteOK at h1
    simp only [ofBytes, toBytes, List.map_cons, List.map_map] at h2 ⊢
    rw [h2]
    congr 1
    simp
    omega
theorem ofBytes_inj {a b : List Int} (ha : ∀ c ∈ a, byteOK c) (hb : ∀ c ∈ b, byteOK c) : decide (ofBytes a = ofBytes b) = decide (a = b) := by
  refine decide_eq_decide.2 ⟨fun h => ?_, fun h => by rw [h]⟩
  rw [← toBytes_ofB a ha, h, toBytes_ofB b hb]
theorem G27_4_is (k : Nat) (a b : List (List Int)) (hab : a.length = b.length) (hl : a.length ≤ 1000000000) (ha : ∀ x ∈ a, ∀ c ∈ x, byteOK c) (hb : ∀ x ∈ b, ∀ c ∈ x, byteOK c) : ∀ (j i : Nat), i + j = a.length → ∀ n, j < n →
    G27_4 k n (a, b, (i : Int), ()) = some (sel (decide (a.drop i = b.drop i)) (.inl ()) (.inr (false, ()))) := by
  intro j
  induction j with
  | zero =>
    intro i hij n hn
    obtain ⟨n, rfl⟩ : ∃ m, n = m + 1 := ⟨n - 1, by omega⟩
    rw [G27_4_eq, sel_neg (by simp only [ofNat_len]; omega), List.drop_eq_nil_of_le (by omega), List.drop_eq_nil_of_le (by omega)]
    rfl
  | succ j ih =>
    intro i hij n hn
    obtain ⟨n, rfl⟩ : ∃ m, n = m + 1 := ⟨n - 1, by omega⟩
    have hlt : i < a.length := by omega
    have hlt' : i < b.length := by omega
    rw [G27_4_eq]
    simp only [ofNat_len, Int.toNat_natCast, getD_of hlt, getD_of hlt']
    rw [sel_pos (by omega), sel_pos (by omega), sel_pos (by omega), sel_pos (by omega), sel_pos (by omega), ofBytes_inj (ha _ (List.getElem_mem _)) (hb _ (List.getElem_mem _)), List.drop_eq_getElem_cons hlt, List.drop_eq_getElem_cons hlt', wrap64 (by omega) (by omega)]
    simp only [List.cons.injEq]
    by_cases c : a[i] = b[i]
    · rw [decide_eq_true c, Bool.not_true, sel_false]
      have := ih (i + 1) (by omega) n (by omega)
      simp only [Int.natCast_add, Int.natCast_one] at this
      rw [this]
      have e : decide (a[i] = b[i] ∧ a.drop (i + 1) = b.drop (i + 1)) = decide (a.drop (i + 1) = b.drop (i + 1)) := decide_eq_decide.2 ⟨fun h => h.2, fun h => ⟨c, h⟩⟩
      rw [e]
    · rw [decide_eq_false c, Bool.not_false, sel_true, decide_eq_false (fun h => c h.1)]; rfl
theorem G27_is (k : Nat) (a b : List (List Int)) (hl : a.length ≤ 1000000000) (hk : a.length < k) (ha : ∀ x ∈ a, ∀ c ∈ x, byteOK c) (hb : ∀ x ∈ b, ∀ c ∈ x, byteOK c) : G27 k (a, b, ()) = some (decide (a = b), ()) := by
  rw [G27_eq]
  simp only [ofNat_len]
  by_cases h2 : a.length = b.length
  case neg =>
    rw [decide_eq_false (show ¬ (a.length : Int) = (b.length : Int) by omega), Bool.not_false, sel_true, decide_eq_false (fun e => h2 (by rw [e]))]
  rw [decide_eq_true (show (a.length : Int) = (b.length : Int) by omega), Bool.not_true, sel_false]
  have := G27_4_is k a b h2 hl ha hb a.length 0 (by omega) k hk
  simp only [List.drop_zero, Int.natCast_zero] at this
  rw [this, ocall_some]
  cases decide (a = b) <;> rfl
theorem feed_bytes : ∀ (n : Nat) (all : List Int), all.length ≤ n → (∀ c ∈ all, byteOK c) → (∀ x ∈ (feedA all).1, ∀ c ∈ x, byteOK c) ∧ (∀ c ∈ (feedA all).2.1, byteOK c) ∧ firstF (feedA all).2.1 = 0 ∧ (feedA all).1.length ≤ all.length ∧ (feedA all).2.1.length ≤ all.length := by
  intro n
  induction n with
  | zero =>
    intro all hn hb
    have : all = [] := List.eq_nil_of_length_eq_zero (by omega)
    subst this
    exact ⟨fun x hx => absurd hx (by simp [feedA_nil]), fun x hx => absurd hx (by simp [feedA_nil]), rfl, Nat.zero_le _, Nat.zero_le _⟩
  | succ n ih =>
    intro all hn hb
    rcases first_cases all hb with h | h | h
    · rw [feedA_zero hb h]; exact ⟨fun x hx => absurd hx (by simp), hb, h, Nat.zero_le _, Nat.le_refl _⟩
    · rw [feedA_neg hb (by omega)]; exact ⟨fun x hx => absurd hx (by simp), fun x hx => absurd hx (by simp), rfl, Nat.zero_le _, Nat.zero_le _⟩
    · have hf := first_pos hb h
      rw [feedA_pos hb h]
      obtain ⟨i1, i2, i3, i4, i5⟩ := ih (all.drop (firstF all).toNat) (by rw [List.length_drop]; omega) (bytes_drop hb _)
      rw [List.length_drop] at i4 i5
      refine ⟨fun x hx => ?_, i2, i3, by simp only [List.length_cons]; omega, by (try simp only []); omega⟩
      rcases List.mem_cons.1 hx with rfl | hx
      · exact bytes_drop (bytes_take hb _) _
      · exact i1 x hx
theorem first_app {all : List Int} (hb : ∀ c ∈ all, byteOK c) (h : 0 < firstF all) (t : List Int) : firstF (all ++ t) = firstF all := by
  have hf := first_pos hb h
  have hh := hdrN_app hf.2.2.2.2.2 t
  rw [hf.2.2.1]
  unfold firstF
  rw [if_neg (by rw [List.length_append]; omega), hh, if_neg (by omega), if_neg (by rw [List.length_append]; omega)]
theorem first_app_neg {all : List Int} (hb : ∀ c ∈ all, byteOK c) (h : firstF all = -1) (t : List Int) : firstF (all ++ t) = -1 := by
  unfold firstF at h
  by_cases c2 : all.length < 2
  · rw [if_pos c2] at h; omega
  rw [if_neg c2] at h
  by_cases c3 : hdrN all = 0 ∨ 2048 < hdrN all
  · unfold firstF
    rw [if_neg (by rw [List.length_append]; omega), hdrN_app (by omega), if_pos c3]
  · obtain ⟨x, y, e0, e1, hx, hy, hh⟩ := hdrN_ok hb (by omega)
    rw [if_neg c3] at h
    split at h <;> omega
end Go.Proofs.Ythglkecbfakmpaa.G
end
section
set_option linter.unusedVariables false
set_option linter.unusedSimpArgs false
set_option maxRecDepth 100000
namespace Go.Proofs.Ythglkecbfakmpaa.G
open Go Go.Proofs.Ythglkecbfakmpaa Th Bits
def frameW (b : List Int) : List Int := ((b.length / 256 % 256 : Nat) : Int) :: ((b.length % 256 : Nat) : Int) :: b
def putW (b : List Int) : List Int × Int := if b.length = 0 then ([], 2) else if 2048 < b.length then ([], 4) else (frameW b, 0)
theorem G49_is (k : Nat) (b : List Int) : G49 k (b, ()) = some ((putW b).1, (putW b).2, ()) := by
  rw [G49_eq]
  unfold putW
  by_cases h : b.length = 0
  · rw [sel_pos h, if_pos h]
  · rw [sel_neg h, if_neg h]
    by_cases h2 : 2048 < b.length
    · rw [sel_pos h2, if_pos h2]
    · rw [sel_neg h2, if_neg h2]; rfl
theorem frameW_bytes {b : List Int} (hb : ∀ c ∈ b, byteOK c) : ∀ c ∈ frameW b, byteOK c := by
  intro c hc
  unfold frameW at hc
  rcases List.mem_cons.1 hc with h | hc
  · rw [h]; unfold byteOK; omega
  rcases List.mem_cons.1 hc with h | hc
  · rw [h]; unfold byteOK; omega
  · exact hb c hc
theorem frameW_len (b : List Int) : (frameW b).length = b.length + 2 := by simp [frameW]
theorem frame_first {b : List Int} (hb : ∀ c ∈ b, byteOK c) (h1 : 1 ≤ b.length) (h2 : b.length ≤ 2048) (t : List Int) : firstF (frameW b ++ t) = ((b.length + 2 : Nat) : Int) := by
  have hh : hdrN (frameW b ++ t) = (b.length : Int) := by
    show 256 * (((b.length / 256 % 256 : Nat) : Int)) + (((b.length % 256 : Nat) : Int)) = _
    omega
  unfold firstF
  rw [if_neg (by rw [List.length_append, frameW_len]; omega), hh, if_neg (by omega), if_neg (by rw [List.length_append, frameW_len]; omega)]
  omega
theorem feed_frame {b : List Int} (hb : ∀ c ∈ b, byteOK c) (h1 : 1 ≤ b.length) (h2 : b.length ≤ 2048) {t : List Int} (ht : ∀ c ∈ t, byteOK c) : feedA (frameW b ++ t) = (b :: (feedA t).1, (feedA t).2) := by
  have hf := frame_first hb h1 h2 t
  rw [feedA_pos (bytes_app (frameW_bytes hb) ht) (by rw [hf]; omega), hf, Int.toNat_natCast, ← frameW_len, List.take_left, List.drop_left]
  rfl
def framesW : List (List Int) → List Int
  | [] => []
  | b :: l => frameW b ++ framesW l
theorem framesW_bytes {l : List (List Int)} (hb : ∀ b ∈ l, ∀ c ∈ b, byteOK c) : ∀ c ∈ framesW l, byteOK c := by
  induction l with
  | nil => intro c hc; cases hc
  | cons a l ih => exact bytes_app (frameW_bytes (hb a (List.mem_cons_self ..))) (ih fun b h => hb b (List.mem_cons_of_mem _ h))
theorem feed_frames : ∀ (l : List (List Int)), (∀ b ∈ l, ∀ c ∈ b, byteOK c) → (∀ b ∈ l, 1 ≤ b.length ∧ b.length ≤ 2048) → feedA (framesW l) = (l, [], false) := by
  intro l
  induction l with
  | nil => intro _ _; rfl
  | cons a l ih =>
    intro hb hl
    have h1 := hl a (List.mem_cons_self ..)
    have hb' : ∀ b ∈ l, ∀ c ∈ b, byteOK c := fun b h => hb b (List.mem_cons_of_mem _ h)
    show feedA (frameW a ++ framesW l) = _
    rw [feed_frame (hb a (List.mem_cons_self ..)) h1.1 h1.2 (framesW_bytes hb'), ih hb' fun b h => hl b (List.mem_cons_of_mem _ h)]
theorem framesW_len : ∀ (l : List (List Int)) (n : Nat), (∀ b ∈ l, b.length ≤ n) → (framesW l).length ≤ l.length * (n + 2) := by
  intro l n
  induction l with
  | nil => intro _; simp [framesW]
  | cons a l ih =>
    intro h
    have h1 := h a (List.mem_cons_self ..)
    have h2 := ih fun b hb => h b (List.mem_cons_of_mem _ hb)
    show (frameW a ++ framesW l).length ≤ _
    rw [List.length_append, frameW_len, List.length_cons, Nat.add_mul]
    omega
theorem feedA_app : ∀ (n : Nat) (x t : List Int), x.length ≤ n → (∀ c ∈ x, byteOK c) → (∀ c ∈ t, byteOK c) →
    ((feedA x).2.2 = true ∧ (feedA x).2.1 = [] ∧ feedA (x ++ t) = ((feedA x).1, [], true)) ∨ ((feedA x).2.2 = false ∧ feedA (x ++ t) = ((feedA x).1 ++ (feedA ((feedA x).2.1 ++ t)).1, (feedA ((feedA x).2.1 ++ t)).2)) := by
  intro n
  induction n with
  | zero =>
    intro x t hn hx ht
    have : x = [] := List.eq_nil_of_length_eq_zero (by omega)
    subst this
    exact .inr ⟨rfl, rfl⟩
  | succ n ih =>
    intro x t hn hx ht
    rcases first_cases x hx with h | h | h
    · rw [feedA_zero hx h]; exact .inr ⟨rfl, rfl⟩
    · rw [feedA_neg hx (by omega)]
      exact .inl ⟨rfl, rfl, feedA_neg (bytes_app hx ht) (by rw [first_app_neg hx h]; decide)⟩
    · have hp := first_pos hx h
      have hf := first_app hx h t
      have hi := ih (x.drop (firstF x).toNat) t (by rw [List.length_drop]; omega) (bytes_drop hx _) ht
      rw [feedA_pos hx h, feedA_pos (bytes_app hx ht) (by rw [hf]; exact h), hf, List.take_append_of_le_length hp.2.1, List.drop_append_of_le_length hp.2.1]
      rcases hi with ⟨i1, i2, i3⟩ | ⟨i1, i2⟩
      · exact .inl ⟨i1, i2, by rw [i3]⟩
      · exact .inr ⟨i1, by rw [i2]; rfl⟩
theorem feedR_bytes {r : Reader} {b : List Int} (hr : ∀ c ∈ r.1, byteOK c) (hb : ∀ c ∈ b, byteOK c) : (∀ c ∈ (feedR r b).1.1, byteOK c) ∧ (∀ x ∈ (feedR r b).2.1, ∀ c ∈ x, byteOK c) ∧ (feedR r b).2.1.length ≤ r.1.length + b.length ∧ (feedR r b).1.1.length ≤ r.1.length + b.length ∧ (rightR r = true → rightR (feedR r b).1 = true) := by
  obtain ⟨h1, h2, h3, h4, h5⟩ := feed_bytes _ (r.1 ++ b) (Nat.le_refl _) (bytes_app hr hb)
  rw [List.length_append] at h4 h5
  unfold feedR
  by_cases c1 : rightR r = true
  · rw [if_pos c1]
    by_cases c2 : r.2.1 = true
    · rw [if_pos c2]; exact ⟨hr, fun x hx => absurd hx (by simp), Nat.zero_le _, Nat.le_add_right _ _, fun _ => c1⟩
    · rw [if_neg c2]
      by_cases c3 : (feedA (r.1 ++ b)).2.2 = true
      · rw [if_pos c3]; exact ⟨fun x hx => absurd hx (by simp), h1, h4, Nat.zero_le _, fun _ => rfl⟩
      · rw [if_neg c3]; exact ⟨h2, h1, h4, h5, fun _ => by unfold rightR; rw [if_neg (by simp)]; exact decide_eq_true h3⟩
  · rw [if_neg c1]; exact ⟨hr, fun x hx => absurd hx (by simp), Nat.zero_le _, Nat.le_add_right _ _, fun h => absurd h c1⟩
theorem feed_two {r : Reader} {a b : List Int} (hr : ∀ c ∈ r.1, byteOK c) (ha : ∀ c ∈ a, byteOK c) (hb : ∀ c ∈ b, byteOK c) (h : rightR r = true) :
    feedR r (a ++ b) = ((feedR (feedR r a).1 b).1, (feedR r a).2.1 ++ (feedR (feedR r a).1 b).2.1, (feedR (feedR r a).1 b).2.2) ∧ ((feedR r a).1.2.1 = true → (feedR (feedR r a).1 b).2.1 = [] ∧ (feedR (feedR r a).1 b).1.2.1 = true) ∧
    ((feedR r a).1.2.1 = decide ((feedR r a).2.2 = 12)) ∧ ((feedR r a).2.2 = 12 ∨ (feedR r a).2.2 = 0) := by
  obtain ⟨rest, br, ⟨⟩⟩ := r
  have hr : ∀ c ∈ rest, byteOK c := hr
  have hrr := (feedR_bytes (r := (rest, br, ())) (b := a) hr ha).2.2.2.2 h
  cases br with
  | true =>
    have e : ∀ x, feedR (rest, true, ()) x = ((rest, true, ()), [], 12) := fun x => by unfold feedR; rw [if_pos h, if_pos rfl]
    rw [e, e]
    (try simp only [])
    rw [e]
    exact ⟨rfl, fun _ => ⟨rfl, rfl⟩, rfl, .inl trivial⟩
  | false =>
    have e : ∀ x, feedR (rest, false, ()) x = if (feedA (rest ++ x)).2.2 = true then (([], true, ()), (feedA (rest ++ x)).1, 12) else (((feedA (rest ++ x)).2.1, false, ()), (feedA (rest ++ x)).1, 0) := fun x => by unfold feedR; rw [if_pos h, if_neg (by simp)]
    rw [e a] at hrr
    rw [e, e, ← List.append_assoc]
    rcases feedA_app _ (rest ++ a) b (Nat.le_refl _) (bytes_app hr ha) hb with ⟨i1, i2, i3⟩ | ⟨i1, i2⟩
    · rw [i3, if_pos rfl, if_pos i1]
      have e2 : feedR ([], true, ()) b = (([], true, ()), [], 12) := rfl
      (try simp only [])
      rw [e2]
      exact ⟨by simp, fun _ => ⟨rfl, rfl⟩, rfl, .inl trivial⟩
    · have hn : ¬ (feedA (rest ++ a)).2.2 = true := by rw [i1]; simp
      rw [if_neg hn] at hrr ⊢
      have e2 : feedR ((feedA (rest ++ a)).2.1, false, ()) b = if (feedA ((feedA (rest ++ a)).2.1 ++ b)).2.2 = true then (([], true, ()), (feedA ((feedA (rest ++ a)).2.1 ++ b)).1, 12) else (((feedA ((feedA (rest ++ a)).2.1 ++ b)).2.1, false, ()), (feedA ((feedA (rest ++ a)).2.1 ++ b)).1, 0) := by
        unfold feedR; rw [if_pos hrr, if_neg (by simp)]
      (try simp only [])
      rw [i2, e2]
      refine ⟨?_, fun h => absurd h (by simp), rfl, .inr trivial⟩
      by_cases c : (feedA ((feedA (rest ++ a)).2.1 ++ b)).2.2 = true
      · rw [if_pos c, if_pos c]
      · rw [if_neg c, if_neg c]
end Go.Proofs.Ythglkecbfakmpaa.G
end
section
set_option linter.unusedVariables false
set_option linter.unusedSimpArgs false
set_option maxRecDepth 100000
namespace Go.Proofs.Ythglkecbfakmpaa.G
open Go Go.Proofs.Ythglkecbfakmpaa Th Bits
theorem G48_is (k : Nat) (hk : 100 < k) : G48 k () = some (true, ()) := by
  have f1 := G51_is k ([], false, ()) [0, 1, 65, 0] (by simp) (by simp [byteOK]) (by simp) (by simp; omega)
  have e1 : feedR ([], false, ()) [0, 1, 65, 0] = (([0], false, ()), [[65]], 0) := by kernel_rfl
  rw [e1] at f1
  have f2 := G51_is k ([0], false, ()) [0] (by simp [byteOK]) (by simp [byteOK]) (by simp) (by simp; omega)
  have e2 : feedR ([0], false, ()) [0] = (([], true, ()), [], 12) := by kernel_rfl
  rw [e2] at f2
  have r1 := G53_is k ([0], false, ()) (by simp [byteOK]) (by simp)
  have e3 : rightR ([0], false, ()) = true := by kernel_rfl
  rw [e3] at r1
  have p1 : putW [65] = ([0, 1, 65], 0) := by kernel_rfl
  have p2 : putW [] = ([], 2) := by kernel_rfl
  rw [G48_eq, G49_is, p1, ocall_some]
  (try simp only [])
  rw [sel_pos (by decide), sel_pos (by decide), show ([0, 1, 65] : List Int) ++ [0] = [0, 1, 65, 0] from rfl, f1, ocall_some]
  (try simp only [])
  rw [f2, ocall_some, G49_is, p2, ocall_some]
  (try simp only [])
  rw [r1, ocall_some]
  rfl
end Go.Proofs.Ythglkecbfakmpaa.G
end
section
set_option linter.unusedVariables false
set_option linter.unusedSimpArgs false
namespace Go.Proofs.Ythglkecbfakmpaa.PureFrameParts
open Go Go.Proofs.Ythglkecbfakmpaa Th Bits G
def fits (l : List (List Int)) : Bool := l.all fun b => decide (1 ≤ b.length) && decide (b.length ≤ 300)
theorem loop (l : List (List Int)) (cut : Int) (hl : l.length ≤ 10) : ∀ (j i : Nat) (all : List Int), i + j = l.length → all.length ≤ i * 302 → ∀ n, j < n →
    G11_7 20000 n (l, cut, all, (i : Int), ()) = some (if fits (l.drop i) = true then .inl (l, cut, all ++ framesW (l.drop i), ()) else .inr (true, ())) := by
  intro j
  induction j with
  | zero =>
    intro i all hij ha n hn
    obtain ⟨n, rfl⟩ : ∃ m, n = m + 1 := ⟨n - 1, by omega⟩
    rw [G11_7_eq, sel_neg (by simp only [ofNat_len]; omega), List.drop_eq_nil_of_le (by omega)]
    simp [fits, framesW]
  | succ j ih =>
    intro i all hij ha n hn
    obtain ⟨n, rfl⟩ : ∃ m, n = m + 1 := ⟨n - 1, by omega⟩
    have hlt : i < l.length := by omega
    have hi := ih (i + 1) (all ++ frameW l[i]) (by omega)
    rw [G11_7_eq]
    simp only [ofNat_len, Int.toNat_natCast, getD_of hlt]
    rw [sel_pos (by omega), sel_pos (by omega), sel_pos (by omega), List.drop_eq_getElem_cons hlt]
    generalize l[i] = b at hi
    by_cases h0 : b.length = 0
    · rw [sel_pos (by omega), if_neg]
      simp [fits, h0]
    rw [sel_neg (by omega), sel_pos (by omega), sel_pos (by omega)]
    by_cases h3 : 300 < b.length
    · rw [sel_pos (by omega), if_neg]
      simp only [fits, List.all_cons, Bool.and_eq_true, decide_eq_true_eq]
      omega
    have e : putW b = (frameW b, 0) := by unfold putW; rw [if_neg h0, if_neg (by omega)]
    have hf : fits (b :: l.drop (i + 1)) = fits (l.drop (i + 1)) := by
      simp only [fits, List.all_cons]
      rw [decide_eq_true (show 1 ≤ b.length by omega), decide_eq_true (show b.length ≤ 300 by omega)]
      rfl
    have hw : IntKind.i64.wrap ((i : Int) + 1) = ((i + 1 : Nat) : Int) := by rw [wrap64 (by omega) (by omega)]; omega
    rw [sel_neg (by omega), sel_pos (by omega), sel_pos (by omega), G49_is, e, ocall_some]
    (try simp only [])
    rw [sel_not, sel_pos trivial, sel_pos (by rw [frameW_len]; omega), hw, hi (by rw [List.length_append, frameW_len]; omega) n (by omega), hf]
    rw [show framesW (b :: l.drop (i + 1)) = frameW b ++ framesW (l.drop (i + 1)) from rfl, List.append_assoc]
theorem main (l : List (List Int)) (cut : Int) (hb : ∀ b ∈ l, ∀ c ∈ b, byteOK c) (hc : 0 ≤ cut ∧ cut ≤ 65535) : G11 20000 (l, cut, ()) = some (true, ()) := by
  rw [G11_eq, G48_is 20000 (by omega), ocall_some]
  simp only [Bool.not_true, sel_false, ofNat_len]
  by_cases c : (10 : Int) < l.length
  · rw [sel_pos c]
  have hlp := loop l cut (by omega) l.length 0 [] (by omega) (by simp) 20000 (by omega)
  rw [List.drop_zero, Int.natCast_zero, List.nil_append] at hlp
  rw [sel_neg c, hlp, ocall_some]
  by_cases hf : fits l = true
  case neg => rw [if_neg hf, esel_inr]
  rw [if_pos hf, esel_inl]
  have hfl : ∀ b ∈ l, 1 ≤ b.length ∧ b.length ≤ 300 := fun b h => by
    have := List.all_eq_true.1 hf b h
    simpa using this
  have hfa := feed_frames l hb fun b h => ⟨(hfl b h).1, by have := (hfl b h).2; omega⟩
  have hall := framesW_bytes hb
  have hal : (framesW l).length ≤ 3020 := by
    have := framesW_len l 300 fun b h => (hfl b h).2
    have h2 : l.length * 302 ≤ 10 * 302 := Nat.mul_le_mul_right _ (by omega)
    omega
  (try simp only [])
  generalize framesW l = all at hfa hall hal
  have hr0 : rightR ([], false, ()) = true := rfl
  have hX : feedR ([], false, ()) all = (([], false, ()), l, 0) := by
    unfold feedR
    rw [if_pos hr0, if_neg (by simp)]
    rw [show ((([], false, ()) : Reader).1 ++ all) = all from rfl, hfa]
    rfl
  have e0 : ∀ c ∈ ([] : List Int), byteOK c := fun c hc => by cases hc
  have hFX := G51_is 20000 ([], false, ()) all e0 hall (by simp; omega) (by simp; omega)
  rw [hX] at hFX
  rw [hFX, ocall_some]
  (try simp only [])
  rw [sel_not, sel_pos trivial, sel_not, sel_pos (by rfl), G27_is 20000 l l (by omega) (by omega) hb hb, decide_eq_true rfl, ocall_some]
  simp only [Bool.not_true, sel_false]
  have hcw : IntKind.i64.wrap cut = cut := by rw [wrap64 (by omega) (by omega)]
  obtain ⟨cn, rfl⟩ : ∃ cn : Nat, cut = cn := ⟨cut.toNat, by omega⟩
  have hlw : IntKind.i64.wrap ((all.length : Int) + 1) = ((all.length + 1 : Nat) : Int) := by rw [wrap64 (by omega) (by omega)]; omega
  have htm : (cn : Int).tmod ((all.length + 1 : Nat) : Int) = ((cn % (all.length + 1) : Nat) : Int) := rfl
  have hlt := Nat.mod_lt cn (show 0 < all.length + 1 by omega)
  simp only [hcw, hlw, htm, Int.toNat_natCast, show (Int.ofNat 0).toNat = 0 from rfl, List.drop_zero]
  generalize cn % (all.length + 1) = k at hlt
  rw [sel_not, sel_neg (by omega), sel_pos (by show (0 : Int) ≤ _; omega), sel_pos (by omega), sel_pos (by omega)]
  have ha : ∀ c ∈ all.take k, byteOK c := bytes_take hall k
  have hd : ∀ c ∈ all.drop k, byteOK c := bytes_drop hall k
  obtain ⟨t1, t2, t3, t4⟩ := feed_two (r := ([], false, ())) e0 ha hd hr0
  rw [List.take_append_drop, hX] at t1
  have hla : (all.take k).length ≤ all.length := by rw [List.length_take]; omega
  have hld : (all.drop k).length ≤ all.length := by rw [List.length_drop]; omega
  have hFY := G51_is 20000 ([], false, ()) (all.take k) e0 ha (by simp only [List.length_nil]; omega) (by simp only [List.length_nil]; omega)
  obtain ⟨y1, y2, y3, y4, y5⟩ := feedR_bytes (r := ([], false, ())) (b := all.take k) e0 ha
  simp only [List.length_nil] at y3 y4
  have y6 := y5 hr0
  have hnb : ¬ (feedR ([], false, ()) (all.take k)).1.2.1 = true := fun h => by
    have := (t2 h).2
    rw [← (Prod.mk.inj t1).1] at this
    cases this
  rw [hFY, ocall_some]
  generalize feedR ([], false, ()) (all.take k) = Y at *
  have hY12 : Y.2.2 = 0 := by
    rcases t4 with h | h
    · exact absurd (by rw [t3]; exact decide_eq_true h) hnb
    · exact h
  have hFZ := G51_is 20000 Y.1 (all.drop k) y1 hd (by omega) (by omega)
  obtain ⟨z1, z2, z3, z4, z5⟩ := feedR_bytes (r := Y.1) (b := all.drop k) y1 hd
  generalize feedR Y.1 (all.drop k) = Z at *
  obtain ⟨p1, p2⟩ := Prod.mk.inj t1
  obtain ⟨p2, p3⟩ := Prod.mk.inj p2
  rw [List.take_length, sel_pos (by omega), sel_pos (by omega), sel_pos (by omega), sel_pos (by omega)]
  have hFZ' : G51 20000 ((Y.1.1, Y.1.2.1, ()), all.drop k, ()) = some (Z.1, Z.2.1, Z.2.2, ()) := hFZ
  have hRY : G53 20000 ((Y.1.1, Y.1.2.1, ()), ()) = some (rightR Y.1, ()) := G53_is 20000 Y.1 y1 (by omega)
  (try simp only [])
  rw [hFZ', ocall_some]
  (try simp only [])
  rw [sel_pos hY12, sel_pos p3.symm, hRY, ocall_some, y6, sel_true, ← p1, sel_pos (by rfl), sel_pos (by omega), sel_pos (by omega), ← p2, G27_is 20000 l l (by omega) (by omega) hb hb, decide_eq_true rfl, ocall_some]
theorem pure (x0 : Ty.den (.slice (.slice (.int .u8)))) (x1 : Ty.den (.int .u16)) (g0 : Ty.Good (.slice (.slice (.int .u8))) x0) (g1 : Ty.Good (.int .u16) x1) : ∃ k, F11 k (x0, (x1, PUnit.unit)) = some (true, PUnit.unit) :=
  ⟨20000, main x0 x1 (fun b hb c hc => good_u8 ((g0.2.2 b hb).2.2 c hc)) (good_u16 g1)⟩
end Go.Proofs.Ythglkecbfakmpaa.PureFrameParts
end
section
set_option linter.unusedVariables false
set_option linter.unusedSimpArgs false
namespace Go.Proofs.Ythglkecbfakmpaa.frameParts
open Go.ChangeShapes Go.WideShapes Go.ChangeAt Go.RowKit Go.Proofs.Ythglkecbfakmpaa Th G
open Go.ChangeMaps (open_string shut_string)
theorem own : ownKnob Try.prog.godebug = none := by kernel_rfl
theorem laidOut : laidOutB Try.prog = true := by kernel_rfl
set_option maxRecDepth 100000 in
theorem lifted (os : Os) (started : os.Started) (H : Type) (enc : TypeId × Value → H) :
    ReturnsInHanded {} Try.checked os 11 .any (Rows.framePartsSpec.pre6 enc Try.prog Try.f11 Rows.framePartsRow.domain false) (Rows.framePartsSpec.post enc Try.prog Try.f11 false true false false) := by
  refine returnsInHanded_of_change_sized (C := Try.checked) own started (by kernel_rfl) Try.func11
    (ChangeSpec.witness6 (enc := enc) (C := Try.checked) false ⟨#[], #[.slice none 0 0, .int .u16 0], []⟩ 8 (by kernel_rfl) (by kernel_rfl) (by kernel_rfl) (by kernel_rfl)) ?_
  intro W base args ds gs before hval0 hW hcnd hsz0 _
  have hsz : (DataW.weightsEach Try.prog (Try.f11.params.toList ++ Rows.framePartsSpec.plain.varTypes Try.prog) (ds ++ gs)).all (· ≤ reachBytes) = true := hsz0
  have hval : ∀ (j : Nat) t v, Try.f11.params[j]? = some t → args[j]? = some v → Value.okWide Try.prog W .any base t v := hval0
  have hW' := hW
  obtain ⟨p, q, hA0, hV, rfl, hfz, hnd⟩ := hW
  have hA : DataW.TrodAll enc Try.prog W 0 (fun _ => true) true Try.f11.params.toList args.toList ds p := hA0
  rw [Try.params11] at hA hval hsz
  obtain ⟨v0, vs0, d0, ds0, p0, q0, hargs, rfl, rfl, h0, r0⟩ := trodAll_cons hA
  obtain ⟨v1, vs1, d1, ds1, p1, q1, rfl, rfl, rfl, h1, r1⟩ := trodAll_cons r0
  obtain ⟨rfl, rfl, rfl⟩ := trodAll_nil r1
  obtain rfl : args = #[v0, v1] := by cases args; simp_all
  obtain ⟨rfl, rfl⟩ := trodVars_none hV
  obtain ⟨x0, a0, g0⟩ := open_arg (T := (.slice (.slice (.int .u8)))) (by kernel_rfl) (hval 0 22 v0 rfl rfl) h0 (weights_of hsz (j := 0) (t := 22) rfl rfl)
  have k0 := h0
  have lt0 : ∀ x ∈ p0, x.block < W.heap.size := by obtain ⟨m, hm⟩ := k0; exact DataW.trod_lt m _ _ _ hm
  obtain ⟨x1, a1, g1⟩ := open_arg (T := (.int .u16)) (by kernel_rfl) (hval 1 74 v1 rfl rfl) h1 (weights_of hsz (j := 1) (t := 74) rfl rfl)
  have k1 := h1
  have lt1 : ∀ x ∈ p1, x.block < W.heap.size := by obtain ⟨m, hm⟩ := k1; exact DataW.trod_lt m _ _ _ hm
  obtain ⟨k, hk⟩ := PureFrameParts.pure x0 x1 g0 g1
  clear hA0 hval0 hsz0 hsz
  refine (law_of (fn11 k [Ty.av (.slice (.slice (.int .u8))) x0, Ty.av (.int .u16) x1] (x0, (x1, PUnit.unit)) (true, PUnit.unit) rfl rfl hk) (fun _ _ hr => by cases hr) (us := [v0, v1]) ⟨a0, a1, trivial⟩).mono fun e W' ⟨he, bel⟩ => ?_
  subst he
  exact ⟨_, rfl, _, _, _, [], _, [], hW', trodAll_mk1 (shut_bool Try.underlying4 _), (trodAll_cons_mk (Below.trod laidOut (by kernel_rfl) (of_decide_eq_true (by kernel_rfl)) k0 bel lt0) (trodAll_cons_mk (Below.trod laidOut (by kernel_rfl) (of_decide_eq_true (by kernel_rfl)) k1 bel lt1) trodAll_mk0)), rfl, bel.frame _, fun h => by cases h⟩
theorem over : Rows.framePartsRow.holds Try.pinned (OpenSpec.ofChange Rows.framePartsSpec) :=
  OpenClaim.holds_of_wide 11 Try.f11 rfl rfl rfl rfl rfl rfl rfl ⟨rfl, rfl, rfl, rfl, rfl⟩ rfl rfl rfl rfl rfl (by kernel_rfl) Try.func11 (by kernel_rfl)
    (of_decide_eq_true (by kernel_rfl)) (by unfold Func.isWrapper; first | (rw [if_pos (by decide +kernel)]; kernel_rfl) | (rw [if_neg (by decide +kernel)]; exact ⟨rfl, rfl⟩))
    (fun os started H enc _ => lifted os started H enc)
end Go.Proofs.Ythglkecbfakmpaa.frameParts
namespace Go.Proofs.Ythglkecbfakmpaa
theorem frameParts_holds : Rows.FramePartsSaid := frameParts.over
end Go.Proofs.Ythglkecbfakmpaa
end
