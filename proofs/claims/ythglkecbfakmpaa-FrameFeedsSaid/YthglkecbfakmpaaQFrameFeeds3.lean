/- The statement FrameFeeds, out of what its function answers. No condition. -/
import Derived.Test.YthglkecbfakmpaaQFrameFeeds2
import Derived.Test.YthglkecbfakmpaaRows
import Derived.Carry
section
set_option linter.unusedVariables false
set_option linter.unusedSimpArgs false
set_option maxRecDepth 100000
namespace Go.Proofs.Ythglkecbfakmpaa.G
open Go Go.Proofs.Ythglkecbfakmpaa Th Bits
theorem feedA_neg {all : List Int} (hb : ∀ c ∈ all, byteOK c) (h : firstF all < 0) : feedA all = ([], [], true) := by rw [feedA_eq hb, if_neg (by omega), if_pos h]
theorem feedA_zero {all : List Int} (hb : ∀ c ∈ all, byteOK c) (h : firstF all = 0) : feedA all = ([], all, false) := by rw [feedA_eq hb, if_neg (by omega), if_neg (by omega)]
theorem first_cases (b : List Int) (hb : ∀ c ∈ b, byteOK c) : firstF b = 0 ∨ firstF b = -1 ∨ 0 < firstF b := by
  unfold firstF
  by_cases c2 : b.length < 2
  · rw [if_pos c2]; exact .inl rfl
  obtain ⟨x, y, e0, e1, hx, hy, hh⟩ := hdrN_ok hb (by omega)
  rw [if_neg c2]
  split
  · exact .inr (.inl rfl)
  split
  · exact .inl rfl
  · right; right; omega
def feedR (r : Reader) (b : List Int) : Reader × List (List Int) × Int :=
  if rightR r = true then
    (if r.2.1 = true then (r, [], 12)
     else if (feedA (r.1 ++ b)).2.2 = true then (([], true, ()), (feedA (r.1 ++ b)).1, 12) else (((feedA (r.1 ++ b)).2.1, false, ()), (feedA (r.1 ++ b)).1, 0))
  else (r, [], 1)
theorem cloneB (k : Nat) (l : List Int) (hl : l.length ≤ 1000000000000) : G73 k l = some (l, ()) := by
  rw [G73_eq, sel_pos (by omega)]
theorem G51_g0_is (k : Nat) : ∀ (n : Nat) (all : List Int), all.length ≤ n → (∀ c ∈ all, byteOK c) → all.length ≤ 1000000000 → ∀ (out : List (List Int)), out.length + all.length ≤ 1000000000 → ∀ c, n < c →
    G51_g0 k c (all, out, [], false, ()) = some (if (feedA all).2.2 = true then (out ++ (feedA all).1, 12, [], true, ()) else (out ++ (feedA all).1, 0, (feedA all).2.1, false, ())) := by
  intro n
  induction n with
  | zero =>
    intro all hn hb hl out ho c hc
    obtain ⟨c, rfl⟩ : ∃ m, c = m + 1 := ⟨c - 1, by omega⟩
    have : all = [] := List.eq_nil_of_length_eq_zero (by omega)
    subst this
    have h0 : firstF [] = 0 := rfl
    rw [G51_g0_eq, G79_is k [] hb (by omega), ocall_some, feedA_zero hb h0, if_neg (by simp)]
    simp only [h0]
    rw [sel_neg (by omega), sel_neg (by omega), cloneB k [] (by simp), ocall_some, List.append_nil]
  | succ n ih =>
    intro all hn hb hl out ho c hc
    obtain ⟨c, rfl⟩ : ∃ m, c = m + 1 := ⟨c - 1, by omega⟩
    rw [G51_g0_eq, G79_is k all hb (by omega), ocall_some]
    simp only [ofNat_len]
    rcases first_cases all hb with h | h | h
    · rw [feedA_zero hb h, if_neg (by simp), sel_neg (by omega), sel_neg (by omega), cloneB k all (by omega), ocall_some, List.append_nil]
    · rw [feedA_neg hb (by omega), if_pos rfl, sel_neg (by omega), sel_pos (by omega), List.append_nil]
    · have hf := first_pos hb h
      rw [sel_pos h, sel_pos (by omega), sel_pos (Int.le_refl _), sel_pos (by omega), sel_pos (by omega), sel_pos (by omega), sel_pos (by omega), sel_pos (Int.le_refl _), sel_pos (Int.le_refl _), Int.toNat_natCast, List.take_of_length_le (Nat.le_refl all.length),
        ih _ (by rw [List.length_drop]; omega) (bytes_drop hb _) (by rw [List.length_drop]; omega) _ (by rw [List.length_append, List.length_drop]; simp; omega) c (by omega), feedA_pos hb h]
      have e2 : Int.toNat 2 = 2 := rfl
      rw [e2]
      by_cases hq : (feedA (all.drop (firstF all).toNat)).2.2 = true
      · rw [if_pos hq, if_pos hq]; simp
      · rw [if_neg hq, if_neg hq]; simp
theorem G51_is (k : Nat) (r : Reader) (b : List Int) (hr : ∀ c ∈ r.1, byteOK c) (hb : ∀ c ∈ b, byteOK c) (hl : r.1.length + b.length ≤ 100000000) (hk : r.1.length + b.length + 10 < k) : G51 k (r, b, ()) = some ((feedR r b).1, (feedR r b).2.1, (feedR r b).2.2, ()) := by
  have hR := G53_is k r hr (by omega)
  obtain ⟨rest, br, ⟨⟩⟩ := r
  have hl : rest.length + b.length ≤ 100000000 := hl
  have hk : rest.length + b.length + 10 < k := hk
  have hr : ∀ c ∈ rest, byteOK c := hr
  rw [G51_eq, hR, ocall_some]
  unfold feedR
  cases hrr : rightR (rest, br, ()) with
  | false => rw [if_neg (by simp)]; rfl
  | true =>
  rw [if_pos rfl]
  simp only [Bool.not_true, sel_false]
  cases br with
  | true => rw [sel_true, if_pos rfl]
  | false =>
  rw [sel_false, if_neg (by simp), G78_is k [rest, b] (by simp) (by simp; omega) (by simp only [lenSum]; omega), ocall_some]
  have ef : [rest, b].flatten = rest ++ b := by simp
  have hab := bytes_app hr hb
  have hlen : (rest ++ b).length = rest.length + b.length := List.length_append
  simp only [ef, ofNat_len]
  rw [G79_is k (rest ++ b) hab (by omega), ocall_some]
  (try simp only [])
  generalize rest ++ b = all at hab hlen
  rcases first_cases all hab with h | h | h
  · rw [feedA_zero hab h, if_neg (by simp), sel_neg (by omega), sel_neg (by omega), cloneB k all (by omega), ocall_some]
  · rw [feedA_neg hab (by omega), if_pos rfl, sel_neg (by omega), sel_pos (by omega)]
  · have hf := first_pos hab h
    rw [sel_pos h, sel_pos (by omega), sel_pos (Int.le_refl _), sel_pos (by omega), sel_pos (by omega), sel_pos (by omega), sel_pos (Int.le_refl _), sel_pos (Int.le_refl _), Int.toNat_natCast, List.take_of_length_le (Nat.le_refl all.length),
      G51_g0_is k all.length _ (by rw [List.length_drop]; omega) (bytes_drop hab _) (by rw [List.length_drop]; omega) _ (by rw [List.length_drop]; simp; omega) k (by omega), ocall_some, feedA_pos hab h]
    have e2 : Int.toNat 2 = 2 := rfl
    rw [e2]
    by_cases hq : (feedA (all.drop (firstF all).toNat)).2.2 = true
    · rw [if_pos hq, if_pos hq]; simp
    · rw [if_neg hq, if_neg hq]; simp
end Go.Proofs.Ythglkecbfakmpaa.G
end
section
set_option linter.unusedVariables false
set_option linter.unusedSimpArgs false
set_option maxRecDepth 100000
namespace Go.Proofs.Ythglkecbfakmpaa.G
open Go Go.Proofs.Ythglkecbfakmpaa Th Bits
theorem hdrN_app {r : List Int} (h : 2 ≤ r.length) (t : List Int) : hdrN (r ++ t) = hdrN r := by
  match r, h with
  | a :: b :: r, _ => rfl
theorem feedA_nil : feedA [] = ([], [], false) := rfl
theorem toBytes_ofB : ∀ (b : List Int), (∀ c ∈ b, byteOK c) → toBytes (ofBytes b) = b := by
  intro b
  induction b with
  | nil => intro _; rfl
  | cons c b ih =>
    intro h
    have h1 := h c (List.mem_cons_self ..)
    have h2 := ih fun c hc => h c (List.mem_cons_of_mem _ hc)
    unfold byteOK at h1
    simp only [ofBytes, toBytes, List.map_cons, List.map_map] at h2 ⊢
    rw [h2]
    congr 1
    simp
    omega
theorem ofBytes_inj {a b : List Int} (ha : ∀ c ∈ a, byteOK c) (hb : ∀ c ∈ b, byteOK c) : decide (ofBytes a = ofBytes b) = decide (a = b) := by
  refine decide_eq_decide.2 ⟨fun h => ?_, fun h => by rw [h]⟩
  rw [← toBytes_ofB a ha, h, toBytes_ofB b hb]
theorem G55_is (k : Nat) (a b : Reader) (ha : ∀ c ∈ a.1, byteOK c) (hb : ∀ c ∈ b.1, byteOK c) : G55 k (a, b, ()) = some (decide (a = b), ()) := by
  obtain ⟨a1, a2, ⟨⟩⟩ := a
  obtain ⟨b1, b2, ⟨⟩⟩ := b
  rw [G55_eq, ofBytes_inj ha hb]
  by_cases c1 : a1 = b1 <;> cases a2 <;> cases b2 <;> simp [c1]
theorem G27_4_is (k : Nat) (a b : List (List Int)) (hab : a.length = b.length) (hl : a.length ≤ 1000000000) (ha : ∀ x ∈ a, ∀ c ∈ x, byteOK c) (hb : ∀ x ∈ b, ∀ c ∈ x, byteOK c) : ∀ (j i : Nat), i + j = a.length → ∀ n, j < n →
    G27_4 k n (a, b, (i : Int), ()) = some (sel (decide (a.drop i = b.drop i)) (.inl ()) (.inr (false, ()))) := by
  intro j
  induction j with
  | zero =>
    intro i hij n hn
    obtain ⟨n, rfl⟩ : ∃ m, n = m + 1 := ⟨n - 1, by omega⟩
    rw [G27_4_eq, sel_neg (by simp only [ofNat_len]; omega), List.drop_eq_nil_of_le (by omega), List.drop_eq_nil_of_le (by omega)]
    rfl
  | succ j ih =>
    intro i hij n hn
    obtain ⟨n, rfl⟩ : ∃ m, n = m + 1 := ⟨n - 1, by omega⟩
    have hlt : i < a.length := by omega
    have hlt' : i < b.length := by omega
    rw [G27_4_eq]
    simp only [ofNat_len, Int.toNat_natCast, getD_of hlt, getD_of hlt']
    rw [sel_pos (by omega), sel_pos (by omega), sel_pos (by omega), sel_pos (by omega), sel_pos (by omega), ofBytes_inj (ha _ (List.getElem_mem _)) (hb _ (List.getElem_mem _)), List.drop_eq_getElem_cons hlt, List.drop_eq_getElem_cons hlt', wrap64 (by omega) (by omega)]
    simp only [List.cons.injEq]
    by_cases c : a[i] = b[i]
    · rw [decide_eq_true c, Bool.not_true, sel_false]
      have := ih (i + 1) (by omega) n (by omega)
      simp only [Int.natCast_add, Int.natCast_one] at this
      rw [this]
      have e : decide (a[i] = b[i] ∧ a.drop (i + 1) = b.drop (i + 1)) = decide (a.drop (i + 1) = b.drop (i + 1)) := decide_eq_decide.2 ⟨fun h => h.2, fun h => ⟨c, h⟩⟩
      rw [e]
    · rw [decide_eq_false c, Bool.not_false, sel_true, decide_eq_false (fun h => c h.1)]; rfl
theorem G27_is (k : Nat) (a b : List (List Int)) (hl : a.length ≤ 1000000000) (hk : a.length < k) (ha : ∀ x ∈ a, ∀ c ∈ x, byteOK c) (hb : ∀ x ∈ b, ∀ c ∈ x, byteOK c) : G27 k (a, b, ()) = some (decide (a = b), ()) := by
  rw [G27_eq]
  simp only [ofNat_len]
  by_cases h2 : a.length = b.length
  case neg =>
    rw [decide_eq_false (show ¬ (a.length : Int) = (b.length : Int) by omega), Bool.not_false, sel_true, decide_eq_false (fun e => h2 (by rw [e]))]
  rw [decide_eq_true (show (a.length : Int) = (b.length : Int) by omega), Bool.not_true, sel_false]
  have := G27_4_is k a b h2 hl ha hb a.length 0 (by omega) k hk
  simp only [List.drop_zero, Int.natCast_zero] at this
  rw [this, ocall_some]
  cases decide (a = b) <;> rfl
theorem feed_bytes : ∀ (n : Nat) (all : List Int), all.length ≤ n → (∀ c ∈ all, byteOK c) → (∀ x ∈ (feedA all).1, ∀ c ∈ x, byteOK c) ∧ (∀ c ∈ (feedA all).2.1, byteOK c) ∧ firstF (feedA all).2.1 = 0 ∧ (feedA all).1.length ≤ all.length ∧ (feedA all).2.1.length ≤ all.length := by
  intro n
  induction n with
  | zero =>
    intro all hn hb
    have : all = [] := List.eq_nil_of_length_eq_zero (by omega)
    subst this
    exact ⟨fun x hx => absurd hx (by simp [feedA_nil]), fun x hx => absurd hx (by simp [feedA_nil]), rfl, Nat.zero_le _, Nat.zero_le _⟩
  | succ n ih =>
    intro all hn hb
    rcases first_cases all hb with h | h | h
    · rw [feedA_zero hb h]; exact ⟨fun x hx => absurd hx (by simp), hb, h, Nat.zero_le _, Nat.le_refl _⟩
    · rw [feedA_neg hb (by omega)]; exact ⟨fun x hx => absurd hx (by simp), fun x hx => absurd hx (by simp), rfl, Nat.zero_le _, Nat.zero_le _⟩
    · have hf := first_pos hb h
      rw [feedA_pos hb h]
      obtain ⟨i1, i2, i3, i4, i5⟩ := ih (all.drop (firstF all).toNat) (by rw [List.length_drop]; omega) (bytes_drop hb _)
      rw [List.length_drop] at i4 i5
      refine ⟨fun x hx => ?_, i2, i3, by simp only [List.length_cons]; omega, by (try simp only []); omega⟩
      rcases List.mem_cons.1 hx with rfl | hx
      · exact bytes_drop (bytes_take hb _) _
      · exact i1 x hx
theorem first_app {all : List Int} (hb : ∀ c ∈ all, byteOK c) (h : 0 < firstF all) (t : List Int) : firstF (all ++ t) = firstF all := by
  have hf := first_pos hb h
  have hh := hdrN_app hf.2.2.2.2.2 t
  rw [hf.2.2.1]
  unfold firstF
  rw [if_neg (by rw [List.length_append]; omega), hh, if_neg (by omega), if_neg (by rw [List.length_append]; omega)]
theorem first_app_neg {all : List Int} (hb : ∀ c ∈ all, byteOK c) (h : firstF all = -1) (t : List Int) : firstF (all ++ t) = -1 := by
  unfold firstF at h
  by_cases c2 : all.length < 2
  · rw [if_pos c2] at h; omega
  rw [if_neg c2] at h
  by_cases c3 : hdrN all = 0 ∨ 2048 < hdrN all
  · unfold firstF
    rw [if_neg (by rw [List.length_append]; omega), hdrN_app (by omega), if_pos c3]
  · obtain ⟨x, y, e0, e1, hx, hy, hh⟩ := hdrN_ok hb (by omega)
    rw [if_neg c3] at h
    split at h <;> omega
end Go.Proofs.Ythglkecbfakmpaa.G
end
section
set_option linter.unusedVariables false
set_option linter.unusedSimpArgs false
set_option maxRecDepth 100000
namespace Go.Proofs.Ythglkecbfakmpaa.G
open Go Go.Proofs.Ythglkecbfakmpaa Th Bits
def frameW (b : List Int) : List Int := ((b.length / 256 % 256 : Nat) : Int) :: ((b.length % 256 : Nat) : Int) :: b
def putW (b : List Int) : List Int × Int := if b.length = 0 then ([], 2) else if 2048 < b.length then ([], 4) else (frameW b, 0)
theorem G49_is (k : Nat) (b : List Int) : G49 k (b, ()) = some ((putW b).1, (putW b).2, ()) := by
  rw [G49_eq]
  unfold putW
  by_cases h : b.length = 0
  · rw [sel_pos h, if_pos h]
  · rw [sel_neg h, if_neg h]
    by_cases h2 : 2048 < b.length
    · rw [sel_pos h2, if_pos h2]
    · rw [sel_neg h2, if_neg h2]; rfl
theorem feedA_app : ∀ (n : Nat) (x t : List Int), x.length ≤ n → (∀ c ∈ x, byteOK c) → (∀ c ∈ t, byteOK c) →
    ((feedA x).2.2 = true ∧ (feedA x).2.1 = [] ∧ feedA (x ++ t) = ((feedA x).1, [], true)) ∨ ((feedA x).2.2 = false ∧ feedA (x ++ t) = ((feedA x).1 ++ (feedA ((feedA x).2.1 ++ t)).1, (feedA ((feedA x).2.1 ++ t)).2)) := by
  intro n
  induction n with
  | zero =>
    intro x t hn hx ht
    have : x = [] := List.eq_nil_of_length_eq_zero (by omega)
    subst this
    exact .inr ⟨rfl, rfl⟩
  | succ n ih =>
    intro x t hn hx ht
    rcases first_cases x hx with h | h | h
    · rw [feedA_zero hx h]; exact .inr ⟨rfl, rfl⟩
    · rw [feedA_neg hx (by omega)]
      exact .inl ⟨rfl, rfl, feedA_neg (bytes_app hx ht) (by rw [first_app_neg hx h]; decide)⟩
    · have hp := first_pos hx h
      have hf := first_app hx h t
      have hi := ih (x.drop (firstF x).toNat) t (by rw [List.length_drop]; omega) (bytes_drop hx _) ht
      rw [feedA_pos hx h, feedA_pos (bytes_app hx ht) (by rw [hf]; exact h), hf, List.take_append_of_le_length hp.2.1, List.drop_append_of_le_length hp.2.1]
      rcases hi with ⟨i1, i2, i3⟩ | ⟨i1, i2⟩
      · exact .inl ⟨i1, i2, by rw [i3]⟩
      · exact .inr ⟨i1, by rw [i2]; rfl⟩
theorem feedR_bytes {r : Reader} {b : List Int} (hr : ∀ c ∈ r.1, byteOK c) (hb : ∀ c ∈ b, byteOK c) : (∀ c ∈ (feedR r b).1.1, byteOK c) ∧ (∀ x ∈ (feedR r b).2.1, ∀ c ∈ x, byteOK c) ∧ (feedR r b).2.1.length ≤ r.1.length + b.length ∧ (feedR r b).1.1.length ≤ r.1.length + b.length ∧ (rightR r = true → rightR (feedR r b).1 = true) := by
  obtain ⟨h1, h2, h3, h4, h5⟩ := feed_bytes _ (r.1 ++ b) (Nat.le_refl _) (bytes_app hr hb)
  rw [List.length_append] at h4 h5
  unfold feedR
  by_cases c1 : rightR r = true
  · rw [if_pos c1]
    by_cases c2 : r.2.1 = true
    · rw [if_pos c2]; exact ⟨hr, fun x hx => absurd hx (by simp), Nat.zero_le _, Nat.le_add_right _ _, fun _ => c1⟩
    · rw [if_neg c2]
      by_cases c3 : (feedA (r.1 ++ b)).2.2 = true
      · rw [if_pos c3]; exact ⟨fun x hx => absurd hx (by simp), h1, h4, Nat.zero_le _, fun _ => rfl⟩
      · rw [if_neg c3]; exact ⟨h2, h1, h4, h5, fun _ => by unfold rightR; rw [if_neg (by simp)]; exact decide_eq_true h3⟩
  · rw [if_neg c1]; exact ⟨hr, fun x hx => absurd hx (by simp), Nat.zero_le _, Nat.le_add_right _ _, fun h => absurd h c1⟩
theorem feed_two {r : Reader} {a b : List Int} (hr : ∀ c ∈ r.1, byteOK c) (ha : ∀ c ∈ a, byteOK c) (hb : ∀ c ∈ b, byteOK c) (h : rightR r = true) :
    feedR r (a ++ b) = ((feedR (feedR r a).1 b).1, (feedR r a).2.1 ++ (feedR (feedR r a).1 b).2.1, (feedR (feedR r a).1 b).2.2) ∧ ((feedR r a).1.2.1 = true → (feedR (feedR r a).1 b).2.1 = [] ∧ (feedR (feedR r a).1 b).1.2.1 = true) ∧
    ((feedR r a).1.2.1 = decide ((feedR r a).2.2 = 12)) ∧ ((feedR r a).2.2 = 12 ∨ (feedR r a).2.2 = 0) := by
  obtain ⟨rest, br, ⟨⟩⟩ := r
  have hr : ∀ c ∈ rest, byteOK c := hr
  have hrr := (feedR_bytes (r := (rest, br, ())) (b := a) hr ha).2.2.2.2 h
  cases br with
  | true =>
    have e : ∀ x, feedR (rest, true, ()) x = ((rest, true, ()), [], 12) := fun x => by unfold feedR; rw [if_pos h, if_pos rfl]
    rw [e, e]
    (try simp only [])
    rw [e]
    exact ⟨rfl, fun _ => ⟨rfl, rfl⟩, rfl, .inl trivial⟩
  | false =>
    have e : ∀ x, feedR (rest, false, ()) x = if (feedA (rest ++ x)).2.2 = true then (([], true, ()), (feedA (rest ++ x)).1, 12) else (((feedA (rest ++ x)).2.1, false, ()), (feedA (rest ++ x)).1, 0) := fun x => by unfold feedR; rw [if_pos h, if_neg (by simp)]
    rw [e a] at hrr
    rw [e, e, ← List.append_assoc]
    rcases feedA_app _ (rest ++ a) b (Nat.le_refl _) (bytes_app hr ha) hb with ⟨i1, i2, i3⟩ | ⟨i1, i2⟩
    · rw [i3, if_pos rfl, if_pos i1]
      have e2 : feedR ([], true, ()) b = (([], true, ()), [], 12) := rfl
      (try simp only [])
      rw [e2]
      exact ⟨by simp, fun _ => ⟨rfl, rfl⟩, rfl, .inl trivial⟩
    · have hn : ¬ (feedA (rest ++ a)).2.2 = true := by rw [i1]; simp
      rw [if_neg hn] at hrr ⊢
      have e2 : feedR ((feedA (rest ++ a)).2.1, false, ()) b = if (feedA ((feedA (rest ++ a)).2.1 ++ b)).2.2 = true then (([], true, ()), (feedA ((feedA (rest ++ a)).2.1 ++ b)).1, 12) else (((feedA ((feedA (rest ++ a)).2.1 ++ b)).2.1, false, ()), (feedA ((feedA (rest ++ a)).2.1 ++ b)).1, 0) := by
        unfold feedR; rw [if_pos hrr, if_neg (by simp)]
      (try simp only [])
      rw [i2, e2]
      refine ⟨?_, fun h => absurd h (by simp), rfl, .inr trivial⟩
      by_cases c : (feedA ((feedA (rest ++ a)).2.1 ++ b)).2.2 = true
      · rw [if_pos c, if_pos c]
      · rw [if_neg c, if_neg c]
end Go.Proofs.Ythglkecbfakmpaa.G
end
section
set_option linter.unusedVariables false
set_option linter.unusedSimpArgs false
set_option maxRecDepth 100000
namespace Go.Proofs.Ythglkecbfakmpaa.G
open Go Go.Proofs.Ythglkecbfakmpaa Th Bits
theorem G48_is (k : Nat) (hk : 100 < k) : G48 k () = some (true, ()) := by
  have f1 := G51_is k ([], false, ()) [0, 1, 65, 0] (by simp) (by simp [byteOK]) (by simp) (by simp; omega)
  have e1 : feedR ([], false, ()) [0, 1, 65, 0] = (([0], false, ()), [[65]], 0) := by kernel_rfl
  rw [e1] at f1
  have f2 := G51_is k ([0], false, ()) [0] (by simp [byteOK]) (by simp [byteOK]) (by simp) (by simp; omega)
  have e2 : feedR ([0], false, ()) [0] = (([], true, ()), [], 12) := by kernel_rfl
  rw [e2] at f2
  have r1 := G53_is k ([0], false, ()) (by simp [byteOK]) (by simp)
  have e3 : rightR ([0], false, ()) = true := by kernel_rfl
  rw [e3] at r1
  have p1 : putW [65] = ([0, 1, 65], 0) := by kernel_rfl
  have p2 : putW [] = ([], 2) := by kernel_rfl
  rw [G48_eq, G49_is, p1, ocall_some]
  (try simp only [])
  rw [sel_pos (by decide), sel_pos (by decide), show ([0, 1, 65] : List Int) ++ [0] = [0, 1, 65, 0] from rfl, f1, ocall_some]
  (try simp only [])
  rw [f2, ocall_some, G49_is, p2, ocall_some]
  (try simp only [])
  rw [r1, ocall_some]
  rfl
end Go.Proofs.Ythglkecbfakmpaa.G
end
section
set_option linter.unusedVariables false
set_option linter.unusedSimpArgs false
namespace Go.Proofs.Ythglkecbfakmpaa.PureFrameFeeds
open Go Go.Proofs.Ythglkecbfakmpaa Th Bits G
theorem main (r : Reader) (a b : List Int) (hr : ∀ c ∈ r.1, byteOK c) (ha : ∀ c ∈ a, byteOK c) (hb : ∀ c ∈ b, byteOK c) : G12 20000 (r, a, b, ()) = some (true, ()) := by
  have hR := G53_is 20000 r hr
  have hX := G51_is 20000 r (a ++ b) hr (bytes_app ha hb)
  have hY := G51_is 20000 r a hr ha
  obtain ⟨y1, y2, y3, y4, y5⟩ := feedR_bytes hr ha
  obtain ⟨x1, x2, x3, x4, x5⟩ := feedR_bytes hr (bytes_app ha hb)
  rw [List.length_append] at x3 x4
  have hZ := G51_is 20000 (feedR r a).1 b y1 hb
  obtain ⟨z1, z2, z3, z4, z5⟩ := feedR_bytes y1 hb
  have hRX := G53_is 20000 (feedR r (a ++ b)).1 x1
  have hRY := G53_is 20000 (feedR r a).1 y1
  have ht := feed_two hr ha hb
  have htx := fun h => (feed_two (b := []) hr (bytes_app ha hb) (by simp) h).2.2.1
  have hS := G55_is 20000 (feedR r (a ++ b)).1 (feedR (feedR r a).1 b).1 x1 z1
  have hL := G27_is 20000 (feedR r (a ++ b)).2.1 ((feedR r a).2.1 ++ (feedR (feedR r a).1 b).2.1)
  rw [show (r : Reader) = (r.1, r.2.1, ()) from rfl, G12_eq, G48_is 20000 (by omega), ocall_some, show ((r.1, r.2.1, ()) : Reader) = r from rfl]
  simp only [Bool.not_true, sel_false, ofNat_len]
  by_cases c : (5000 : Int) < r.1.length
  · rw [sel_pos c]
  by_cases c2 : (5000 : Int) < a.length
  · rw [sel_neg c, sel_pos c2]
  by_cases c3 : (5000 : Int) < b.length
  · rw [sel_neg c, sel_neg c2, sel_pos c3]
  rw [sel_neg c, sel_neg c2, sel_neg c3, hR (by omega), ocall_some]
  by_cases hrr : rightR r = true
  case neg =>
    have : rightR r = false := by simpa using hrr
    rw [this]; rfl
  rw [hrr]
  obtain ⟨t1, t2, t3, t4⟩ := ht hrr
  have t5 := htx hrr
  have hX := hX (by rw [List.length_append]; omega) (by rw [List.length_append]; omega)
  have hY := hY (by omega) (by omega)
  have hZ := hZ (by omega) (by omega)
  have hRX := hRX (by omega)
  have hRY := hRY (by omega)
  rw [x5 hrr] at hRX
  rw [y5 hrr] at hRY
  have hL := hL (by omega) (by omega) x2 (fun x hx => (List.mem_append.1 hx).elim (y2 x) (z2 x))
  rw [decide_eq_true (by rw [t1])] at hS hL
  rw [Bool.not_true, sel_false, sel_pos (by omega), sel_pos (by omega), hX, ocall_some, hY, ocall_some]
  have hZ' : G51 20000 (((feedR r a).1.1, (feedR r a).1.2.1, ()), b, ()) = some ((feedR (feedR r a).1 b).1, (feedR (feedR r a).1 b).2.1, (feedR (feedR r a).1 b).2.2, ()) := hZ
  have hRX' : G53 20000 (((feedR r (a ++ b)).1.1, (feedR r (a ++ b)).1.2.1, ()), ()) = some (true, ()) := hRX
  have hRY' : G53 20000 (((feedR r a).1.1, (feedR r a).1.2.1, ()), ()) = some (true, ()) := hRY
  have hS' : G55 20000 (((feedR r (a ++ b)).1.1, (feedR r (a ++ b)).1.2.1, ()), ((feedR (feedR r a).1 b).1.1, (feedR (feedR r a).1 b).1.2.1, ()), ()) = some (true, ()) := hS
  (try simp only [])
  rw [hZ', ocall_some, hRX', ocall_some, sel_true, hRY', ocall_some, sel_true, hS', ocall_some, sel_true]
  (try simp only [])
  have e22 : (feedR r (a ++ b)).2.2 = (feedR (feedR r a).1 b).2.2 := by rw [t1]
  rw [sel_pos e22, sel_pos (by omega), sel_pos (by omega), hL, ocall_some, sel_true, t5, beq_self_eq_true, sel_true]
  by_cases hyb : (feedR r a).1.2.1 = true
  · rw [hyb, Bool.not_true, sel_false, (t2 hyb).1]; rfl
  · have : (feedR r a).1.2.1 = false := by simpa using hyb
    rw [this]; rfl
theorem pure (x0 : Ty.den (.st (.cons (.slice (.int .u8)) (.cons .bool .nil)))) (x1 : Ty.den (.slice (.int .u8))) (x2 : Ty.den (.slice (.int .u8))) (g0 : Ty.Good (.st (.cons (.slice (.int .u8)) (.cons .bool .nil))) x0) (g1 : Ty.Good (.slice (.int .u8)) x1) (g2 : Ty.Good (.slice (.int .u8)) x2) : ∃ k, F12 k (x0, (x1, (x2, PUnit.unit))) = some (true, PUnit.unit) :=
  ⟨20000, main x0 x1 x2 (fun c hc => good_u8 (g0.1.2.2 c hc)) (fun c hc => good_u8 (g1.2.2 c hc)) (fun c hc => good_u8 (g2.2.2 c hc))⟩
end Go.Proofs.Ythglkecbfakmpaa.PureFrameFeeds
end
section
set_option linter.unusedVariables false
set_option linter.unusedSimpArgs false
namespace Go.Proofs.Ythglkecbfakmpaa.frameFeeds
open Go.ChangeShapes Go.WideShapes Go.ChangeAt Go.RowKit Go.Proofs.Ythglkecbfakmpaa Th G
open Go.ChangeMaps (open_string shut_string)
theorem own : ownKnob Try.prog.godebug = none := by kernel_rfl
theorem laidOut : laidOutB Try.prog = true := by kernel_rfl
set_option maxRecDepth 100000 in
theorem lifted (os : Os) (started : os.Started) (H : Type) (enc : TypeId × Value → H) :
    ReturnsInHanded {} Try.checked os 12 .any (Rows.frameFeedsSpec.pre6 enc Try.prog Try.f12 Rows.frameFeedsRow.domain false) (Rows.frameFeedsSpec.post enc Try.prog Try.f12 false true false false) := by
  refine returnsInHanded_of_change_sized (C := Try.checked) own started (by kernel_rfl) Try.func12
    (ChangeSpec.witness6 (enc := enc) (C := Try.checked) false ⟨#[], #[.agg #[.slice none 0 0, .bool false], .slice none 0 0, .slice none 0 0], []⟩ 8 (by kernel_rfl) (by kernel_rfl) (by kernel_rfl) (by kernel_rfl)) ?_
  intro W base args ds gs before hval0 hW hcnd hsz0 _
  have hsz : (DataW.weightsEach Try.prog (Try.f12.params.toList ++ Rows.frameFeedsSpec.plain.varTypes Try.prog) (ds ++ gs)).all (· ≤ reachBytes) = true := hsz0
  have hval : ∀ (j : Nat) t v, Try.f12.params[j]? = some t → args[j]? = some v → Value.okWide Try.prog W .any base t v := hval0
  have hW' := hW
  obtain ⟨p, q, hA0, hV, rfl, hfz, hnd⟩ := hW
  have hA : DataW.TrodAll enc Try.prog W 0 (fun _ => true) true Try.f12.params.toList args.toList ds p := hA0
  rw [Try.params12] at hA hval hsz
  obtain ⟨v0, vs0, d0, ds0, p0, q0, hargs, rfl, rfl, h0, r0⟩ := trodAll_cons hA
  obtain ⟨v1, vs1, d1, ds1, p1, q1, rfl, rfl, rfl, h1, r1⟩ := trodAll_cons r0
  obtain ⟨v2, vs2, d2, ds2, p2, q2, rfl, rfl, rfl, h2, r2⟩ := trodAll_cons r1
  obtain ⟨rfl, rfl, rfl⟩ := trodAll_nil r2
  obtain rfl : args = #[v0, v1, v2] := by cases args; simp_all
  obtain ⟨rfl, rfl⟩ := trodVars_none hV
  obtain ⟨x0, a0, g0⟩ := open_arg (T := (.st (.cons (.slice (.int .u8)) (.cons .bool .nil)))) (by kernel_rfl) (hval 0 77 v0 rfl rfl) h0 (weights_of hsz (j := 0) (t := 77) rfl rfl)
  have k0 := h0
  have lt0 : ∀ x ∈ p0, x.block < W.heap.size := by obtain ⟨m, hm⟩ := k0; exact DataW.trod_lt m _ _ _ hm
  obtain ⟨x1, a1, g1⟩ := open_arg (T := (.slice (.int .u8))) (by kernel_rfl) (hval 1 35 v1 rfl rfl) h1 (weights_of hsz (j := 1) (t := 35) rfl rfl)
  have k1 := h1
  have lt1 : ∀ x ∈ p1, x.block < W.heap.size := by obtain ⟨m, hm⟩ := k1; exact DataW.trod_lt m _ _ _ hm
  obtain ⟨x2, a2, g2⟩ := open_arg (T := (.slice (.int .u8))) (by kernel_rfl) (hval 2 35 v2 rfl rfl) h2 (weights_of hsz (j := 2) (t := 35) rfl rfl)
  have k2 := h2
  have lt2 : ∀ x ∈ p2, x.block < W.heap.size := by obtain ⟨m, hm⟩ := k2; exact DataW.trod_lt m _ _ _ hm
  obtain ⟨k, hk⟩ := PureFrameFeeds.pure x0 x1 x2 g0 g1 g2
  clear hA0 hval0 hsz0 hsz
  refine (law_of (fn12 k [Ty.av (.st (.cons (.slice (.int .u8)) (.cons .bool .nil))) x0, Ty.av (.slice (.int .u8)) x1, Ty.av (.slice (.int .u8)) x2] (x0, (x1, (x2, PUnit.unit))) (true, PUnit.unit) rfl rfl hk) (fun _ _ hr => by cases hr) (us := [v0, v1, v2]) ⟨a0, a1, a2, trivial⟩).mono fun e W' ⟨he, bel⟩ => ?_
  subst he
  exact ⟨_, rfl, _, _, _, [], _, [], hW', trodAll_mk1 (shut_bool Try.underlying4 _), (trodAll_cons_mk (Below.trod laidOut (by kernel_rfl) (of_decide_eq_true (by kernel_rfl)) k0 bel lt0) (trodAll_cons_mk (Below.trod laidOut (by kernel_rfl) (of_decide_eq_true (by kernel_rfl)) k1 bel lt1) (trodAll_cons_mk (Below.trod laidOut (by kernel_rfl) (of_decide_eq_true (by kernel_rfl)) k2 bel lt2) trodAll_mk0))), rfl, bel.frame _, fun h => by cases h⟩
theorem over : Rows.frameFeedsRow.holds Try.pinned (OpenSpec.ofChange Rows.frameFeedsSpec) :=
  OpenClaim.holds_of_wide 12 Try.f12 rfl rfl rfl rfl rfl rfl rfl ⟨rfl, rfl, rfl, rfl, rfl⟩ rfl rfl rfl rfl rfl (by kernel_rfl) Try.func12 (by kernel_rfl)
    (of_decide_eq_true (by kernel_rfl)) (by unfold Func.isWrapper; first | (rw [if_pos (by decide +kernel)]; kernel_rfl) | (rw [if_neg (by decide +kernel)]; exact ⟨rfl, rfl⟩))
    (fun os started H enc _ => lifted os started H enc)
end Go.Proofs.Ythglkecbfakmpaa.frameFeeds
namespace Go.Proofs.Ythglkecbfakmpaa
theorem frameFeeds_holds : Rows.FrameFeedsSaid := frameFeeds.over
end Go.Proofs.Ythglkecbfakmpaa
end
