/- What the document's answer for messages answers: reading; laws of reading and writing. -/
import Derived.Test.YtjgnpmdbkgeakaaMessage2
set_option linter.unusedVariables false
set_option linter.unusedSimpArgs false
set_option maxRecDepth 100000
namespace Go.Proofs.Ytjgnpmdbkgeakaa.G
open Go Go.Proofs.Ytjgnpmdbkgeakaa Th Bits

theorem readI_rest : ∀ (fs : List Int) (b : List Int), (readI fs b).2.2 = 0 → ∃ t, t ≤ b.length ∧ (readI fs b).2.1 = b.drop t := by
  intro fs
  induction fs with
  | nil => intro b _; exact ⟨0, Nat.zero_le _, rfl⟩
  | cons n fs ih =>
    intro b h
    unfold readI at h ⊢
    by_cases he : (rdF n b).2.2 = 0
    · rw [if_pos he] at h ⊢
      obtain ⟨d, j, _, e2, _, e4, _⟩ := rd_ok he
      by_cases h2 : (readI fs (b.drop (rdF n b).2.1.toNat)).2.2 = 0
      · rw [if_pos h2]
        obtain ⟨t, ht, hr⟩ := ih _ h2
        rw [List.length_drop] at ht
        refine ⟨(rdF n b).2.1.toNat + t, by omega, ?_⟩
        (try simp only [])
        rw [hr, List.drop_drop]
      · rw [if_neg h2] at h; exact absurd h h2
    · rw [if_neg he] at h; exact absurd h he

theorem readI_cons (n : Int) (l : List Int) (b : List Int) : readI (n :: l) b = if (rdF n b).2.2 = 0 then
      (if (readI l (b.drop (rdF n b).2.1.toNat)).2.2 = 0 then ((n, (rdF n b).1, ()) :: (readI l (b.drop (rdF n b).2.1.toNat)).1, (readI l (b.drop (rdF n b).2.1.toNat)).2.1, 0) else ([], [], (readI l (b.drop (rdF n b).2.1.toNat)).2.2))
    else ([], [], (rdF n b).2.2) := rfl

theorem G26_11_is (k : Nat) (hk : 1200 < k) (a : Txt) (a2 : List Item) (typ : Txt) (m : BM) (gm : goodB m) (b : List Int) (hb : b.length ≤ 1000000000) : ∀ (j f : Nat), f + j = 129 → ∀ (at_ : Nat) (acc : List Item), at_ ≤ b.length → acc.length ≤ f → ∀ n, j < n →
    G26_11 k n (b, (at_ : Int), (f : Int), a, a2, m.1, m.2.1, typ, acc, ()) =
      some (if (readI (fieldsFrom m f j) (b.drop at_)).2.2 = 0 then .inl (b, ((b.length - (readI (fieldsFrom m f j) (b.drop at_)).2.1.length : Nat) : Int), a, a2, typ, acc ++ (readI (fieldsFrom m f j) (b.drop at_)).1, ()) else .inr ((readI (fieldsFrom m f j) (b.drop at_)).2.2, [], [], ())) := by
  intro j
  induction j with
  | zero =>
    intro f hf at_ acc h1 h2 n hn
    obtain ⟨n, rfl⟩ : ∃ m, n = m + 1 := ⟨n - 1, by omega⟩
    rw [G26_11_eq, sel_neg (by omega)]
    have hv : readI (fieldsFrom m f 0) (b.drop at_) = ([], b.drop at_, 0) := rfl
    rw [hv, if_pos rfl, List.length_drop, show b.length - (b.length - at_) = at_ by omega, List.append_nil]
  | succ j ih =>
    intro f hf at_ acc h1 h2 n hn
    obtain ⟨n, rfl⟩ : ∃ m, n = m + 1 := ⟨n - 1, by omega⟩
    have hH := G48_is k (by omega) m gm f
    have ih' := ih (f + 1) (by omega)
    have hff : fieldsFrom m f (j + 1) = (if hasB m f = true then [(f : Int)] else []) ++ fieldsFrom m (f + 1) j := rfl
    obtain ⟨hi, lo, ⟨⟩⟩ := m
    rw [G26_11_eq, sel_pos (by omega), hH, ocall_some]
    have hw : IntKind.i64.wrap ((f : Int) + 1) = ((f + 1 : Nat) : Int) := by rw [wrap64 (by omega) (by omega)]; omega
    rw [hw]
    cases hh : hasB (hi, lo, ()) (f : Int) with
    | false =>
      simp only [Bool.not_false, sel_true]
      rw [ih' at_ acc h1 (by omega) n (by omega)]
      have hv : fieldsFrom (hi, lo, ()) f (j + 1) = fieldsFrom (hi, lo, ()) (f + 1) j := by rw [hff, hh]; rfl
      rw [hv]
    | true =>
      simp only [Bool.not_true, sel_false]
      have hv : fieldsFrom (hi, lo, ()) f (j + 1) = (f : Int) :: fieldsFrom (hi, lo, ()) (f + 1) j := by rw [hff, hh]; rfl
      rw [hv, sel_pos (by omega), sel_pos (by simp only [ofNat_len]; omega), sel_pos (Int.le_refl _), sel_pos (Int.le_refl _), all_of_b, Int.toNat_natCast, G17_rd k (by omega) _ _ (by rw [List.length_drop]; omega), ocall_some]
      (try simp only [])
      by_cases he : (rdF (f : Int) (b.drop at_)).2.2 = 0
      · obtain ⟨d, j', _, e2, e3, e4, _⟩ := rd_ok he
        rw [List.length_drop] at e4
        rw [sel_not, sel_pos he, sel_pos (by omega), wrap64 (by omega) (by omega), show (at_ : Int) + (rdF (f : Int) (b.drop at_)).2.1 = ((at_ + (rdF (f : Int) (b.drop at_)).2.1.toNat : Nat) : Int) by omega]
        rw [ih' _ _ (by omega) (by simp; omega) n (by omega)]
        have hd2 : b.drop (at_ + (rdF (f : Int) (b.drop at_)).2.1.toNat) = (b.drop at_).drop (rdF (f : Int) (b.drop at_)).2.1.toNat := by rw [List.drop_drop]
        rw [hd2]
        by_cases h3 : (readI (fieldsFrom (hi, lo, ()) (f + 1) j) ((b.drop at_).drop (rdF (f : Int) (b.drop at_)).2.1.toNat)).2.2 = 0
        · have hr : readI ((f : Int) :: fieldsFrom (hi, lo, ()) (f + 1) j) (b.drop at_) = (((f : Int), (rdF (f : Int) (b.drop at_)).1, ()) :: (readI (fieldsFrom (hi, lo, ()) (f + 1) j) ((b.drop at_).drop (rdF (f : Int) (b.drop at_)).2.1.toNat)).1, (readI (fieldsFrom (hi, lo, ()) (f + 1) j) ((b.drop at_).drop (rdF (f : Int) (b.drop at_)).2.1.toNat)).2.1, 0) := by
            rw [readI_cons, if_pos he, if_pos h3]
          rw [hr, if_pos h3, if_pos rfl]; simp
        · have hr : readI ((f : Int) :: fieldsFrom (hi, lo, ()) (f + 1) j) (b.drop at_) = ([], [], (readI (fieldsFrom (hi, lo, ()) (f + 1) j) ((b.drop at_).drop (rdF (f : Int) (b.drop at_)).2.1.toNat)).2.2) := by
            rw [readI_cons, if_pos he, if_neg h3]
          rw [hr, if_neg h3, if_neg h3]
      · have hr : readI ((f : Int) :: fieldsFrom (hi, lo, ()) (f + 1) j) (b.drop at_) = ([], [], (rdF (f : Int) (b.drop at_)).2.2) := by rw [readI_cons, if_neg he]
        rw [sel_not, sel_neg he, hr, if_neg he]

theorem readI_nil {fs b : List Int} (h : (readI fs b).2.2 = 0) : (readI fs b).1 = [] ↔ fs = [] := by
  cases fs with
  | nil => exact ⟨fun _ => rfl, fun _ => rfl⟩
  | cons n l =>
    rw [readI_cons] at h ⊢
    by_cases he : (rdF n b).2.2 = 0
    · rw [if_pos he] at h ⊢
      by_cases h2 : (readI l (b.drop (rdF n b).2.1.toNat)).2.2 = 0
      · rw [if_pos h2]; simp
      · rw [if_neg h2] at h; exact absurd h h2
    · rw [if_neg he] at h; exact absurd h he

theorem G26_is (k : Nat) (hk : 1200 < k) (b : List Int) (hb : ∀ c ∈ b, byteOK c) (hl : b.length ≤ 1000000000) : G26 k (b, ()) = some ((readM b).1, (readM b).2, ()) := by
  rw [G26_eq]
  unfold readM
  by_cases c4 : b.length < 4
  · rw [sel_pos (by simp only [ofNat_len]; omega), if_pos c4]; rfl
  rw [sel_neg (by simp only [ofNat_len]; omega), if_neg c4]
  have p4 : (4 : Int) ≤ Int.ofNat b.length := by simp only [ofNat_len]; omega
  rw [sel_pos p4, sel_pos (Int.le_refl _), start4, G38_is k (by omega), ocall_some]
  cases hkn : knownT (ofBytes (b.take 4)) with
  | false => rw [if_neg (by simp)]; rfl
  | true =>
  rw [if_pos rfl]
  simp only [Bool.not_true, sel_false]
  have hb4 : ∀ c ∈ b.drop 4, byteOK c := fun c hc => hb c (List.mem_of_mem_drop hc)
  rw [sel_pos p4, sel_pos (Int.le_refl _), sel_pos (Int.le_refl _), all_of_b, show Int.toNat 4 = 4 from rfl, G47_is k (by omega) _ hb4, ocall_some]
  (try simp only [])
  by_cases he : (readB (b.drop 4)).2.2 = 0
  case neg => rw [if_neg he, sel_not, sel_neg he]; rfl
  rw [if_pos he, sel_not, sel_pos he, sel_pos p4, sel_pos (Int.le_refl _)]
  have hs := readB_size (b.drop 4)
  rw [List.length_drop] at hs
  have hw : IntKind.i64.wrap (4 + (readB (b.drop 4)).2.1) = ((4 + (readB (b.drop 4)).2.1.toNat : Nat) : Int) := by rw [wrap64 (by omega) (by omega)]; omega
  have h11 := G26_11_is k hk [] [] (ofBytes (b.take 4)) (readB (b.drop 4)).1 (readB_good hb4) b hl 127 2 (by omega) (4 + (readB (b.drop 4)).2.1.toNat) [] (by omega) (by simp) k (by omega)
  have e2 : ((2 : Nat) : Int) = 2 := rfl
  rw [e2] at h11
  rw [hw, h11, ocall_some]
  have ef : fieldsFrom (readB (b.drop 4)).1 2 127 = fieldsB (readB (b.drop 4)).1 := rfl
  rw [ef, List.nil_append]
  have hrest := readI_rest (fieldsB (readB (b.drop 4)).1) (b.drop (4 + (readB (b.drop 4)).2.1.toNat))
  have hnil := @readI_nil (fieldsB (readB (b.drop 4)).1) (b.drop (4 + (readB (b.drop 4)).2.1.toNat))
  have hz0 : fieldsB (readB (b.drop 4)).1 = [] → (readI (fieldsB (readB (b.drop 4)).1) (b.drop (4 + (readB (b.drop 4)).2.1.toNat))).2.2 = 0 := fun e0 => by rw [e0]; rfl
  generalize readI (fieldsB (readB (b.drop 4)).1) (b.drop (4 + (readB (b.drop 4)).2.1.toNat)) = r at hrest hnil hz0
  obtain ⟨its, rest, e⟩ := r
  (try simp only [] at hrest hnil hz0 ⊢)
  by_cases hr : e = 0
  · rw [if_pos hr, esel_inl, if_pos hr]
    simp only [ofNat_len]
    obtain ⟨t, ht, hre⟩ := hrest hr
    by_cases hz : fieldsB (readB (b.drop 4)).1 = []
    · rw [if_pos hz, sel_pos (by rw [(hnil hr).2 hz]; rfl)]; rfl
    · have hi : its ≠ [] := fun e => hz ((hnil hr).1 e)
      have hpos : 0 < its.length := List.length_pos_iff.2 hi
      have hrl : rest.length ≤ b.length := by rw [hre, List.length_drop, List.length_drop]; omega
      rw [if_neg hz, sel_neg (show ¬ ((its.length : Nat) : Int) = 0 by omega)]
      by_cases hz2 : rest = []
      · rw [if_pos hz2, hz2, sel_neg (show ¬ ((b.length - ([] : List Int).length : Nat) : Int) < ((b.length : Nat) : Int) by simp)]
      · have : 0 < rest.length := List.length_pos_iff.2 hz2
        rw [if_neg hz2, sel_pos (show ((b.length - rest.length : Nat) : Int) < ((b.length : Nat) : Int) by omega)]; rfl
  · rw [if_neg hr, esel_inr, if_neg hr]
    have hz : fieldsB (readB (b.drop 4)).1 ≠ [] := fun e0 => hr (hz0 e0)
    rw [if_neg hz]; rfl

end Go.Proofs.Ytjgnpmdbkgeakaa.G
