/- Laws of bitmaps, their fields and their bytes. -/
import Derived.Test.YtjgnpmdbkgeakaaBitmap
set_option linter.unusedVariables false
set_option linter.unusedSimpArgs false
set_option maxRecDepth 100000
namespace Go.Proofs.Ytjgnpmdbkgeakaa.G
open Go Go.Proofs.Ytjgnpmdbkgeakaa Th Bits

theorem sorted_ext : ∀ (a b : List Int), a.Pairwise (· < ·) → b.Pairwise (· < ·) → (∀ x, x ∈ a ↔ x ∈ b) → a = b := by
  intro a
  induction a with
  | nil =>
    intro b _ _ h
    cases b with
    | nil => rfl
    | cons y b => exact absurd ((h y).2 (List.mem_cons_self ..)) (by simp)
  | cons x a ih =>
    intro b ha hb h
    cases b with
    | nil => exact absurd ((h x).1 (List.mem_cons_self ..)) (by simp)
    | cons y b =>
      rw [List.pairwise_cons] at ha hb
      have hxy : x = y := by
        have h1 := (h x).1 (List.mem_cons_self ..)
        have h2 := (h y).2 (List.mem_cons_self ..)
        rcases List.mem_cons.1 h1 with e | e
        · exact e
        · rcases List.mem_cons.1 h2 with e2 | e2
          · exact e2.symm
          · have := hb.1 x e; have := ha.1 y e2; omega
      subst hxy
      rw [ih b ha.2 hb.2 fun z => ?_]
      constructor
      · intro hz
        have hlt := ha.1 z hz
        rcases List.mem_cons.1 ((h z).1 (List.mem_cons_of_mem _ hz)) with e | e
        · omega
        · exact e
      · intro hz
        have hlt := hb.1 z hz
        rcases List.mem_cons.1 ((h z).2 (List.mem_cons_of_mem _ hz)) with e | e
        · omega
        · exact e

theorem nat_ext {x y : Nat} (hx : x < 18446744073709551616) (hy : y < 18446744073709551616) (h : ∀ i, i < 64 → x.testBit i = y.testBit i) : x = y := by
  apply Nat.eq_of_testBit_eq
  intro i
  by_cases c : i < 64
  · exact h i c
  · rw [high_zero hx (by omega), high_zero hy (by omega)]

theorem bit_ext {a b : BM} (ga : goodB a) (gb : goodB b) (h : ∀ n : Nat, 1 ≤ n → n ≤ 128 → bitB a n = bitB b n) : a = b := by
  obtain ⟨ha, la, ⟨⟩⟩ := a
  obtain ⟨hb, lb, ⟨⟩⟩ := b
  obtain ⟨ha, rfl, ha'⟩ := nat_of ga.1
  obtain ⟨la, rfl, la'⟩ := nat_of ga.2
  obtain ⟨hb, rfl, hb'⟩ := nat_of gb.1
  obtain ⟨lb, rfl, lb'⟩ := nat_of gb.2
  have e1 : ha = hb := nat_ext ha' hb' fun i hi => by
    have := h (64 - i) (by omega) (by omega)
    unfold bitB at this
    rw [if_pos (by omega), if_pos (by omega)] at this
    simpa [show 64 - (64 - i) = i by omega] using this
  have e2 : la = lb := nat_ext la' lb' fun i hi => by
    have := h (128 - i) (by omega) (by omega)
    unfold bitB at this
    rw [if_neg (by omega), if_neg (by omega)] at this
    simpa [show 128 - (128 - i) = i by omega] using this
  rw [e1, e2]

theorem low_bits {m : BM} (gm : goodB m) : m.2.1 ≠ 0 ↔ ∃ n : Nat, 65 ≤ n ∧ n ≤ 128 ∧ bitB m n = true := by
  obtain ⟨hi, lo, ⟨⟩⟩ := m
  obtain ⟨lo, rfl, hl⟩ := nat_of gm.2
  constructor
  · intro hz
    have hz' : ¬ lo = 0 := fun e => hz (by rw [e]; rfl)
    apply Classical.byContradiction
    intro hn
    apply hz'
    apply nat_ext hl (by decide)
    intro i hi
    cases ht : lo.testBit i with
    | false => rw [Nat.zero_testBit]
    | true =>
      exfalso
      refine hn ⟨128 - i, by omega, by omega, ?_⟩
      unfold bitB
      rw [if_neg (by omega)]
      simpa [show 128 - (128 - i) = i by omega] using ht
  · rintro ⟨n, h1, h2, h3⟩ hz
    have hz' : lo = 0 := by
      have : (lo : Int) = 0 := hz
      omega
    subst hz'
    unfold bitB at h3
    rw [if_neg (by omega)] at h3
    simp at h3

theorem field_nat {n : Nat} (h1 : 2 ≤ n) (h2 : n ≤ 128) (h3 : n ≠ 65) : fieldB (n : Int) = true := fieldB_iff.2 ⟨by omega, by omega, by omega⟩
theorem has_nat {m : BM} {n : Nat} (h1 : 2 ≤ n) (h2 : n ≤ 128) (h3 : n ≠ 65) : hasB m (n : Int) = bitB m n := by
  unfold hasB
  rw [field_nat h1 h2 h3, Bool.true_and, Int.toNat_natCast]

/-- a bitmap that is right is what its fields say -/
theorem right_ext {a b : BM} (ga : goodB a) (gb : goodB b) (ra : rightB a = true) (rb : rightB b = true) (h : ∀ x, hasB a x = hasB b x) : a = b := by
  obtain ⟨a1, a2⟩ := rightB_iff.1 ra
  obtain ⟨b1, b2⟩ := rightB_iff.1 rb
  have hbit : ∀ n : Nat, 2 ≤ n → n ≤ 128 → bitB a n = bitB b n := by
    intro n h1 h2
    by_cases c : n = 65
    · subst c; rw [a1, b1]
    · rw [← has_nat h1 h2 c, ← has_nat h1 h2 c, h]
  refine bit_ext ga gb fun n h1 h2 => ?_
  by_cases c : n = 1
  · subst c
    have key : a.2.1 ≠ 0 ↔ b.2.1 ≠ 0 := by
      rw [low_bits ga, low_bits gb]
      exact ⟨fun ⟨n, h1, h2, h3⟩ => ⟨n, h1, h2, by rw [← hbit n (by omega) h2]; exact h3⟩, fun ⟨n, h1, h2, h3⟩ => ⟨n, h1, h2, by rw [hbit n (by omega) h2]; exact h3⟩⟩
    have : bitB a 1 = true ↔ bitB b 1 = true := by rw [a2, b2]; exact key
    cases ha : bitB a 1 <;> cases hb : bitB b 1 <;> simp [ha, hb] at this ⊢
  · exact hbit n (by omega) h2

theorem hasB_set {m : BM} {n : Nat} (h1 : 2 ≤ n) (h2 : n ≤ 128) (h3 : n ≠ 65) (x : Int) : hasB (setB m n) x = (hasB m x || decide (x = n)) := by
  by_cases hf : fieldB x = true
  · obtain ⟨f1, f2, f3⟩ := fieldB_iff.1 hf
    obtain ⟨x, rfl⟩ : ∃ y : Nat, x = y := ⟨x.toNat, by omega⟩
    rw [has_nat (by omega) (by omega) (by omega), has_nat (by omega) (by omega) (by omega), setB_bit (by omega) h2 (by omega) (by omega), decide_eq_false (show ¬ (64 < n ∧ x = 1) by omega), Bool.or_false]
    congr 1
    exact decide_eq_decide.2 (by omega)
  · have hx : ¬ x = n := fun e => hf (by rw [e]; exact field_nat h1 h2 h3)
    unfold hasB
    rw [Bool.eq_false_iff.2 hf, decide_eq_false hx]; rfl

theorem ofB_ok : ∀ (l : List Int) (m : BM), goodB m → rightB m = true → (∀ x ∈ l, fieldB x = true) → (ofB m l).2 = 0 ∧ goodB (ofB m l).1 ∧ rightB (ofB m l).1 = true ∧ ∀ x, hasB (ofB m l).1 x = (hasB m x || decide (x ∈ l)) := by
  intro l
  induction l with
  | nil => intro m gm rm _; exact ⟨rfl, gm, rm, fun x => by simp [ofB]⟩
  | cons n l ih =>
    intro m gm rm hf
    have hn := hf n (List.mem_cons_self ..)
    obtain ⟨f1, f2, f3⟩ := fieldB_iff.1 hn
    obtain ⟨n, rfl⟩ : ∃ m : Nat, n = m := ⟨n.toNat, by omega⟩
    have hp : putB m (n : Int) = (setB m n, 0) := by unfold putB; rw [if_pos ⟨rm, hn⟩]; rfl
    have ho : ofB m ((n : Int) :: l) = ofB (setB m n) l := by
      show (if (putB m (n : Int)).2 = 0 then ofB (putB m (n : Int)).1 l else _) = _
      rw [hp]; rfl
    rw [ho]
    obtain ⟨h1, h2, h3, h4⟩ := ih (setB m n) (setB_good gm (by omega) (by omega)) (setB_right rm (by omega) (by omega) (by omega)) fun x hx => hf x (List.mem_cons_of_mem _ hx)
    refine ⟨h1, h2, h3, fun x => ?_⟩
    rw [h4, hasB_set (by omega) (by omega) (by omega), Bool.or_assoc]
    congr 1
    by_cases c : x = n
    · simp [c]
    · simp [c]

def zeroB : BM := (0, 0, ())
theorem zeroB_good : goodB zeroB := ⟨⟨by decide, by decide⟩, by decide, by decide⟩
theorem zeroB_right : rightB zeroB = true := by rfl
theorem zeroB_has (x : Int) : hasB zeroB x = false := by
  unfold hasB
  have : bitB zeroB x.toNat = false := by unfold bitB zeroB; split <;> simp
  rw [this, Bool.and_false]

theorem hasB_field {m : BM} {x : Int} (h : hasB m x = true) : fieldB x = true := by unfold hasB at h; simp only [Bool.and_eq_true] at h; exact h.1

theorem of_fields {m : BM} (gm : goodB m) (rm : rightB m = true) : ofB zeroB (fieldsB m) = (m, 0) := by
  obtain ⟨h1, h2, h3, h4⟩ := ofB_ok (fieldsB m) zeroB zeroB_good zeroB_right fun x hx => hasB_field ((fieldsB_mem m x).1 hx)
  have : (ofB zeroB (fieldsB m)).1 = m := by
    refine right_ext h2 gm h3 rm fun x => ?_
    rw [h4, zeroB_has, Bool.false_or]
    cases hx : hasB m x with
    | true => exact decide_eq_true ((fieldsB_mem m x).2 hx)
    | false => exact decide_eq_false fun h => by rw [(fieldsB_mem m x).1 h] at hx; cases hx
  exact Prod.ext this h1

theorem fields_of {l : List Int} (hs : l.Pairwise (· < ·)) (hf : ∀ x ∈ l, fieldB x = true) : fieldsB (ofB zeroB l).1 = l := by
  obtain ⟨h1, h2, h3, h4⟩ := ofB_ok l zeroB zeroB_good zeroB_right hf
  refine sorted_ext _ _ (fieldsFrom_sorted _ _ _) hs fun x => ?_
  rw [fieldsB_mem, h4, zeroB_has, Bool.false_or, decide_eq_true_eq]

/-! bytes -/
theorem bytesB_len (m : BM) : (bytesB m).length = if m.2.1 = 0 then 8 else 16 := by unfold bytesB; split <;> simp [be8]
theorem bytesB_bytes (m : BM) : ∀ c ∈ bytesB m, byteOK c := by
  unfold bytesB
  split
  · exact be8_bytes _
  · intro c hc
    rcases List.mem_append.1 hc with h | h
    · exact be8_bytes _ c h
    · exact be8_bytes _ c h

theorem bit_one (hi lo : Nat) : bitB ((hi : Int), (lo : Int), ()) 1 = hi.testBit 63 := by simp [bitB]

theorem take8 (w : Nat) (t : List Int) : (be8 w ++ t).take 8 = be8 w := rfl

theorem read_bytes {m : BM} (gm : goodB m) (rm : rightB m = true) (t : List Int) : readB (bytesB m ++ t) = (m, ((bytesB m).length : Int), 0) := by
  obtain ⟨r1, r2⟩ := rightB_iff.1 rm
  obtain ⟨hi, lo, ⟨⟩⟩ := m
  obtain ⟨hi, rfl, hh⟩ := nat_of gm.1
  obtain ⟨lo, rfl, hl⟩ := nat_of gm.2
  rw [bit_one] at r2
  have r2 : hi.testBit 63 = true ↔ ¬ (lo : Int) = 0 := r2
  have hlen := bytesB_len ((hi : Int), (lo : Int), ())
  unfold readB
  by_cases hz : (lo : Int) = 0
  · have hb : bytesB ((hi : Int), (lo : Int), ()) = be8 hi := if_pos hz
    have ht : (be8 hi ++ t).take 8 = be8 hi := take8 _ _
    have h63 : ¬ hi.testBit 63 = true := fun h => r2.1 h hz
    rw [hb, ht, num8_be8 hh, if_neg (by rw [List.length_append, be8_len]; omega), if_neg h63]
    have e0 : lo = 0 := by omega
    subst e0
    have rm' : rightB ((hi : Int), 0, ()) = true := rm
    rw [if_pos rm']; rfl
  · have hb : bytesB ((hi : Int), (lo : Int), ()) = be8 hi ++ be8 lo := if_neg hz
    have ht : ((be8 hi ++ be8 lo) ++ t).take 8 = be8 hi := by rw [List.append_assoc, take8]
    have hd : (((be8 hi ++ be8 lo) ++ t).drop 8).take 8 = be8 lo := by
      rw [List.append_assoc, show (be8 hi ++ (be8 lo ++ t)).drop 8 = be8 lo ++ t from rfl, take8]
    rw [hb, ht, hd, num8_be8 hh, num8_be8 hl, if_neg (by simp only [List.length_append, be8_len]; omega), if_pos (r2.2 hz), if_neg (by simp only [List.length_append, be8_len]; omega), if_pos rm]
    rfl

theorem bytes_read {b : List Int} (hb : ∀ c ∈ b, byteOK c) (h : (readB b).2.2 = 0) : ∃ n : Nat, (readB b).2.1 = n ∧ n ≤ b.length ∧ 8 ≤ n ∧ goodB (readB b).1 ∧ rightB (readB b).1 = true ∧ bytesB (readB b).1 = b.take n := by
  unfold readB at h ⊢
  by_cases c8 : b.length < 8
  · rw [if_pos c8] at h; exact absurd h (by decide)
  rw [if_neg c8] at h ⊢
  have n1 := num8_good (l := b) (by omega) hb
  have hbt : ∀ c ∈ b.take 8, byteOK c := fun c hc => hb c (List.mem_of_mem_take hc)
  have hl1 : (b.take 8).length = 8 := by rw [List.length_take]; omega
  by_cases ht : (num8 (b.take 8)).testBit 63 = true
  · rw [if_pos ht] at h ⊢
    by_cases c16 : b.length < 16
    · rw [if_pos c16] at h; exact absurd h (by decide)
    rw [if_neg c16] at h ⊢
    by_cases hr : rightB (((num8 (b.take 8) : Nat) : Int), ((num8 ((b.drop 8).take 8) : Nat) : Int), ()) = true
    · rw [if_pos hr]
      have hb2 : ∀ c ∈ b.drop 8, byteOK c := fun c hc => hb c (List.mem_of_mem_drop hc)
      have hl2 : 8 ≤ (b.drop 8).length := by rw [List.length_drop]; omega
      have n2 := num8_good hl2 hb2
      refine ⟨16, rfl, by omega, by omega, ⟨⟨by (try simp only []); omega, by (try simp only []); omega⟩, by (try simp only []); omega, by (try simp only []); omega⟩, hr, ?_⟩
      have hz := (rightB_iff.1 hr).2.1 (by rw [bit_one]; exact ht)
      unfold bytesB
      rw [if_neg hz]
      simp only [Int.toNat_natCast]
      rw [be8_num8 hl1 hbt, be8_num8 (by rw [List.length_take]; omega) (fun c hc => hb2 c (List.mem_of_mem_take hc)), ← List.take_add]
    · rw [if_neg hr] at h; exact absurd h (by decide)
  · rw [if_neg ht] at h ⊢
    by_cases hr : rightB (((num8 (b.take 8) : Nat) : Int), 0, ()) = true
    · rw [if_pos hr]
      refine ⟨8, rfl, by omega, by omega, ⟨⟨by (try simp only []); omega, by (try simp only []); omega⟩, Int.le_refl 0, by show (0 : Int) < _; decide⟩, hr, ?_⟩
      unfold bytesB
      rw [if_pos rfl]
      simp only [Int.toNat_natCast]
      exact be8_num8 hl1 hbt
    · rw [if_neg hr] at h; exact absurd h (by decide)

/-- cut bytes are too short -/
theorem readB_cut {m : BM} (gm : goodB m) (rm : rightB m = true) {n : Nat} (h : n < (bytesB m).length) : readB ((bytesB m).take n) = (zeroB, 0, 2) := by
  obtain ⟨r1, r2⟩ := rightB_iff.1 rm
  obtain ⟨hi, lo, ⟨⟩⟩ := m
  obtain ⟨hi, rfl, hh⟩ := nat_of gm.1
  obtain ⟨lo, rfl, hl⟩ := nat_of gm.2
  rw [bit_one] at r2
  have r2 : hi.testBit 63 = true ↔ ¬ (lo : Int) = 0 := r2
  have h : n < (bytesB ((hi : Int), (lo : Int), ())).length := h
  unfold readB
  have hlen : ((bytesB ((hi : Int), (lo : Int), ())).take n).length = n := by rw [List.length_take]; omega
  rw [hlen]
  by_cases c8 : n < 8
  · rw [if_pos c8]; rfl
  rw [if_neg c8]
  have hz : ¬ (lo : Int) = 0 := fun e => by
    have hb : bytesB ((hi : Int), (lo : Int), ()) = be8 hi := if_pos e
    rw [hb, be8_len] at h; omega
  have hb : bytesB ((hi : Int), (lo : Int), ()) = be8 hi ++ be8 lo := if_neg hz
  rw [hb] at h ⊢
  rw [List.length_append, be8_len, be8_len] at h
  have ht : ((be8 hi ++ be8 lo).take n).take 8 = be8 hi := by rw [List.take_take, Nat.min_eq_left (show 8 ≤ n by omega), take8]
  rw [ht, num8_be8 hh, if_pos (r2.2 hz), if_pos (by omega)]; rfl
end Go.Proofs.Ytjgnpmdbkgeakaa.G
