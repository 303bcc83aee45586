/- What the functions of messages, and those of the document's answer, answer: reading. -/
import Derived.Test.YtjgnpmdbkgeakaaMessage
set_option linter.unusedVariables false
set_option linter.unusedSimpArgs false
set_option maxRecDepth 100000
namespace Go.Proofs.Ytjgnpmdbkgeakaa.G
open Go Go.Proofs.Ytjgnpmdbkgeakaa Th Bits

def zeroM : Msg := ([], [], ())
def rdF (n : Int) (b : List Int) : List UInt8 × Int × Int := match defOf n with
  | some d => readF d (ofBytes b)
  | none => ([], 0, 5)
/-- the items of fields, by their bytes: the items, what is behind, and why there are none -/
def readI : List Int → List Int → List Item × List Int × Int
  | [], b => ([], b, 0)
  | n :: l, b => if (rdF n b).2.2 = 0 then
      (if (readI l (b.drop (rdF n b).2.1.toNat)).2.2 = 0 then ((n, (rdF n b).1, ()) :: (readI l (b.drop (rdF n b).2.1.toNat)).1, (readI l (b.drop (rdF n b).2.1.toNat)).2.1, 0) else ([], [], (readI l (b.drop (rdF n b).2.1.toNat)).2.2))
    else ([], [], (rdF n b).2.2)
def readM (b : List Int) : Msg × Int :=
  if b.length < 4 then (zeroM, 2)
  else if knownT (ofBytes (b.take 4)) = true then
    (if (readB (b.drop 4)).2.2 = 0 then
      (if fieldsB (readB (b.drop 4)).1 = [] then (zeroM, 3)
       else if (readI (fieldsB (readB (b.drop 4)).1) (b.drop (4 + (readB (b.drop 4)).2.1.toNat))).2.2 = 0 then
         (if (readI (fieldsB (readB (b.drop 4)).1) (b.drop (4 + (readB (b.drop 4)).2.1.toNat))).2.1 = [] then ((ofBytes (b.take 4), (readI (fieldsB (readB (b.drop 4)).1) (b.drop (4 + (readB (b.drop 4)).2.1.toNat))).1, ()), 0) else (zeroM, 4))
       else (zeroM, (readI (fieldsB (readB (b.drop 4)).1) (b.drop (4 + (readB (b.drop 4)).2.1.toNat))).2.2))
     else (zeroM, (readB (b.drop 4)).2.2))
  else (zeroM, 3)

theorem G16_rd (k : Nat) (hk : 1100 < k) (n : Int) (b : List Int) (hb : b.length ≤ 9223372036854775807) : G16 k (n, b, ()) = some ((rdF n b).1, (rdF n b).2.1, (rdF n b).2.2, ()) := by
  unfold rdF
  cases hd : defOf n with
  | none => exact G16_none k (by omega) n b hd
  | some d => exact G16_is k hk n d hd b hb

theorem G17_rd (k : Nat) (hk : 1100 < k) (n : Int) (b : List Int) (hb : b.length ≤ 9223372036854775807) : G17 k (n, b, ()) = some ((rdF n b).1, (rdF n b).2.1, (rdF n b).2.2, ()) := by
  unfold rdF
  cases hd : defOf n with
  | none => exact G17_none k (by omega) n b hd
  | some d => exact G17_is k hk n d hd b hb

theorem rd_ok {n : Int} {b : List Int} (h : (rdF n b).2.2 = 0) : ∃ (d : Def) (j : Nat), defOf n = some d ∧ (rdF n b).2.1 = j ∧ 0 < j ∧ j ≤ b.length ∧ rightF n (rdF n b).1 = true ∧ fieldW (n, (rdF n b).1, ()) = (ofBytes b).take j := by
  unfold rdF at h ⊢
  cases hd : defOf n with
  | none => rw [hd] at h; exact absurd h (by simp)
  | some d =>
    rw [hd] at h
    obtain ⟨j, e1, e2, e3, e4, e5, e6⟩ := read_back (defOf_mem hd).1 (ofBytes b) h
    refine ⟨d, j, rfl, e1, e2, by rw [ofBytes_len] at e3; exact e3, by rw [rightF_some hd]; simp [e4, e5], ?_⟩
    exact (fieldW_some (x := (n, _, ())) hd).trans e6

theorem G25_8_is (k : Nat) (hk : 1200 < k) (a : Txt) (b0 : List Item) (typ : Txt) (fs : List Int) (hf : fs.length ≤ 200) : ∀ (j i : Nat), i + j = fs.length → ∀ (b : List Int) (acc : List Item), b.length ≤ 1000000000 → acc.length ≤ i → ∀ n, j < n →
    G25_8 k n (b, fs, (fs.length : Int), (i : Int), a, b0, typ, acc, ()) =
      some (if (readI (fs.drop i) b).2.2 = 0 then .inl ((readI (fs.drop i) b).2.1, a, b0, typ, acc ++ (readI (fs.drop i) b).1, ()) else .inr ((readI (fs.drop i) b).2.2, [], [], ())) := by
  intro j
  induction j with
  | zero =>
    intro i hij b acc hb ha n hn
    obtain ⟨n, rfl⟩ : ∃ m, n = m + 1 := ⟨n - 1, by omega⟩
    rw [G25_8_eq, sel_neg (by omega), List.drop_eq_nil_of_le (by omega)]
    simp [readI]
  | succ j ih =>
    intro i hij b acc hb ha n hn
    obtain ⟨n, rfl⟩ : ∃ m, n = m + 1 := ⟨n - 1, by omega⟩
    have hlt : i < fs.length := by omega
    rw [G25_8_eq, sel_pos (by omega), sel_pos (by omega), sel_pos (by simp only [ofNat_len]; omega)]
    simp only [Int.toNat_natCast, getD_of hlt]
    rw [sel_pos hlt, G16_rd k (by omega) _ _ (by omega), ocall_some]
    have hcons := List.drop_eq_getElem_cons hlt
    by_cases he : (rdF fs[i] b).2.2 = 0
    · rw [sel_not, sel_pos he]
      obtain ⟨d, j', e1, e2, e3, e4, _⟩ := rd_ok he
      simp only [ofNat_len, Int.toNat_natCast, List.take_length]
      rw [sel_pos (by omega), sel_pos (by omega), sel_pos (by omega), sel_pos (Int.le_refl _), sel_pos (Int.le_refl _), wrap64 (by omega) (by omega), show (i : Int) + 1 = ((i + 1 : Nat) : Int) by omega,
        ih (i + 1) (by omega) (b.drop (rdF fs[i] b).2.1.toNat) (acc ++ [(fs[i], (rdF fs[i] b).1, ())]) (by rw [List.length_drop]; omega) (by simp; omega) n (by omega)]
      by_cases h2 : (readI (fs.drop (i + 1)) (b.drop (rdF fs[i] b).2.1.toNat)).2.2 = 0
      · have hv : readI (fs.drop i) b = ((fs[i], (rdF fs[i] b).1, ()) :: (readI (fs.drop (i + 1)) (b.drop (rdF fs[i] b).2.1.toNat)).1, (readI (fs.drop (i + 1)) (b.drop (rdF fs[i] b).2.1.toNat)).2.1, 0) := by
          rw [hcons]; show (if _ then _ else _) = _; rw [if_pos he, if_pos h2]
        rw [hv, if_pos h2, if_pos rfl]; simp
      · have hv : readI (fs.drop i) b = ([], [], (readI (fs.drop (i + 1)) (b.drop (rdF fs[i] b).2.1.toNat)).2.2) := by
          rw [hcons]; show (if _ then _ else _) = _; rw [if_pos he, if_neg h2]
        rw [hv, if_neg h2, if_neg h2]
    · have hv : readI (fs.drop i) b = ([], [], (rdF fs[i] b).2.2) := by
        rw [hcons]; show (if _ then _ else _) = _; rw [if_neg he]
      rw [sel_not, sel_neg he, hv, if_neg he]

theorem readB_size (b : List Int) : (readB b).2.1 = 0 ∨ ((readB b).2.1 = 8 ∧ 8 ≤ b.length) ∨ ((readB b).2.1 = 16 ∧ 16 ≤ b.length) := by
  unfold readB
  by_cases c8 : b.length < 8
  · rw [if_pos c8]; exact .inl rfl
  rw [if_neg c8]
  split
  · by_cases c16 : b.length < 16
    · rw [if_pos c16]; exact .inl rfl
    rw [if_neg c16]
    split
    · exact .inr (.inr ⟨rfl, by omega⟩)
    · exact .inl rfl
  · split
    · exact .inr (.inl ⟨rfl, by omega⟩)
    · exact .inl rfl
theorem readB_bad {b : List Int} (h : (readB b).2.2 ≠ 0) : (readB b).1 = zeroB := by
  unfold readB at h ⊢
  split
  · rfl
  rename_i c8
  rw [if_neg c8] at h
  split
  · rename_i c1
    rw [if_pos c1] at h
    split
    · rfl
    rename_i c16
    rw [if_neg c16] at h
    split
    · rename_i c2; rw [if_pos c2] at h; exact absurd rfl h
    · rfl
  · rename_i c1
    rw [if_neg c1] at h
    split
    · rename_i c2; rw [if_pos c2] at h; exact absurd rfl h
    · rfl
theorem readB_good {b : List Int} (hb : ∀ c ∈ b, byteOK c) : goodB (readB b).1 := by
  by_cases h : (readB b).2.2 = 0
  · obtain ⟨n, _, _, _, hg, _⟩ := bytes_read hb h; exact hg
  · rw [readB_bad h]; exact zeroB_good
theorem fieldsB_len (m : BM) : (fieldsB m).length ≤ 127 := fieldsFrom_len m 127 2

theorem start4 (b : List Int) : List.drop (Int.ofNat 0).toNat (List.take (Int.toNat 4) b) = b.take 4 := rfl
theorem all_of_b (b : List Int) : List.take (Int.ofNat b.length).toNat b = b := by rw [show (Int.ofNat b.length).toNat = b.length from rfl, List.take_of_length_le (Nat.le_refl _)]

theorem G46_is (k : Nat) (hk : 1200 < k) (b : List Int) (hb : ∀ c ∈ b, byteOK c) (hl : b.length ≤ 1000000000) : G46 k (b, ()) =
    some (if b.length < 4 then ([], [], [], 2, ()) else if knownT (ofBytes (b.take 4)) = true then (ofBytes (b.take 4), fieldsB (readB (b.drop 4)).1, b.drop (4 + (readB (b.drop 4)).2.1.toNat), (readB (b.drop 4)).2.2, ()) else ([], [], [], 3, ())) := by
  rw [G46_eq]
  by_cases c4 : b.length < 4
  · rw [sel_pos (by simp only [ofNat_len]; omega), if_pos c4]
  rw [sel_neg (by simp only [ofNat_len]; omega), if_neg c4]
  have p4 : (4 : Int) ≤ Int.ofNat b.length := by simp only [ofNat_len]; omega
  rw [sel_pos p4, sel_pos (Int.le_refl _), start4, G49_is, ocall_some]
  cases hkn : knownT (ofBytes (b.take 4)) with
  | false => rw [if_neg (by simp)]; rfl
  | true =>
  rw [if_pos rfl]
  simp only [Bool.not_true, sel_false]
  have hb4 : ∀ c ∈ b.drop 4, byteOK c := fun c hc => hb c (List.mem_of_mem_drop hc)
  rw [sel_pos p4, sel_pos (Int.le_refl _), sel_pos (Int.le_refl _), all_of_b, show Int.toNat 4 = 4 from rfl, G63_is k (by omega) _ hb4, ocall_some, sel_pos p4, sel_pos (Int.le_refl _)]
  have hF := G64_is k (by omega) (readB (b.drop 4)).1 (readB_good hb4)
  have er : (((readB (b.drop 4)).1.1, (readB (b.drop 4)).1.2.1, ()) : BM) = (readB (b.drop 4)).1 := rfl
  (try simp only [])
  rw [er, hF, ocall_some]
  have hs := readB_size (b.drop 4)
  rw [List.length_drop] at hs
  have hw : IntKind.i64.wrap (4 + (readB (b.drop 4)).2.1) = 4 + (readB (b.drop 4)).2.1 := wrap64 (by omega) (by omega)
  have ht : (4 + (readB (b.drop 4)).2.1).toNat = 4 + (readB (b.drop 4)).2.1.toNat := by omega
  rw [hw, ht, sel_pos (by omega), sel_pos (by simp only [ofNat_len]; omega), sel_pos (Int.le_refl _), sel_pos (Int.le_refl _)]

theorem G25_is (k : Nat) (hk : 1200 < k) (b : List Int) (hb : ∀ c ∈ b, byteOK c) (hl : b.length ≤ 1000000000) : G25 k (b, ()) = some ((readM b).1, (readM b).2, ()) := by
  rw [G25_eq, G46_is k hk b hb hl, ocall_some]
  unfold readM
  by_cases c4 : b.length < 4
  · rw [if_pos c4, if_pos c4]; rfl
  rw [if_neg c4, if_neg c4]
  cases hkn : knownT (ofBytes (b.take 4)) with
  | false => rw [if_neg (by simp), if_neg (by simp)]; rfl
  | true =>
  rw [if_pos rfl, if_pos rfl]
  (try simp only [])
  by_cases he : (readB (b.drop 4)).2.2 = 0
  case neg => rw [if_neg he, sel_not, sel_neg he]; rfl
  rw [if_pos he, sel_not, sel_pos he]
  have hfl := fieldsB_len (readB (b.drop 4)).1
  generalize fieldsB (readB (b.drop 4)).1 = fs at hfl
  by_cases hz : fs = []
  · rw [if_pos hz, sel_pos (by rw [hz]; rfl)]; rfl
  have hpos : 0 < fs.length := List.length_pos_iff.2 hz
  rw [if_neg hz, sel_neg (by simp only [ofNat_len]; omega)]
  have h8 := G25_8_is k hk [] [] (ofBytes (b.take 4)) fs (by omega) fs.length 0 (by omega) (b.drop (4 + (readB (b.drop 4)).2.1.toNat)) [] (by rw [List.length_drop]; omega) (by simp) k (by omega)
  rw [List.drop_zero, Int.natCast_zero, List.nil_append] at h8
  simp only [ofNat_len]
  rw [h8, ocall_some]
  generalize readI fs (b.drop (4 + (readB (b.drop 4)).2.1.toNat)) = r
  obtain ⟨its, rest, e⟩ := r
  (try simp only [])
  by_cases hr : e = 0
  · rw [if_pos hr, if_pos hr, esel_inl]
    by_cases hz2 : rest = []
    · rw [if_pos hz2, sel_neg (by rw [hz2]; simp)]
    · have : 0 < rest.length := List.length_pos_iff.2 hz2
      rw [if_neg hz2, sel_pos (show (0 : Int) < rest.length by omega)]; rfl
  · rw [if_neg hr, if_neg hr, esel_inr]; rfl
end Go.Proofs.Ytjgnpmdbkgeakaa.G
