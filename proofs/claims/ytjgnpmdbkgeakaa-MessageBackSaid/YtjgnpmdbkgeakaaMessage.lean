/- What the functions of messages, and those of the document's answer, answer: writing. -/
import Derived.Test.YtjgnpmdbkgeakaaMsg
import Derived.Test.YtjgnpmdbkgeakaaField4
import Derived.Test.YtjgnpmdbkgeakaaConcat
import Derived.Test.YtjgnpmdbkgeakaaBitmap2
import Derived.Test.YtjgnpmdbkgeakaaBitmap3
set_option linter.unusedVariables false
set_option linter.unusedSimpArgs false
set_option maxRecDepth 100000
namespace Go.Proofs.Ytjgnpmdbkgeakaa.G
open Go Go.Proofs.Ytjgnpmdbkgeakaa Th Bits

def fieldW (x : Item) : List UInt8 := match defOf x.1 with
  | some d => writeF d x.2.1
  | none => []
def tailM : List Item → List UInt8
  | [] => []
  | x :: l => fieldW x ++ tailM l
def bmM (l : List Item) : BM := (ofB zeroB (l.map (·.1))).1
def writeM (m : Msg) : List Int := toBytes m.1 ++ (bytesB (bmM m.2.1) ++ toBytes (tailM m.2.1))

theorem right_def {n : Int} {s : Txt} (h : rightF n s = true) : ∃ d, defOf n = some d ∧ sized d s.length = true ∧ signs d s = true := by
  cases hd : defOf n with
  | none => unfold rightF at h; rw [hd] at h; cases h
  | some d => rw [rightF_some hd] at h; simp only [Bool.and_eq_true] at h; exact ⟨d, rfl, h⟩
theorem def_field {n : Int} {d : Def} (h : defOf n = some d) : fieldB n = true := by
  obtain ⟨hm, he⟩ := defOf_mem h
  have h1 := D_all d hm
  have h2 : ∀ d ∈ D, d.1 ≠ 65 := by decide
  exact fieldB_iff.2 ⟨by omega, by omega, fun e => h2 d hm (by omega)⟩
theorem fieldW_some {x : Item} {d : Def} (h : defOf x.1 = some d) : fieldW x = writeF d x.2.1 := by unfold fieldW; rw [h]
theorem fieldW_len {x : Item} (h : rightF x.1 x.2.1 = true) : 1 ≤ (fieldW x).length ∧ (fieldW x).length ≤ 1002 := by
  obtain ⟨d, hd, hs, _⟩ := right_def h
  rw [fieldW_some hd, writeF_len]
  have := sized_le (defOf_mem hd).1 hs
  rcases ahead_cases (kind := d.2.1) with e | e | e <;> omega

theorem items_ok : ∀ (l : List Item) (last : Int), itemsOK last l = true → (∀ x ∈ l, rightF x.1 x.2.1 = true) ∧ (l.map (·.1)).Pairwise (· < ·) ∧ ∀ x ∈ l, last < x.1 := by
  intro l
  induction l with
  | nil => intro last _; exact ⟨fun x hx => absurd hx (by simp), by simp, fun x hx => absurd hx (by simp)⟩
  | cons y l ih =>
    intro last h
    simp only [itemsOK, Bool.and_eq_true, decide_eq_true_eq] at h
    obtain ⟨⟨h1, h2⟩, h3⟩ := h
    obtain ⟨i1, i2, i3⟩ := ih y.1 h3
    refine ⟨fun x hx => ?_, ?_, fun x hx => ?_⟩
    · rcases List.mem_cons.1 hx with rfl | hx
      · exact h2
      · exact i1 x hx
    · rw [List.map_cons, List.pairwise_cons]
      refine ⟨fun a ha => ?_, i2⟩
      obtain ⟨x, hx, rfl⟩ := List.mem_map.1 ha
      exact i3 x hx
    · rcases List.mem_cons.1 hx with rfl | hx
      · exact h1
      · have := i3 x hx; omega
theorem items_back : ∀ (l : List Item) (last : Int), (∀ x ∈ l, rightF x.1 x.2.1 = true) → (l.map (·.1)).Pairwise (· < ·) → (∀ x ∈ l, last < x.1) → itemsOK last l = true := by
  intro l
  induction l with
  | nil => intro last _ _ _; rfl
  | cons y l ih =>
    intro last h1 h2 h3
    rw [List.map_cons, List.pairwise_cons] at h2
    simp only [itemsOK, Bool.and_eq_true, decide_eq_true_eq]
    exact ⟨⟨h3 y (List.mem_cons_self ..), h1 y (List.mem_cons_self ..)⟩, ih y.1 (fun x hx => h1 x (List.mem_cons_of_mem _ hx)) h2.2 fun x hx => h2.1 x.1 (List.mem_map.2 ⟨x, hx, rfl⟩)⟩
theorem msg_parts {m : Msg} : msgRight m = true ↔ itemsOK 0 m.2.1 = true ∧ knownT m.1 = true ∧ 0 < m.2.1.length := by
  unfold msgRight; simp [and_assoc]
theorem known_len {s : Txt} (h : knownT s = true) : s.length = 4 := by
  unfold knownT KT at h
  simp only [List.contains_cons, List.contains_nil, Bool.or_false, Bool.or_eq_true, beq_iff_eq] at h
  rcases h with h | h | h | h | h | h | h <;> rw [h] <;> rfl

theorem tailM_len : ∀ (l : List Item), (∀ x ∈ l, rightF x.1 x.2.1 = true) → (tailM l).length ≤ l.length * 1002 := by
  intro l
  induction l with
  | nil => intro _; simp [tailM]
  | cons y l ih =>
    intro h
    have := ih fun x hx => h x (List.mem_cons_of_mem _ hx)
    have := fieldW_len (h y (List.mem_cons_self ..))
    simp only [tailM, List.length_append, List.length_cons]; omega

theorem G21_6_is (k : Nat) (hk : 1200 < k) (typ : Txt) (l0 l : List Item) (hl : l.length ≤ 1000) (hr : ∀ x ∈ l, rightF x.1 x.2.1 = true) : ∀ (j i : Nat), i + j = l.length → ∀ (fs tl : List Int), fs.length ≤ i → tl.length ≤ i * 1002 → ∀ n, j < n →
    G21_6 k n (fs, tl, l, (l.length : Int), (i : Int), typ, l0, ()) = some (fs ++ (l.drop i).map (·.1), tl ++ toBytes (tailM (l.drop i)), typ, l0, ()) := by
  intro j
  induction j with
  | zero =>
    intro i hij fs tl h1 h2 n hn
    obtain ⟨n, rfl⟩ : ∃ m, n = m + 1 := ⟨n - 1, by omega⟩
    rw [G21_6_eq, sel_neg (by omega), List.drop_eq_nil_of_le (by omega)]
    simp [tailM, toBytes]
  | succ j ih =>
    intro i hij fs tl h1 h2 n hn
    obtain ⟨n, rfl⟩ : ∃ m, n = m + 1 := ⟨n - 1, by omega⟩
    have hlt : i < l.length := by omega
    have hx := hr l[i] (List.getElem_mem _)
    obtain ⟨d, hd, hs, _⟩ := right_def hx
    have hz := sized_le (defOf_mem hd).1 hs
    have hw := fieldW_len hx
    have next := fun fs tl a b => ih (i + 1) (by omega) fs tl a b n (by omega)
    rw [G21_6_eq, sel_pos (by omega), sel_pos (by omega), sel_pos (by simp only [ofNat_len]; omega)]
    simp only [Int.toNat_natCast, getD_of hlt]
    rw [G12_is k (by omega) l[i].1 d hd l[i].2.1 (by omega) (by omega), if_pos hx, ocall_some, ← fieldW_some hd]
    simp only [toBytes_len]
    rw [sel_pos (by omega), sel_pos (by omega), wrap64 (by omega) (by omega), show (i : Int) + 1 = ((i + 1 : Nat) : Int) by omega,
      next _ _ (by simp only [List.length_append, List.length_cons, List.length_nil]; omega) (by simp only [List.length_append, toBytes_len]; omega), List.drop_eq_getElem_cons hlt]
    simp only [List.map_cons, tailM, toBytes, List.map_append, List.append_assoc, List.cons_append, List.nil_append]

theorem bm_ok {l : List Item} (h : itemsOK 0 l = true) : ofB zeroB (l.map (·.1)) = (bmM l, 0) ∧ goodB (bmM l) ∧ rightB (bmM l) = true ∧ fieldsB (bmM l) = l.map (·.1) := by
  obtain ⟨h1, h2, _⟩ := items_ok l 0 h
  have hf : ∀ x ∈ l.map (·.1), fieldB x = true := by
    intro a ha
    obtain ⟨x, hx, rfl⟩ := List.mem_map.1 ha
    obtain ⟨d, hd, _⟩ := right_def (h1 x hx)
    exact def_field hd
  obtain ⟨o1, o2, o3, _⟩ := ofB_ok (l.map (·.1)) zeroB zeroB_good zeroB_right hf
  exact ⟨Prod.ext rfl o1, o2, o3, fields_of h2 hf⟩
theorem bytesB_le (m : BM) : (bytesB m).length ≤ 16 := by rw [bytesB_len]; split <;> omega

theorem G21_is (k : Nat) (hk : 1200 < k) (typ : Txt) (l : List Item) (hl : l.length ≤ 1000) (hx : ∀ x ∈ l, x.2.1.length ≤ maxLen ∧ x.2.1.length < k) :
    G21 k ((typ, l, ()), ()) = some (if msgRight (typ, l, ()) = true then (writeM (typ, l, ()), 0, ()) else ([], 1, ())) := by
  rw [G21_eq, G27_is k (by omega) typ l (by omega) (by omega) hx, ocall_some]
  by_cases hr : msgRight (typ, l, ()) = true
  case neg => rw [if_neg hr, Bool.eq_false_iff.2 hr]; rfl
  rw [if_pos hr, hr]
  simp only [Bool.not_true, sel_false, ofNat_len]
  obtain ⟨h1, h2, h3⟩ := msg_parts.1 hr
  obtain ⟨i1, _, _⟩ := items_ok l 0 h1
  obtain ⟨o1, o2, o3, _⟩ := bm_ok h1
  have hw := G21_6_is k hk typ l l hl i1 l.length 0 (by omega) [] [] (by simp) (by simp) k (by omega)
  rw [List.drop_zero, Int.natCast_zero, List.nil_append, List.nil_append] at hw
  rw [hw, ocall_some]
  (try simp only [])
  have hO := G39_is k (l.map (·.1)) (by simp; omega) (by simp; omega)
  have ez : ((0, 0, ()) : BM) = zeroB := rfl
  rw [ez, o1] at hO
  rw [hO, ocall_some]
  (try simp only [])
  have hB := G40_is k (by omega) (bmM l) o2
  rw [if_pos o3] at hB
  have eb : (((bmM l).1, (bmM l).2.1, ()) : BM) = bmM l := rfl
  rw [eb, hB, ocall_some]
  (try simp only [])
  have ht := tailM_len l i1
  have hk4 : typ.length = 4 := known_len h2
  rw [G41_is k _ (by simp) (by simp; omega) (by
    simp only [lenSum, toBytes_len]
    have := bytesB_le (bmM l)
    omega), ocall_some]
  simp [writeM]

/-! the document's answer -/
theorem G22_4_is (k : Nat) (hk : 1200 < k) (typ : Txt) (l : List Item) (hl : l.length ≤ 1000) (hr : ∀ x ∈ l, rightF x.1 x.2.1 = true) : ∀ (j i : Nat), i + j = l.length → ∀ (m : BM) (tl : List Int), goodB m → rightB m = true → tl.length ≤ i * 1002 → ∀ n, j < n →
    G22_4 k n (tl, (i : Int), typ, l, m.1, m.2.1, ()) = some (tl ++ toBytes (tailM (l.drop i)), typ, l, (ofB m ((l.drop i).map (·.1))).1.1, (ofB m ((l.drop i).map (·.1))).1.2.1, ()) := by
  intro j
  induction j with
  | zero =>
    intro i hij m tl gm rm h2 n hn
    obtain ⟨n, rfl⟩ : ∃ m, n = m + 1 := ⟨n - 1, by omega⟩
    rw [G22_4_eq, sel_neg (by simp only [ofNat_len]; omega), List.drop_eq_nil_of_le (by omega)]
    simp [tailM, toBytes, ofB]
  | succ j ih =>
    intro i hij m tl gm rm h2 n hn
    obtain ⟨n, rfl⟩ : ∃ m, n = m + 1 := ⟨n - 1, by omega⟩
    have hlt : i < l.length := by omega
    have hx := hr l[i] (List.getElem_mem _)
    obtain ⟨d, hd, hs, _⟩ := right_def hx
    have hw := fieldW_len hx
    have hf := def_field hd
    have hp2 : (putB m l[i].1).2 = 0 := by unfold putB; rw [if_pos ⟨rm, hf⟩]
    have hp3 : rightB (putB m l[i].1).1 = true := by
      obtain ⟨f1, f2, f3⟩ := fieldB_iff.1 hf
      unfold putB; rw [if_pos ⟨rm, hf⟩]; exact setB_right rm (by omega) (by omega) (by omega)
    have hof : ofB m ((l.drop i).map (·.1)) = ofB (putB m l[i].1).1 ((l.drop (i + 1)).map (·.1)) := by
      rw [List.drop_eq_getElem_cons hlt, List.map_cons]; exact if_pos hp2
    have next := fun tl b => ih (i + 1) (by omega) (putB m l[i].1).1 tl (putB_good gm _) hp3 b n (by omega)
    have hpt : (0 : Int) ≤ (i : Int) := by omega
    have hpl : (i : Int) < Int.ofNat l.length := by simp only [ofNat_len]; omega
    have hP := G42_is k (by omega) m gm l[i].1
    obtain ⟨hi, lo, ⟨⟩⟩ := m
    rw [G22_4_eq, sel_pos hpl, sel_pos hpt, sel_pos hpl]
    simp only [Int.toNat_natCast, getD_of hlt]
    rw [hP, ocall_some, sel_pos hpt, sel_pos hpl, sel_pos hpt, sel_pos hpl, G15_is k (by omega) l[i].1 d hd l[i].2.1 hx, ocall_some, ← fieldW_some hd]
    simp only [toBytes_len]
    rw [sel_pos (by omega), wrap64 (by omega) (by omega), show (i : Int) + 1 = ((i + 1 : Nat) : Int) by omega, next _ (by simp only [List.length_append, toBytes_len]; omega), hof, List.drop_eq_getElem_cons hlt]
    simp only [List.map_cons, tailM, toBytes, List.map_append, List.append_assoc, List.cons_append, List.nil_append]

theorem G22_is (k : Nat) (hk : 1200 < k) (typ : Txt) (l : List Item) (hl : l.length ≤ 1000) (hr : msgRight (typ, l, ()) = true) : G22 k ((typ, l, ()), ()) = some (writeM (typ, l, ()), ()) := by
  obtain ⟨h1, h2, h3⟩ := msg_parts.1 hr
  obtain ⟨i1, _, _⟩ := items_ok l 0 h1
  obtain ⟨o1, o2, o3, _⟩ := bm_ok h1
  have hw := G22_4_is k hk typ l hl i1 l.length 0 (by omega) zeroB [] zeroB_good zeroB_right (by simp) k (by omega)
  rw [List.drop_zero, Int.natCast_zero, List.nil_append, o1] at hw
  have ez1 : zeroB.1 = 0 := rfl
  have ez2 : zeroB.2.1 = 0 := rfl
  rw [ez1, ez2] at hw
  rw [G22_eq, hw, ocall_some]
  (try simp only [])
  have eb : (((bmM l).1, (bmM l).2.1, ()) : BM) = bmM l := rfl
  have ht := tailM_len l i1
  have hk4 : typ.length = 4 := known_len h2
  have hb := bytesB_le (bmM l)
  rw [eb, G43_is k (by omega) (bmM l) o2, ocall_some]
  simp only [List.length_append, toBytes_len]
  rw [sel_pos (by omega), sel_pos (by omega)]
  simp [writeM]
end Go.Proofs.Ytjgnpmdbkgeakaa.G
