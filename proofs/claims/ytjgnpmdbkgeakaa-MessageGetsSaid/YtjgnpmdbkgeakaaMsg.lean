/- What messages' small functions, and those of the document's answer, answer. -/
import Derived.Test.YtjgnpmdbkgeakaaField3
set_option linter.unusedVariables false
set_option linter.unusedSimpArgs false
set_option maxRecDepth 100000
namespace Go.Proofs.Ytjgnpmdbkgeakaa.G
open Go Go.Proofs.Ytjgnpmdbkgeakaa Th

abbrev Txt := List UInt8

abbrev Item := Int × Txt × Unit

abbrev Msg := Txt × List Item × Unit

def KT : List Txt := [[48, 49, 48, 48], [48, 49, 49, 48], [48, 52, 48, 48], [48, 52, 49, 48], [48, 52, 50, 48], [48, 52, 50, 49], [48, 52, 51, 48]]

def knownT (s : Txt) : Bool := KT.contains s

theorem G49_is (k : Nat) (s : Txt) : G49 k (s, ()) = some (knownT s, ()) := by
  rw [G49_eq]
  unfold knownT KT
  simp only [sel_dec, List.contains_cons, List.contains_nil, Bool.or_false]
  by_cases h1 : s = [48, 49, 48, 48]
  · simp [h1]
  by_cases h2 : s = [48, 49, 49, 48]
  · simp [h2]
  by_cases h3 : s = [48, 52, 48, 48]
  · simp [h3]
  by_cases h4 : s = [48, 52, 49, 48]
  · simp [h4]
  by_cases h5 : s = [48, 52, 50, 48]
  · simp [h5]
  by_cases h6 : s = [48, 52, 50, 49]
  · simp [h6]
  by_cases h7 : s = [48, 52, 51, 48] <;> simp [h1, h2, h3, h4, h5, h6, h7]

def itemsOK : Int → List Item → Bool
  | _, [] => true
  | last, x :: l => decide (last < x.1) && rightF x.1 x.2.1 && itemsOK x.1 l

def msgRight (m : Msg) : Bool := itemsOK 0 m.2.1 && knownT m.1 && decide (0 < m.2.1.length)

theorem G27_3_is (k : Nat) (hk : 20 < k) (l l0 : List Item) (typ : Txt) (hl : l.length ≤ 1000000000) (hx : ∀ x ∈ l, x.2.1.length ≤ maxLen ∧ x.2.1.length < k) :
    ∀ (j i : Nat) (last : Int), i + j = l.length → ∀ n, j < n → G27_3 k n (last, l, (l.length : Int), (i : Int), typ, l0, ()) = some (sel (itemsOK last (l.drop i)) (.inl (typ, l0, ())) (.inr (false, ()))) := by
  intro j
  induction j with
  | zero =>
    intro i last hij n hn
    obtain ⟨n, rfl⟩ : ∃ m, n = m + 1 := ⟨n - 1, by omega⟩
    rw [G27_3_eq, sel_neg (by (try simp only []); omega), List.drop_eq_nil_of_le (by omega)]
    rfl
  | succ j ih =>
    intro i last hij n hn
    obtain ⟨n, rfl⟩ : ∃ m, n = m + 1 := ⟨n - 1, by omega⟩
    have hlt : i < l.length := by omega
    rw [G27_3_eq]
    simp only [ofNat_len, Int.toNat_natCast, getD_of hlt]
    rw [sel_pos (by omega), sel_pos (by omega), sel_pos (by omega), drop_at hlt]
    simp only [itemsOK]
    obtain ⟨h1, h2⟩ := hx l[i] (List.getElem_mem _)
    by_cases c : l[i].1 ≤ last
    · rw [sel_pos c, decide_eq_false (by omega)]; rfl
    · rw [sel_neg c, G14_is k hk _ _ h1 h2, ocall_some, decide_eq_true (by omega)]
      cases hr : rightF l[i].1 l[i].2.1 with
      | false => rfl
      | true =>
        simp only [Bool.not_true, sel_false, Bool.true_and]
        rw [wrap64 (by omega) (by omega)]
        exact ih (i + 1) l[i].1 (by omega) n (by omega)

theorem G27_is (k : Nat) (hk : 20 < k) (typ : Txt) (l : List Item) (hl : l.length ≤ 1000000000) (hlk : l.length < k) (hx : ∀ x ∈ l, x.2.1.length ≤ maxLen ∧ x.2.1.length < k) :
    G27 k ((typ, l, ()), ()) = some (msgRight (typ, l, ()), ()) := by
  rw [G27_eq]
  have := G27_3_is k hk l l typ hl hx l.length 0 0 (by omega) k hlk
  simp only [ofNat_len, List.drop_zero, Int.natCast_zero] at this ⊢
  rw [this, ocall_some]
  unfold msgRight
  (try simp only [])
  cases itemsOK 0 l with
  | false => rfl
  | true =>
    simp only [sel_true, esel_inl, G49_is, ocall_some, Bool.true_and]
    cases knownT typ with
    | false => rfl
    | true =>
      simp only [sel_true, Bool.true_and]
      have : decide ((0 : Int) < (l.length : Int)) = decide (0 < l.length) := decide_eq_decide.2 (by omega)
      rw [this]

def getM (n : Int) : List Item → Txt × Bool
  | [] => ([], false)
  | x :: l => if x.1 = n then (x.2.1, true) else getM n l

def idxM (n : Int) : List Item → Nat → Option Nat
  | [], _ => none
  | x :: l, i => if x.1 = n then some i else idxM n l (i + 1)

theorem idxM_some (n : Int) : ∀ (l : List Item) (i j : Nat), idxM n l i = some j → ∃ h : j - i < l.length, i ≤ j ∧ getM n l = (l[j - i].2.1, true)
  | [], i, j, h => by cases h
  | x :: l, i, j, h => by
    unfold idxM at h
    by_cases c : x.1 = n
    · rw [if_pos c] at h
      cases h
      refine ⟨by simp, Nat.le_refl _, ?_⟩
      simp [getM, c]
    · rw [if_neg c] at h
      obtain ⟨h1, h2, h3⟩ := idxM_some n l (i + 1) j h
      have e : j - i = (j - (i + 1)) + 1 := by omega
      refine ⟨by simp; omega, by omega, ?_⟩
      simp only [getM, if_neg c, h3, e, List.getElem_cons_succ]

theorem idxM_none (n : Int) : ∀ (l : List Item) (i : Nat), idxM n l i = none → getM n l = ([], false)
  | [], i, _ => rfl
  | x :: l, i, h => by
    unfold idxM at h
    by_cases c : x.1 = n
    · rw [if_pos c] at h; cases h
    · rw [if_neg c] at h
      simp only [getM, if_neg c, idxM_none n l (i + 1) h]

theorem G7000000_2_is (k : Nat) (n : Int) (l : List Item) (hl : l.length ≤ 1000000000) :
    ∀ (j i : Nat), i + j = l.length → ∀ m, j < m → G7000000_2 k m (l, ((n, ()), ()), (l.length : Int), (i : Int), ()) = some (match idxM n (l.drop i) i with | none => .inl () | some q => .inr ((q : Int), ())) := by
  intro j
  induction j with
  | zero =>
    intro i hij m hm
    obtain ⟨m, rfl⟩ : ∃ q, m = q + 1 := ⟨m - 1, by omega⟩
    rw [G7000000_2_eq, sel_neg (by (try simp only []); omega), List.drop_eq_nil_of_le (by omega)]
    rfl
  | succ j ih =>
    intro i hij m hm
    obtain ⟨m, rfl⟩ : ∃ q, m = q + 1 := ⟨m - 1, by omega⟩
    have hlt : i < l.length := by omega
    rw [G7000000_2_eq]
    simp only [ofNat_len, Int.toNat_natCast, getD_of hlt]
    rw [sel_pos (by omega), sel_pos (by omega), sel_pos (by omega), drop_at hlt, G45_eq, ocall_some]
    simp only [idxM]
    by_cases c : l[i].1 = n
    · rw [sel_pos c, if_pos c]
    · rw [sel_neg c, if_neg c, wrap64 (by omega) (by omega)]
      exact ih (i + 1) (by omega) m (by omega)

theorem G23_is (k : Nat) (n : Int) (typ : Txt) (l : List Item) (hl : l.length ≤ 1000000000) (hk : l.length < k) : G23 k ((typ, l, ()), n, ()) = some ((getM n l).1, (getM n l).2, ()) := by
  rw [G23_eq]
  (try simp only [])
  have := G7000000_2_is k n l hl l.length 0 (by omega) k hk
  simp only [List.drop_zero, Int.natCast_zero] at this
  rw [G7000000_eq]
  simp only [ofNat_len]
  rw [this, ocall_some]
  cases h : idxM n l 0 with
  | none =>
    rw [idxM_none n l 0 h]
    rfl
  | some q =>
    obtain ⟨h1, h2, h3⟩ := idxM_some n l 0 q h
    simp only [Nat.sub_zero] at h1 h3
    rw [h3]
    simp only [esel_inr, ocall_some, Int.toNat_natCast, getD_of h1]
    rw [sel_neg (by omega), sel_pos (by omega), sel_pos (by omega)]

theorem getM_len (n : Int) (L : Nat) : ∀ l : List Item, (∀ x ∈ l, x.2.1.length ≤ L) → (getM n l).1.length ≤ L
  | [], _ => Nat.zero_le _
  | x :: l, h => by
    unfold getM
    split
    · exact h x (List.mem_cons_self ..)
    · exact getM_len n L l fun y hy => h y (List.mem_cons_of_mem _ hy)

theorem G38_3_is (k : Nat) (s : Txt) (L : List Txt) (hL : L.length ≤ 1000) : ∀ (j i : Nat), i + j = L.length → ∀ n, j < n → G38_3 k n (s, L, (i : Int), ()) = some (sel ((L.drop i).contains s) (.inr (true, ())) (.inl ())) := by
  intro j
  induction j with
  | zero =>
    intro i hij n hn
    obtain ⟨n, rfl⟩ : ∃ m, n = m + 1 := ⟨n - 1, by omega⟩
    rw [G38_3_eq, sel_neg (by simp only [ofNat_len]; omega), List.drop_eq_nil_of_le (by omega)]
    rfl
  | succ j ih =>
    intro i hij n hn
    obtain ⟨n, rfl⟩ : ∃ m, n = m + 1 := ⟨n - 1, by omega⟩
    have hlt : i < L.length := by omega
    rw [G38_3_eq]
    simp only [ofNat_len, Int.toNat_natCast, getD_of hlt]
    rw [sel_pos (by omega), sel_pos (by omega), sel_pos (by omega), sel_pos hlt, drop_at hlt, List.contains_cons, wrap64 (by omega) (by omega)]
    by_cases c : L[i] = s
    · rw [sel_pos c]
      have : (s == L[i]) = true := by rw [c]; simp
      rw [this]; rfl
    · rw [sel_neg c]
      have : (s == L[i]) = false := by simpa using fun e => c e.symm
      rw [this, Bool.false_or]
      exact ih (i + 1) (by omega) n (by omega)

theorem G38_is (k : Nat) (hk : 20 < k) (s : Txt) : G38 k (s, ()) = some (knownT s, ()) := by
  rw [G38_eq]
  have := G38_3_is k s KT (by decide) 7 0 rfl k (by omega)
  simp only [List.drop_zero, Int.natCast_zero] at this
  unfold KT at this
  rw [this, ocall_some]
  unfold knownT KT
  generalize List.contains _ s = b
  cases b <;> rfl

theorem G20_4_is (k : Nat) (hk : 20 < k) (l : List Item) (typ : Txt) (hl : l.length ≤ 1000000000) (hx : ∀ x ∈ l, x.2.1.length ≤ maxLen ∧ x.2.1.length < k) :
    ∀ (j i : Nat) (last : Int), i + j = l.length → (i = 0 → last = 0) → (∀ h : 0 < i, ∀ h' : i - 1 < l.length, last = l[i - 1].1) → ∀ n, j < n → G20_4 k n ((i : Int), typ, l, ()) = some (sel (itemsOK last (l.drop i)) (.inl ()) (.inr (false, ()))) := by
  intro j
  induction j with
  | zero =>
    intro i last hij h0 h1 n hn
    obtain ⟨n, rfl⟩ : ∃ m, n = m + 1 := ⟨n - 1, by omega⟩
    rw [G20_4_eq, sel_neg (by simp only [ofNat_len]; omega), List.drop_eq_nil_of_le (by omega)]
    rfl
  | succ j ih =>
    intro i last hij h0 h1 n hn
    obtain ⟨n, rfl⟩ : ∃ m, n = m + 1 := ⟨n - 1, by omega⟩
    have hlt : i < l.length := by omega
    rw [G20_4_eq]
    simp only [ofNat_len, Int.toNat_natCast, getD_of hlt]
    rw [sel_pos (by omega), sel_pos (by omega), sel_pos (by omega), sel_pos (by omega), sel_pos (by omega), drop_at hlt]
    obtain ⟨hx1, hx2⟩ := hx l[i] (List.getElem_mem _)
    rw [G13_is k hk _ _ hx1 hx2, ocall_some]
    simp only [itemsOK]
    have step := ih (i + 1) l[i].1 (by omega) (by omega) (fun _ _ => rfl) n (by omega)
    simp only [Int.natCast_add, Int.natCast_one] at step
    cases hr : rightF l[i].1 l[i].2.1 with
    | false => simp
    | true =>
      simp only [Bool.not_true, sel_false, Bool.and_true]
      have hdef : 2 ≤ l[i].1 := by
        unfold rightF at hr
        cases hd : defOf l[i].1 with
        | none => rw [hd] at hr; cases hr
        | some d =>
          obtain ⟨hm, e⟩ := defOf_mem hd
          have := (D_all d hm).1
          omega
      by_cases c : i = 0
      · subst c
        rw [sel_neg (by omega), wrap64 (by omega) (by omega), h0 rfl, decide_eq_true (by omega), Bool.true_and]
        exact step
      · have hlt' : i - 1 < l.length := by omega
        have e1 : (IntKind.i64.wrap ((i : Int) - 1)) = ((i - 1 : Nat) : Int) := by rw [wrap64 (by omega) (by omega)]; omega
        rw [sel_pos (by omega), sel_pos (by omega), sel_pos (by omega), e1, sel_pos (by omega), sel_pos (by omega), Int.toNat_natCast, getD_of hlt', ← h1 (by omega) hlt', wrap64 (by omega) (by omega)]
        by_cases c2 : l[i].1 ≤ last
        · rw [sel_pos c2, decide_eq_false (by omega)]; rfl
        · rw [sel_neg c2, decide_eq_true (by omega), Bool.true_and]
          exact step

theorem G20_is (k : Nat) (hk : 20 < k) (typ : Txt) (l : List Item) (hl : l.length ≤ 1000000000) (hlk : l.length < k) (hx : ∀ x ∈ l, x.2.1.length ≤ maxLen ∧ x.2.1.length < k) :
    G20 k ((typ, l, ()), ()) = some (msgRight (typ, l, ()), ()) := by
  rw [G20_eq]
  simp only [ofNat_len]
  rw [G38_is k hk, ocall_some]
  have := G20_4_is k hk l typ hl hx l.length 0 0 (by omega) (fun _ => rfl) (fun h => by omega) k hlk
  simp only [List.drop_zero, Int.natCast_zero] at this
  unfold msgRight
  (try simp only [])
  rw [this, ocall_some]
  cases knownT typ with
  | false => simp
  | true =>
    simp only [Bool.not_true, sel_false, Bool.and_true]
    by_cases c : l.length = 0
    · rw [sel_pos (by omega), decide_eq_false (show ¬ 0 < l.length by omega), Bool.and_false]
    · rw [sel_neg (by omega), decide_eq_true (show 0 < l.length by omega), Bool.and_true]
      cases itemsOK 0 l <;> rfl

theorem sameItem (x y : Item) : (sameI x.1 y.1 && (sameS x.2.1 y.2.1 && true)) = decide (x = y) := by
  obtain ⟨x1, x2, ⟨⟩⟩ := x
  obtain ⟨y1, y2, ⟨⟩⟩ := y
  simp only [sameI, sameS]
  by_cases h1 : x1 = y1 <;> by_cases h2 : x2 = y2 <;> simp [h1, h2]

theorem G28_4_is (k : Nat) (s t : Txt) (a b : List Item) (hab : a.length = b.length) (hl : a.length ≤ 1000000000) : ∀ (j i : Nat), i + j = a.length → ∀ n, j < n →
    G28_4 k n ((i : Int), s, a, t, b, ()) = some (sel (decide (a.drop i = b.drop i)) (.inl ()) (.inr (false, ()))) := by
  intro j
  induction j with
  | zero =>
    intro i hij n hn
    obtain ⟨n, rfl⟩ : ∃ m, n = m + 1 := ⟨n - 1, by omega⟩
    rw [G28_4_eq, sel_neg (by simp only [ofNat_len]; omega), List.drop_eq_nil_of_le (by omega), List.drop_eq_nil_of_le (by omega)]
    rfl
  | succ j ih =>
    intro i hij n hn
    obtain ⟨n, rfl⟩ : ∃ m, n = m + 1 := ⟨n - 1, by omega⟩
    have hlt : i < a.length := by omega
    have hlt' : i < b.length := by omega
    rw [G28_4_eq]
    simp only [ofNat_len, Int.toNat_natCast, getD_of hlt, getD_of hlt']
    rw [sel_pos (by omega), sel_pos (by omega), sel_pos (by omega), sel_pos (by omega), sel_pos (by omega), sameItem, drop_at hlt, drop_at hlt', wrap64 (by omega) (by omega)]
    simp only [List.cons.injEq]
    by_cases c : a[i] = b[i]
    · rw [decide_eq_true c, Bool.not_true, sel_false]
      have := ih (i + 1) (by omega) n (by omega)
      simp only [Int.natCast_add, Int.natCast_one] at this
      rw [this]
      have e : decide (a[i] = b[i] ∧ a.drop (i + 1) = b.drop (i + 1)) = decide (a.drop (i + 1) = b.drop (i + 1)) := decide_eq_decide.2 ⟨fun h => h.2, fun h => ⟨c, h⟩⟩
      rw [e]
    · rw [decide_eq_false c, Bool.not_false, sel_true, decide_eq_false (fun h => c h.1)]; rfl

theorem G28_is (k : Nat) (s t : Txt) (a b : List Item) (hl : a.length ≤ 1000000000) (hk : a.length < k) : G28 k ((s, a, ()), (t, b, ()), ()) = some (decide (((s, a, ()) : Msg) = (t, b, ())), ()) := by
  rw [G28_eq]
  simp only [ofNat_len]
  by_cases h1 : s = t
  case neg => rw [decide_eq_false h1, Bool.not_false, sel_true, decide_eq_false (fun e => h1 (congrArg Prod.fst e))]
  rw [decide_eq_true h1, Bool.not_true, sel_false]
  by_cases h2 : a.length = b.length
  case neg =>
    rw [decide_eq_false (show ¬ (a.length : Int) = (b.length : Int) by omega), Bool.not_false, sel_true, decide_eq_false (fun e => h2 (by have := congrArg (fun m : Msg => m.2.1.length) e; simpa using this))]
  rw [decide_eq_true (show (a.length : Int) = (b.length : Int) by omega), Bool.not_true, sel_false]
  have := G28_4_is k s t a b h2 hl a.length 0 (by omega) k hk
  simp only [List.drop_zero, Int.natCast_zero] at this
  rw [this, ocall_some]
  by_cases c : a = b
  · rw [decide_eq_true c, decide_eq_true (show ((s, a, ()) : Msg) = (t, b, ()) by rw [h1, c])]; rfl
  · rw [decide_eq_false c, decide_eq_false (fun e => c (congrArg (fun m : Msg => m.2.1) e))]; rfl

def shortM (m : Msg) : Prop := m.1.length ≤ 300 ∧ m.2.1.length ≤ 200 ∧ ∀ x ∈ m.2.1, x.2.1.length ≤ 1200

/-- a message that passes as short is -/
theorem G19_2_is (k : Nat) (s : Txt) (l : List Item) : ∀ (j i : Nat), i + j = min l.length 200 → ∀ n, j < n →
    G19_2 k n ((i : Int), s, l, ()) = some (sel (((l.take 200).drop i).all fun x => decide (x.2.1.length ≤ 1200)) (.inl (s, l, ())) (.inr (false, ()))) := by
  intro j
  induction j with
  | zero =>
    intro i hij n hn
    obtain ⟨n, rfl⟩ : ∃ m, n = m + 1 := ⟨n - 1, by omega⟩
    rw [G19_2_eq, List.drop_eq_nil_of_le (by rw [List.length_take]; omega)]
    simp only [ofNat_len]
    by_cases c : i < l.length
    · rw [sel_pos (by omega), sel_neg (by omega)]; rfl
    · rw [sel_neg (by omega)]; rfl
  | succ j ih =>
    intro i hij n hn
    obtain ⟨n, rfl⟩ : ∃ m, n = m + 1 := ⟨n - 1, by omega⟩
    have hlt : i < l.length := by omega
    have hlt' : i < (l.take 200).length := by rw [List.length_take]; omega
    rw [G19_2_eq]
    simp only [ofNat_len, Int.toNat_natCast, getD_of hlt]
    rw [sel_pos (by omega), sel_pos (by omega), sel_pos (by omega), sel_pos (by omega), drop_at hlt', wrap64 (by omega) (by omega)]
    simp only [List.all_cons, List.getElem_take]
    by_cases c : l[i].2.1.length ≤ 1200
    · rw [sel_neg (by omega), decide_eq_true c, Bool.true_and]
      exact ih (i + 1) (by omega) n (by omega)
    · rw [sel_pos (by omega), decide_eq_false c]; rfl

theorem G19_is (k : Nat) (hk : 300 < k) (s : Txt) (l : List Item) : ∃ b, G19 k ((s, l, ()), ()) = some (b, ()) ∧ (b = true → shortM (s, l, ())) := by
  rw [G19_eq]
  have := G19_2_is k s l (min l.length 200) 0 (by omega) k (by omega)
  simp only [List.drop_zero, Int.natCast_zero] at this
  (try simp only [])
  rw [this, ocall_some]
  cases h : (l.take 200).all fun x => decide (x.2.1.length ≤ 1200) with
  | false => exact ⟨false, rfl, fun e => by cases e⟩
  | true =>
    simp only [sel_true, esel_inl, ofNat_len]
    by_cases c1 : s.length ≤ 300
    case neg => rw [sel_neg (by omega)]; exact ⟨false, rfl, fun e => by cases e⟩
    rw [sel_pos (by omega)]
    refine ⟨_, rfl, fun e => ?_⟩
    have c2 : l.length ≤ 200 := by have := of_decide_eq_true e; omega
    refine ⟨c1, c2, fun x hx => ?_⟩
    rw [List.take_of_length_le c2] at h
    exact of_decide_eq_true (List.all_eq_true.1 h x hx)

end Go.Proofs.Ytjgnpmdbkgeakaa.G
