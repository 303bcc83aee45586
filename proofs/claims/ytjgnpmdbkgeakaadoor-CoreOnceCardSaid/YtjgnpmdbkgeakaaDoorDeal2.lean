/- What the functions that read a deal's message, and those of the document's answer, answer. -/
import Derived.Test.YtjgnpmdbkgeakaaDoorDeal
import Derived.Test.YtjgnpmdbkgeakaaDoorField4
set_option linter.unusedVariables false
set_option linter.unusedSimpArgs false
set_option maxRecDepth 100000
namespace Go.Proofs.YtjgnpmdbkgeakaaDoor.G
open Go Go.Proofs.YtjgnpmdbkgeakaaDoor Th

def kindT (s : Txt) : Int :=
  if s = [48, 49, 48, 48] then 1 else if s = [48, 49, 49, 48] then 2 else if s = [48, 52, 48, 48] then 3 else if s = [48, 52, 49, 48] then 4 else if s = [48, 52, 50, 48] then 5 else if s = [48, 52, 50, 49] then 6 else if s = [48, 52, 51, 48] then 7 else 0

theorem G113_2_step (k n : Nat) (s t : Txt) (i : Int) (h1 : 1 ≤ i) (h7 : i ≤ 7) (ht : typeK i = t) : G113_2 k (n + 1) (s, i, ()) = sel (decide (t = s)) (some (.inr (i, ()))) (G113_2 k n (s, i + 1, ())) := by
  rw [G113_2_eq, sel_pos h7, G108_is, ocall_some, wrap64 (show -9223372036854775808 ≤ i + 1 by omega) (show i + 1 ≤ 9223372036854775807 by omega), ht]

theorem G113_2_last (k n : Nat) (s : Txt) (i : Int) (h : ¬ i ≤ 7) : G113_2 k (n + 1) (s, i, ()) = some (.inl ()) := by
  rw [G113_2_eq, sel_neg h]

theorem G113_is (k : Nat) (hk : 20 < k) (s : Txt) : G113 k (s, ()) = some (kindT s, ()) := by
  obtain ⟨m, rfl⟩ : ∃ m, k = m + 8 := ⟨k - 8, by omega⟩
  rw [G113_eq]
  (try simp only [])
  rw [G113_2_step (m + 8) (m + 7) s [48, 49, 48, 48] 1 (by omega) (by omega) rfl, G113_2_step (m + 8) (m + 6) s [48, 49, 49, 48] (1 + 1) (by omega) (by omega) rfl, G113_2_step (m + 8) (m + 5) s [48, 52, 48, 48] (1 + 1 + 1) (by omega) (by omega) rfl,
    G113_2_step (m + 8) (m + 4) s [48, 52, 49, 48] (1 + 1 + 1 + 1) (by omega) (by omega) rfl, G113_2_step (m + 8) (m + 3) s [48, 52, 50, 48] (1 + 1 + 1 + 1 + 1) (by omega) (by omega) rfl,
    G113_2_step (m + 8) (m + 2) s [48, 52, 50, 49] (1 + 1 + 1 + 1 + 1 + 1) (by omega) (by omega) rfl, G113_2_step (m + 8) (m + 1) s [48, 52, 51, 48] (1 + 1 + 1 + 1 + 1 + 1 + 1) (by omega) (by omega) rfl,
    G113_2_last (m + 8) m s _ (by omega)]
  unfold kindT
  by_cases h1 : s = [48, 49, 48, 48]
  · rw [sel_pos h1.symm, if_pos h1]; rfl
  rw [sel_neg (fun e => h1 e.symm), if_neg h1]
  by_cases h2 : s = [48, 49, 49, 48]
  · rw [sel_pos h2.symm, if_pos h2]; rfl
  rw [sel_neg (fun e => h2 e.symm), if_neg h2]
  by_cases h3 : s = [48, 52, 48, 48]
  · rw [sel_pos h3.symm, if_pos h3]; rfl
  rw [sel_neg (fun e => h3 e.symm), if_neg h3]
  by_cases h4 : s = [48, 52, 49, 48]
  · rw [sel_pos h4.symm, if_pos h4]; rfl
  rw [sel_neg (fun e => h4 e.symm), if_neg h4]
  by_cases h5 : s = [48, 52, 50, 48]
  · rw [sel_pos h5.symm, if_pos h5]; rfl
  rw [sel_neg (fun e => h5 e.symm), if_neg h5]
  by_cases h6 : s = [48, 52, 50, 49]
  · rw [sel_pos h6.symm, if_pos h6]; rfl
  rw [sel_neg (fun e => h6 e.symm), if_neg h6]
  by_cases h7 : s = [48, 52, 51, 48]
  · rw [sel_pos h7.symm, if_pos h7]; rfl
  rw [sel_neg (fun e => h7 e.symm), if_neg h7]
  rfl

def getM (n : Int) : List Item → Txt × Bool
  | [] => ([], false)
  | x :: l => if x.1 = n then (x.2.1, true) else getM n l
def idxM (n : Int) : List Item → Nat → Option Nat
  | [], _ => none
  | x :: l, i => if x.1 = n then some i else idxM n l (i + 1)
theorem idxM_some (n : Int) : ∀ (l : List Item) (i j : Nat), idxM n l i = some j → ∃ h : j - i < l.length, i ≤ j ∧ getM n l = (l[j - i].2.1, true)
  | [], i, j, h => by cases h
  | x :: l, i, j, h => by
    unfold idxM at h
    by_cases c : x.1 = n
    · rw [if_pos c] at h
      cases h
      refine ⟨by simp, Nat.le_refl _, ?_⟩
      simp [getM, c]
    · rw [if_neg c] at h
      obtain ⟨h1, h2, h3⟩ := idxM_some n l (i + 1) j h
      have e : j - i = (j - (i + 1)) + 1 := by omega
      refine ⟨by simp; omega, by omega, ?_⟩
      simp only [getM, if_neg c, h3, e, List.getElem_cons_succ]
theorem idxM_none (n : Int) : ∀ (l : List Item) (i : Nat), idxM n l i = none → getM n l = ([], false)
  | [], i, _ => rfl
  | x :: l, i, h => by
    unfold idxM at h
    by_cases c : x.1 = n
    · rw [if_pos c] at h; cases h
    · rw [if_neg c] at h
      simp only [getM, if_neg c, idxM_none n l (i + 1) h]

theorem G7000000_2_is (k : Nat) (n : Int) (l : List Item) (hl : l.length ≤ 1000000000) :
    ∀ (j i : Nat), i + j = l.length → ∀ m, j < m → G7000000_2 k m (l, ((n, ()), ()), (l.length : Int), (i : Int), ()) = some (match idxM n (l.drop i) i with | none => .inl () | some q => .inr ((q : Int), ())) := by
  intro j
  induction j with
  | zero =>
    intro i hij m hm
    obtain ⟨m, rfl⟩ : ∃ q, m = q + 1 := ⟨m - 1, by omega⟩
    rw [G7000000_2_eq, sel_neg (by (try simp only []); omega), List.drop_eq_nil_of_le (by omega)]
    rfl
  | succ j ih =>
    intro i hij m hm
    obtain ⟨m, rfl⟩ : ∃ q, m = q + 1 := ⟨m - 1, by omega⟩
    have hlt : i < l.length := by omega
    rw [G7000000_2_eq]
    simp only [ofNat_len, Int.toNat_natCast, getD_of hlt]
    rw [sel_pos (by omega), sel_pos (by omega), sel_pos (by omega), drop_at hlt, G174_eq, ocall_some]
    simp only [idxM]
    by_cases c : l[i].1 = n
    · rw [sel_pos c, if_pos c]
    · rw [sel_neg c, if_neg c, wrap64 (by omega) (by omega)]
      exact ih (i + 1) (by omega) m (by omega)

theorem G115_is (k : Nat) (n : Int) (typ : Txt) (l : List Item) (hl : l.length ≤ 1000000000) (hk : l.length < k) : G115 k ((typ, l, ()), n, ()) = some ((getM n l).1, (getM n l).2, ()) := by
  rw [G115_eq]
  (try simp only [])
  have := G7000000_2_is k n l hl l.length 0 (by omega) k hk
  simp only [List.drop_zero, Int.natCast_zero] at this
  rw [G7000000_eq]
  simp only [ofNat_len]
  rw [this, ocall_some]
  cases h : idxM n l 0 with
  | none =>
    rw [idxM_none n l 0 h]
    rfl
  | some q =>
    obtain ⟨h1, h2, h3⟩ := idxM_some n l 0 q h
    simp only [Nat.sub_zero] at h1 h3
    rw [h3]
    simp only [esel_inr, ocall_some, Int.toNat_natCast, getD_of h1]
    rw [sel_neg (by omega), sel_pos (by omega), sel_pos (by omega)]

def numM (n : Int) (l : List Item) : Int := (((getOK (getM n l).1).1 : Nat) : Int)
theorem G114_is (k : Nat) (hk : 20 < k) (n : Int) (typ : Txt) (l : List Item) (hl : l.length ≤ 1000000000) (hlk : l.length < k) : G114 k ((typ, l, ()), n, ()) = some (numM n l, ()) := by
  rw [G114_eq, G115_is k n typ l hl hlk, ocall_some, G172_is k _ hk, ocall_some]
  rfl

theorem getOK_lt (s : Txt) : (getOK s).1 < 10 ^ 19 := by
  unfold getOK
  split
  · simp
  split
  · simp
  split
  · rename_i h1 h2 h3
    have := val_lt s 0 (all_of_isDig h3)
    have := pow_le19 (i := s.length) (by omega)
    simp only [Nat.zero_add, Nat.one_mul] at *
    omega
  · simp
theorem numM_good (n : Int) (l : List Item) : 0 ≤ numM n l ∧ numM n l ≤ 18446744073709551615 := by
  have := getOK_lt (getM n l).1
  unfold numM
  constructor
  · omega
  · have e : (10 : Nat) ^ 19 = 10000000000000000000 := rfl
    omega

def mustK (kind : Int) : List Int := if kind = 5 ∨ kind = 6 then [2, 4, 11, 37, 90] else if asksK kind = true then [2, 4, 11, 37] else [11, 37, 39]
theorem items_must (d : Deal) : (itemsK d).map (·.1) = mustK d.1 := by
  unfold itemsK mustK
  by_cases h : asksK d.1 = true
  · rw [if_pos h]
    have hh := h
    simp only [asksK, decide_eq_true_eq] at hh
    by_cases c : 5 ≤ d.1
    · rw [if_pos c, if_pos (by omega)]; rfl
    · rw [if_neg c, if_neg (by omega), if_pos h]; rfl
  · rw [if_neg h]
    have hh := h
    simp only [asksK, decide_eq_true_eq] at hh
    rw [if_neg (by omega), if_neg h]; rfl

def fitsM (l : List Item) (d : Deal) : Bool := decide ((itemsK d).map (·.1) = l.map (·.1))
theorem G116_5_is (k : Nat) (a b : List Item) (typ : Txt) (hab : a.length = b.length) (hl : a.length ≤ 1000000000) : ∀ (j i : Nat), i + j = a.length → ∀ m, j < m →
    G116_5 k m (a, (a.length : Int), (i : Int), typ, b, ()) = some (sel (decide ((a.drop i).map (·.1) = (b.drop i).map (·.1))) (.inl ()) (.inr (false, ()))) := by
  intro j
  induction j with
  | zero =>
    intro i hij m hm
    obtain ⟨m, rfl⟩ : ∃ q, m = q + 1 := ⟨m - 1, by omega⟩
    rw [G116_5_eq, sel_neg (by (try simp only []); omega), List.drop_eq_nil_of_le (by omega), List.drop_eq_nil_of_le (by omega)]
    rfl
  | succ j ih =>
    intro i hij m hm
    obtain ⟨m, rfl⟩ : ∃ q, m = q + 1 := ⟨m - 1, by omega⟩
    have hlt : i < a.length := by omega
    have hlt' : i < b.length := by omega
    rw [G116_5_eq]
    simp only [ofNat_len, Int.toNat_natCast, getD_of hlt, getD_of hlt']
    rw [sel_pos (by omega), sel_pos (by omega), sel_pos (by omega), sel_pos hlt, sel_pos (by omega), sel_pos (by omega), drop_at hlt, drop_at hlt']
    simp only [List.map_cons, List.cons.injEq]
    by_cases c : b[i].1 = a[i].1
    · rw [decide_eq_true c, Bool.not_true, sel_false, wrap64 (by omega) (by omega)]
      have := ih (i + 1) (by omega) m (by omega)
      simp only [Int.natCast_add, Int.natCast_one] at this
      rw [this]
      have e : decide (a[i].1 = b[i].1 ∧ (a.drop (i + 1)).map (·.1) = (b.drop (i + 1)).map (·.1)) = decide ((a.drop (i + 1)).map (·.1) = (b.drop (i + 1)).map (·.1)) := decide_eq_decide.2 ⟨fun h => h.2, fun h => ⟨c.symm, h⟩⟩
      rw [e]
    · rw [decide_eq_false c, Bool.not_false, sel_true, decide_eq_false (fun h => c h.1.symm)]
      rfl

theorem G116_is (k : Nat) (hk : 20 < k) (typ : Txt) (l : List Item) (kind : Int) (pan : Txt) (amt stan : Int) (rrn code : Txt) (ha : 0 ≤ amt ∧ amt ≤ 18446744073709551615) (hs : 0 ≤ stan ∧ stan ≤ 4294967295) :
    G116 k ((typ, l, ()), (kind, pan, amt, stan, rrn, code, ()), ()) = some (fitsM l (kind, pan, amt, stan, rrn, code, ()), ()) := by
  rw [G116_eq]
  (try simp only [])
  rw [G109_is k hk kind pan amt stan rrn code ha hs, ocall_some]
  have h5 := itemsK_len (kind, pan, amt, stan, rrn, code, ())
  unfold fitsM
  simp only [ofNat_len]
  by_cases c : (itemsK (kind, pan, amt, stan, rrn, code, ())).length = l.length
  · rw [decide_eq_true (show ((itemsK (kind, pan, amt, stan, rrn, code, ())).length : Int) = (l.length : Int) by omega), Bool.not_true, sel_false]
    have := G116_5_is k (itemsK (kind, pan, amt, stan, rrn, code, ())) l typ c (by omega) (itemsK (kind, pan, amt, stan, rrn, code, ())).length 0 (by omega) k (by omega)
    simp only [List.drop_zero, Int.natCast_zero] at this
    rw [this, ocall_some]
    cases decide ((itemsK (kind, pan, amt, stan, rrn, code, ())).map (·.1) = l.map (·.1)) <;> rfl
  · rw [decide_eq_false (show ¬ ((itemsK (kind, pan, amt, stan, rrn, code, ())).length : Int) = (l.length : Int) by omega), Bool.not_false, sel_true, decide_eq_false (fun h => c (by have := congrArg List.length h; simpa using this))]

/-! reading -/
def zeroD : Deal := (0, [], 0, 0, [], [], ())
def deM (m : Msg) : Deal := (kindT m.1, (getM 2 m.2.1).1, numM 4 m.2.1, IntKind.u32.wrap (numM 11 m.2.1), (getM 37 m.2.1).1, (getM 39 m.2.1).1, ())
def readD (m : Msg) : Deal × Int :=
  if msgRight m = true then
    if m.2.1.map (·.1) = mustK (kindT m.1) then
      if asksK (kindT m.1) = true ∧ isFine (getM 2 m.2.1).1 = false then (zeroD, 3)
      else if (kindT m.1 = 5 ∨ kindT m.1 = 6) ∧ (getM 90 m.2.1).1 ≠ [48, 49, 48, 48] ++ (getM 11 m.2.1).1 ++ zeros then (zeroD, 11)
      else (deM m, 0)
    else (zeroD, 3)
  else (zeroD, 1)

theorem wrap32_good (n : Int) : 0 ≤ IntKind.u32.wrap n ∧ IntKind.u32.wrap n ≤ 4294967295 := by
  have : IntKind.u32.wrap n = n % 4294967296 := rfl
  rw [this]; omega

/-- the pieces of a message that fits -/
theorem items3 {l : List Item} (h : l.map (·.1) = [11, 37, 39]) : ∃ a b c, l = [(11, a, ()), (37, b, ()), (39, c, ())] := by
  match l, h with
  | [(x, a, ⟨⟩), (y, b, ⟨⟩), (z, c, ⟨⟩)], h =>
    simp only [List.map_cons, List.map_nil, List.cons.injEq, and_true] at h
    obtain ⟨rfl, rfl, rfl⟩ := h
    exact ⟨a, b, c, rfl⟩
theorem items4 {l : List Item} (h : l.map (·.1) = [2, 4, 11, 37]) : ∃ a b c d, l = [(2, a, ()), (4, b, ()), (11, c, ()), (37, d, ())] := by
  match l, h with
  | [(x, a, ⟨⟩), (y, b, ⟨⟩), (z, c, ⟨⟩), (w, d, ⟨⟩)], h =>
    simp only [List.map_cons, List.map_nil, List.cons.injEq, and_true] at h
    obtain ⟨rfl, rfl, rfl, rfl⟩ := h
    exact ⟨a, b, c, d, rfl⟩
theorem items5 {l : List Item} (h : l.map (·.1) = [2, 4, 11, 37, 90]) : ∃ a b c d e, l = [(2, a, ()), (4, b, ()), (11, c, ()), (37, d, ()), (90, e, ())] := by
  match l, h with
  | [(x, a, ⟨⟩), (y, b, ⟨⟩), (z, c, ⟨⟩), (w, d, ⟨⟩), (v, e, ⟨⟩)], h =>
    simp only [List.map_cons, List.map_nil, List.cons.injEq, and_true] at h
    obtain ⟨rfl, rfl, rfl, rfl, rfl⟩ := h
    exact ⟨a, b, c, d, e, rfl⟩

theorem stan_back {s : Txt} (h : rightF 11 s = true) : 0 ≤ IntKind.u32.wrap (((getOK s).1 : Nat) : Int) ∧ IntKind.u32.wrap (((getOK s).1 : Nat) : Int) ≤ 999999 ∧ stanT (IntKind.u32.wrap (((getOK s).1 : Nat) : Int)) = s ∧ s.length = 6 := by
  rw [rf11, Bool.and_eq_true, decide_eq_true_eq] at h
  obtain ⟨hl, hd⟩ := h
  have ha := all_of_isDig hd
  obtain ⟨h1, h2⟩ := digs_val 6 s hl ha
  have e : getOK s = (val 0 s, 0) := by
    unfold getOK
    rw [if_neg (by omega), if_neg (by omega), if_pos hd]
  rw [e]
  (try simp only [])
  have h3 : val 0 s < 1000000 := h2
  rw [wrapu32 (by omega) (by omega)]
  refine ⟨by omega, by omega, ?_, hl⟩
  rw [stanT_of (by omega) (by omega), Int.toNat_natCast, h1]
theorem amt_back {s : Txt} (h : rightF 4 s = true) : (((getOK s).1 : Nat) : Int) < 1000000000000 ∧ amtT (((getOK s).1 : Nat) : Int) = s := by
  rw [rf4, Bool.and_eq_true, decide_eq_true_eq] at h
  obtain ⟨hl, hd⟩ := h
  have ha := all_of_isDig hd
  obtain ⟨h1, h2⟩ := digs_val 12 s hl ha
  have e : getOK s = (val 0 s, 0) := by
    unfold getOK
    rw [if_neg (by omega), if_neg (by omega), if_pos hd]
  rw [e]
  (try simp only [])
  have h3 : val 0 s < 1000000000000 := h2
  refine ⟨by omega, ?_⟩
  rw [amtT_of (by omega) (by omega), Int.toNat_natCast, h1]

theorem items_right {m : Msg} (h : msgRight m = true) : itemsOK 0 m.2.1 = true ∧ knownT m.1 = true := by
  unfold msgRight at h
  simp only [Bool.and_eq_true] at h
  exact ⟨h.1.1, h.1.2⟩

theorem kind_five {kind : Int} : (asksK kind = true ∧ 5 ≤ kind) ↔ (kind = 5 ∨ kind = 6) := by
  unfold asksK; simp only [decide_eq_true_eq]; omega

theorem rf37_in {l : List Item} {kind : Int} (hm : l.map (·.1) = mustK kind) (hr : itemsOK 0 l = true) : rightF 37 (getM 37 l).1 = true ∧ rightF 11 (getM 11 l).1 = true := by
  unfold mustK at hm
  split at hm
  · obtain ⟨a, b, c, d, e, rfl⟩ := items5 hm
    simp only [itemsOK, Bool.and_eq_true] at hr
    simp [getM]
    exact ⟨hr.2.2.2.1.2, hr.2.2.1.2⟩
  split at hm
  · obtain ⟨a, b, c, d, rfl⟩ := items4 hm
    simp only [itemsOK, Bool.and_eq_true] at hr
    simp [getM]
    exact ⟨hr.2.2.2.1.2, hr.2.2.1.2⟩
  · obtain ⟨a, b, c, rfl⟩ := items3 hm
    simp only [itemsOK, Bool.and_eq_true] at hr
    simp [getM]
    exact ⟨hr.2.1.2, hr.1.2⟩

theorem getM_len (n : Int) (L : Nat) : ∀ l : List Item, (∀ x ∈ l, x.2.1.length ≤ L) → (getM n l).1.length ≤ L
  | [], _ => Nat.zero_le _
  | x :: l, h => by
    unfold getM
    split
    · exact h x (List.mem_cons_self ..)
    · exact getM_len n L l fun y hy => h y (List.mem_cons_of_mem _ hy)

theorem origin_of (stan : Int) (s : Txt) (h : stanT stan = s) : originT stan = [48, 49, 48, 48] ++ s ++ zeros := by unfold originT; rw [h]

theorem G40_is (k : Nat) (hk : 2000 < k) (typ : Txt) (l : List Item) (hl : l.length ≤ 1000) (hx : ∀ x ∈ l, x.2.1.length ≤ 1200) :
    G40 k ((typ, l, ()), ()) = some ((readD (typ, l, ())).1, (readD (typ, l, ())).2, ()) := by
  rw [G40_eq]
  (try simp only [])
  rw [G44_is k (by omega) typ l (by omega) (by omega) (fun x h => ⟨by have := hx x h; rw [maxLen_eq]; omega, by have := hx x h; omega⟩), ocall_some]
  unfold readD
  (try simp only [])
  by_cases hr : msgRight (typ, l, ()) = true
  case neg => rw [if_neg hr]; rw [show msgRight (typ, l, ()) = false by simpa using hr]; rfl
  rw [if_pos hr, hr]
  obtain ⟨r1, r2⟩ := items_right hr
  (try simp only [] at r1 r2)
  simp only [Bool.not_true, sel_false]
  have hg : ∀ n, G115 k ((typ, l, ()), n, ()) = some ((getM n l).1, (getM n l).2, ()) := fun n => G115_is k n typ l (by omega) (by omega)
  have hn : ∀ n, G114 k ((typ, l, ()), n, ()) = some (numM n l, ()) := fun n => G114_is k (by omega) n typ l (by omega) (by omega)
  have hd : deM (typ, l, ()) = (kindT typ, (getM 2 l).1, numM 4 l, IntKind.u32.wrap (numM 11 l), (getM 37 l).1, (getM 39 l).1, ()) := rfl
  have l2 := getM_len 2 1200 l hx
  have l37 := getM_len 37 1200 l hx
  have hi := G109_is k (by omega) (kindT typ) (getM 2 l).1 (numM 4 l) (IntKind.u32.wrap (numM 11 l)) (getM 37 l).1 (getM 39 l).1 (numM_good 4 l) (wrap32_good _)
  have hf := G116_is k (by omega) typ l (kindT typ) (getM 2 l).1 (numM 4 l) (IntKind.u32.wrap (numM 11 l)) (getM 37 l).1 (getM 39 l).1 (numM_good 4 l) (wrap32_good _)
  have hq := G107_is k (getM 2 l).1 (by omega) (by omega)
  have h37 := G117_is k (by omega) 37 (getM 37 l).1 (by rw [maxLen_eq]; omega) (by omega)
  simp only [G113_is k (by omega), hn, hg, ocall_some, hf, G42_is, hq, hi, h37]
  unfold fitsM
  rw [items_must]
  (try simp only [])
  by_cases cm : l.map (·.1) = mustK (kindT typ)
  case neg =>
    rw [if_neg cm, decide_eq_false (fun e => cm e.symm)]; rfl
  rw [if_pos cm, decide_eq_true cm.symm]
  obtain ⟨q37, q11⟩ := rf37_in cm r1
  obtain ⟨s0, s1, s2, s3⟩ := stan_back q11
  rw [q37, hd]
  simp only [Bool.not_true, sel_false]
  by_cases ca : asksK (kindT typ) = true
  case neg =>
    have ca' : asksK (kindT typ) = false := by simpa using ca
    rw [ca']
    rw [if_neg (fun e => by cases e.1), if_neg (fun e => ca (kind_five.2 e.1).1)]
    simp only [sel_false]
    by_cases c5 : 5 ≤ kindT typ
    · rw [sel_pos c5]
    · rw [sel_neg c5]
  rw [ca]
  simp only [sel_true, true_and]
  by_cases cf : isFine (getM 2 l).1 = true
  case neg =>
    have cf' : isFine (getM 2 l).1 = false := by simpa using cf
    rw [cf', if_pos rfl]; rfl
  rw [cf, if_neg (by simp)]
  simp only [Bool.not_true, sel_false]
  by_cases c5 : 5 ≤ kindT typ
  case neg =>
    rw [sel_neg c5, if_neg (fun e => c5 (kind_five.2 e.1).2)]
  rw [sel_pos c5]
  have e5 : itemsK (kindT typ, (getM 2 l).1, numM 4 l, IntKind.u32.wrap (numM 11 l), (getM 37 l).1, (getM 39 l).1, ()) = [(2, (getM 2 l).1, ()), (4, amtT (numM 4 l), ()), (11, stanT (IntKind.u32.wrap (numM 11 l)), ()), (37, (getM 37 l).1, ()), (90, originT (IntKind.u32.wrap (numM 11 l)), ())] := by
    unfold itemsK; (try simp only []); rw [if_pos ca, if_pos c5]; rfl
  rw [e5, sel_pos (by simp only [List.length_cons, List.length_nil]; decide), sel_pos (by simp only [List.length_cons, List.length_nil]; decide)]
  have eg : ∀ (a b c d e : Item), (([a, b, c, d, e] : List Item).getD (Int.toNat 4) (OfNat.ofNat 0, [], ())) = e := fun _ _ _ _ _ => rfl
  simp only [eg]
  have e6 : originT (IntKind.u32.wrap (numM 11 l)) = [48, 49, 48, 48] ++ (getM 11 l).1 ++ zeros := origin_of _ _ s2
  rw [e6]
  by_cases co : (getM 90 l).1 = [48, 49, 48, 48] ++ (getM 11 l).1 ++ zeros
  · rw [if_neg (fun e => e.2 co)]
    rw [co]
    rw [sel_not, sel_pos rfl]
  · rw [if_pos ⟨kind_five.1 ⟨ca, c5⟩, co⟩, sel_not, sel_neg co]
    rfl
end Go.Proofs.YtjgnpmdbkgeakaaDoor.G
