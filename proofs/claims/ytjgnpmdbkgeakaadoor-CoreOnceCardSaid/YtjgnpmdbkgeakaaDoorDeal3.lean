/- What the document's answer for deals answers: reading and writing. -/
import Derived.Test.YtjgnpmdbkgeakaaDoorDeal2
set_option linter.unusedVariables false
set_option linter.unusedSimpArgs false
set_option maxRecDepth 100000
namespace Go.Proofs.YtjgnpmdbkgeakaaDoor.G
open Go Go.Proofs.YtjgnpmdbkgeakaaDoor Th

theorem G178_3_is (k : Nat) (s : Txt) (L : List Txt) (hL : L.length ≤ 1000) : ∀ (j i : Nat), i + j = L.length → ∀ n, j < n → G178_3 k n (s, L, (i : Int), ()) = some (sel ((L.drop i).contains s) (.inr (true, ())) (.inl ())) := by
  intro j
  induction j with
  | zero =>
    intro i hij n hn
    obtain ⟨n, rfl⟩ : ∃ m, n = m + 1 := ⟨n - 1, by omega⟩
    rw [G178_3_eq, sel_neg (by simp only [ofNat_len]; omega), List.drop_eq_nil_of_le (by omega)]
    rfl
  | succ j ih =>
    intro i hij n hn
    obtain ⟨n, rfl⟩ : ∃ m, n = m + 1 := ⟨n - 1, by omega⟩
    have hlt : i < L.length := by omega
    rw [G178_3_eq]
    simp only [ofNat_len, Int.toNat_natCast, getD_of hlt]
    rw [sel_pos (by omega), sel_pos (by omega), sel_pos (by omega), sel_pos hlt, drop_at hlt, List.contains_cons, wrap64 (by omega) (by omega)]
    by_cases c : L[i] = s
    · rw [sel_pos c]
      have : (s == L[i]) = true := by rw [c]; simp
      rw [this]; rfl
    · rw [sel_neg c]
      have : (s == L[i]) = false := by simpa using fun e => c e.symm
      rw [this, Bool.false_or]
      exact ih (i + 1) (by omega) n (by omega)

theorem G178_is (k : Nat) (hk : 20 < k) (s : Txt) : G178 k (s, ()) = some (knownT s, ()) := by
  rw [G178_eq]
  have := G178_3_is k s KT (by decide) 7 0 rfl k (by omega)
  simp only [List.drop_zero, Int.natCast_zero] at this
  unfold KT at this
  rw [this, ocall_some]
  unfold knownT KT
  generalize List.contains _ s = b
  cases b <;> rfl

theorem G118_4_is (k : Nat) (hk : 20 < k) (l : List Item) (typ : Txt) (hl : l.length ≤ 1000000000) (hx : ∀ x ∈ l, x.2.1.length ≤ maxLen ∧ x.2.1.length < k) :
    ∀ (j i : Nat) (last : Int), i + j = l.length → (i = 0 → last = 0) → (∀ h : 0 < i, ∀ h' : i - 1 < l.length, last = l[i - 1].1) → ∀ n, j < n → G118_4 k n ((i : Int), typ, l, ()) = some (sel (itemsOK last (l.drop i)) (.inl ()) (.inr (false, ()))) := by
  intro j
  induction j with
  | zero =>
    intro i last hij h0 h1 n hn
    obtain ⟨n, rfl⟩ : ∃ m, n = m + 1 := ⟨n - 1, by omega⟩
    rw [G118_4_eq, sel_neg (by simp only [ofNat_len]; omega), List.drop_eq_nil_of_le (by omega)]
    rfl
  | succ j ih =>
    intro i last hij h0 h1 n hn
    obtain ⟨n, rfl⟩ : ∃ m, n = m + 1 := ⟨n - 1, by omega⟩
    have hlt : i < l.length := by omega
    rw [G118_4_eq]
    simp only [ofNat_len, Int.toNat_natCast, getD_of hlt]
    rw [sel_pos (by omega), sel_pos (by omega), sel_pos (by omega), sel_pos (by omega), sel_pos (by omega), drop_at hlt]
    obtain ⟨hx1, hx2⟩ := hx l[i] (List.getElem_mem _)
    rw [G101_is k hk _ _ hx1 hx2, ocall_some]
    simp only [itemsOK]
    have step := ih (i + 1) l[i].1 (by omega) (by omega) (fun _ _ => rfl) n (by omega)
    simp only [Int.natCast_add, Int.natCast_one] at step
    cases hr : rightF l[i].1 l[i].2.1 with
    | false => simp
    | true =>
      simp only [Bool.not_true, sel_false, Bool.and_true]
      have hdef : 2 ≤ l[i].1 := by
        unfold rightF at hr
        cases hd : defOf l[i].1 with
        | none => rw [hd] at hr; cases hr
        | some d =>
          obtain ⟨hm, e⟩ := defOf_mem hd
          have := (D_all d hm).1
          omega
      by_cases c : i = 0
      · subst c
        rw [sel_neg (by omega), wrap64 (by omega) (by omega), h0 rfl, decide_eq_true (by omega), Bool.true_and]
        exact step
      · have hlt' : i - 1 < l.length := by omega
        have e1 : (IntKind.i64.wrap ((i : Int) - 1)) = ((i - 1 : Nat) : Int) := by rw [wrap64 (by omega) (by omega)]; omega
        rw [sel_pos (by omega), sel_pos (by omega), sel_pos (by omega), e1, sel_pos (by omega), sel_pos (by omega), Int.toNat_natCast, getD_of hlt', ← h1 (by omega) hlt', wrap64 (by omega) (by omega)]
        by_cases c2 : l[i].1 ≤ last
        · rw [sel_pos c2, decide_eq_false (by omega)]; rfl
        · rw [sel_neg c2, decide_eq_true (by omega), Bool.true_and]
          exact step

theorem G118_is (k : Nat) (hk : 20 < k) (typ : Txt) (l : List Item) (hl : l.length ≤ 1000000000) (hlk : l.length < k) (hx : ∀ x ∈ l, x.2.1.length ≤ maxLen ∧ x.2.1.length < k) :
    G118 k ((typ, l, ()), ()) = some (msgRight (typ, l, ()), ()) := by
  rw [G118_eq]
  simp only [ofNat_len]
  rw [G178_is k hk, ocall_some]
  have := G118_4_is k hk l typ hl hx l.length 0 0 (by omega) (fun _ => rfl) (fun h => by omega) k hlk
  simp only [List.drop_zero, Int.natCast_zero] at this
  unfold msgRight
  (try simp only [])
  rw [this, ocall_some]
  cases knownT typ with
  | false => simp
  | true =>
    simp only [Bool.not_true, sel_false, Bool.and_true]
    by_cases c : l.length = 0
    · rw [sel_pos (by omega), decide_eq_false (show ¬ 0 < l.length by omega), Bool.and_false]
    · rw [sel_neg (by omega), decide_eq_true (show 0 < l.length by omega), Bool.and_true]
      cases itemsOK 0 l <;> rfl

theorem G119_is (k : Nat) (kind : Int) : G119 k (kind, ()) = some (mustK kind, ()) := by
  rw [G119_eq]
  unfold mustK
  by_cases h5 : kind = 5
  · rw [sel_pos h5, if_pos (.inl h5)]
  rw [sel_neg h5]
  by_cases h6 : kind = 6
  · rw [sel_pos h6, if_pos (.inr h6)]
  rw [sel_neg h6, if_neg (by omega), G43_is, ocall_some]
  cases asksK kind <;> rfl

theorem G112_is (k : Nat) (s : Txt) (h : s.length ≤ 100000) : G112 k (s, ()) = some ([48, 49, 48, 48] ++ s ++ zeros, ()) := by
  rw [G112_eq, sel_pos (by (try simp only []); omega), sel_pos (by simp only [List.length_cons]; omega)]
  rfl

theorem G106_is (k : Nat) (hk : 20 < k) (v n : Int) (h0 : 0 ≤ v) (h1 : v ≤ 18446744073709551615) : G106 k (v, n, ()) = some ((putOK v.toNat n).1, ()) := by
  rw [G106_eq]
  have := G168_is k hk v.toNat n (by omega)
  rw [show ((v.toNat : Nat) : Int) = v by omega] at this
  (try simp only [])
  rw [this, ocall_some]

theorem typeK_at {kind : Int} (h1 : 1 ≤ kind) (h7 : kind ≤ 7) : KT.getD (kind - 1).toNat [] = typeK kind := by
  have : kind = 1 ∨ kind = 2 ∨ kind = 3 ∨ kind = 4 ∨ kind = 5 ∨ kind = 6 ∨ kind = 7 := by omega
  rcases this with rfl | rfl | rfl | rfl | rfl | rfl | rfl <;> rfl

theorem G39_is (k : Nat) (hk : 20 < k) (kind : Int) (pan : Txt) (amt stan : Int) (rrn code : Txt) (h1 : 1 ≤ kind) (h7 : kind ≤ 7) (ha : 0 ≤ amt ∧ amt ≤ 18446744073709551615) (hs : 0 ≤ stan ∧ stan ≤ 4294967295) :
    G39 k ((kind, pan, amt, stan, rrn, code, ()), ()) = some ((typeK kind, itemsK (kind, pan, amt, stan, rrn, code, ()), ()), ()) := by
  rw [G39_eq, G111_eq, ocall_some]
  (try simp only [])
  have e1 : IntKind.i64.wrap (kind - 1) = kind - 1 := wrap64 (by omega) (by omega)
  have e2 := typeK_at h1 h7
  unfold KT at e2
  have hl := putOK_le stan.toNat 6
  have ho : G112 k (stanT stan, ()) = some (originT stan, ()) := G112_is k (stanT stan) (by unfold stanT; omega)
  have hA : G106 k (amt, 12, ()) = some (amtT amt, ()) := G106_is k hk amt 12 ha.1 ha.2
  have hS : G106 k (stan, 6, ()) = some (stanT stan, ()) := G106_is k hk stan 6 hs.1 (by omega)
  rw [e1, e2]
  have w : IntKind.u64.wrap stan = stan := wrapu64 (by omega) (by omega)
  rw [sel_pos (by omega), sel_pos (by simp only [List.length_cons, List.length_nil, Int.ofNat_eq_natCast]; omega), sel_pos (by simp only [List.length_cons, List.length_nil]; omega)]
  simp only [w, G43_is, ocall_some, hA, hS]
  simp only [ho, ocall_some]
  unfold itemsK
  (try simp only [])
  by_cases ca : asksK kind = true
  · rw [ca, if_pos rfl]
    simp only [Bool.not_true, sel_false, sel_true]
    have hh := ca
    simp only [asksK, decide_eq_true_eq] at hh
    by_cases h5 : kind = 5
    · rw [sel_pos h5, if_pos (by omega)]; rfl
    rw [sel_neg h5]
    by_cases h6 : kind = 6
    · rw [sel_pos h6, if_pos (by omega)]; rfl
    rw [sel_neg h6, if_neg (by omega)]; rfl
  · have ca' : asksK kind = false := by simpa using ca
    have hh := ca
    simp only [asksK, decide_eq_true_eq] at hh
    rw [ca', if_neg (by simp)]
    simp only [Bool.not_false, sel_false, sel_true]
    rw [sel_neg (by omega), sel_neg (by omega)]

/-! reading -/
theorem G41_5_step (k n : Nat) (i : Nat) (hi : i < 7) (typ : Txt) (l : List Item) (a : Int) (b : Txt) (c d : Int) (e f : Txt) (kind : Int) (q : Txt × Int × Int × Txt × Txt × Unit) (t : Txt) (ht : KT.getD i [] = t) :
    G41_5 k (n + 1) ((i : Int), typ, l, a, b, c, d, e, f, kind, q) = G41_5 k n (((i + 1 : Nat) : Int), typ, l, a, b, c, d, e, f, (if t = typ then ((i + 1 : Nat) : Int) else kind), q) := by
  rw [G41_5_eq]
  (try simp only [])
  rw [sel_pos (by omega), G111_eq, ocall_some]
  simp only [Int.toNat_natCast]
  unfold KT at ht
  rw [sel_pos (by omega), sel_pos (by simp only [List.length_cons, List.length_nil, Int.ofNat_eq_natCast]; omega), sel_pos (by simp only [List.length_cons, List.length_nil]; omega), wrap64 (by omega) (by omega)]
  by_cases c : t = typ
  · rw [sel_pos (ht.trans c), if_pos c]; rfl
  · rw [sel_neg (fun e => c (ht.symm.trans e)), if_neg c]; rfl

theorem G41_5_last (k n : Nat) (typ : Txt) (l : List Item) (a : Int) (b : Txt) (c d : Int) (e f : Txt) (kind : Int) (q : Txt × Int × Int × Txt × Txt × Unit) :
    G41_5 k (n + 1) (((7 : Nat) : Int), typ, l, a, b, c, d, e, f, kind, q) = some (typ, l, a, b, c, d, e, f, kind, q) := by
  rw [G41_5_eq, sel_neg (by (try simp only []); omega)]

theorem kind_last (typ : Txt) : (if [48, 52, 51, 48] = typ then (7 : Int) else if [48, 52, 50, 49] = typ then 6 else if [48, 52, 50, 48] = typ then 5 else if [48, 52, 49, 48] = typ then 4 else if [48, 52, 48, 48] = typ then 3 else if [48, 49, 49, 48] = typ then 2 else if [48, 49, 48, 48] = typ then 1 else 0) = kindT typ := by
  unfold kindT
  by_cases h1 : typ = [48, 49, 48, 48]
  · subst h1; decide
  by_cases h2 : typ = [48, 49, 49, 48]
  · subst h2; decide
  by_cases h3 : typ = [48, 52, 48, 48]
  · subst h3; decide
  by_cases h4 : typ = [48, 52, 49, 48]
  · subst h4; decide
  by_cases h5 : typ = [48, 52, 50, 48]
  · subst h5; decide
  by_cases h6 : typ = [48, 52, 50, 49]
  · subst h6; decide
  by_cases h7 : typ = [48, 52, 51, 48]
  · subst h7; decide
  rw [if_neg (fun e => h7 e.symm), if_neg (fun e => h6 e.symm), if_neg (fun e => h5 e.symm), if_neg (fun e => h4 e.symm), if_neg (fun e => h3 e.symm), if_neg (fun e => h2 e.symm), if_neg (fun e => h1 e.symm),
    if_neg h1, if_neg h2, if_neg h3, if_neg h4, if_neg h5, if_neg h6, if_neg h7]

theorem G41_5_is (k : Nat) (hk : 20 < k) (typ : Txt) (l : List Item) (a : Int) (b : Txt) (c d : Int) (e f : Txt) (q : Txt × Int × Int × Txt × Txt × Unit) :
    G41_5 k k (0, typ, l, a, b, c, d, e, f, 0, q) = some (typ, l, a, b, c, d, e, f, kindT typ, q) := by
  obtain ⟨m, rfl⟩ : ∃ m, k = m + 8 := ⟨k - 8, by omega⟩
  rw [show ((0 : Int), typ, l, a, b, c, d, e, f, (0 : Int), q) = (((0 : Nat) : Int), typ, l, a, b, c, d, e, f, (0 : Int), q) from rfl,
    G41_5_step (m + 8) (m + 7) 0 (by omega) typ l a b c d e f _ q [48, 49, 48, 48] rfl, G41_5_step (m + 8) (m + 6) 1 (by omega) typ l a b c d e f _ q [48, 49, 49, 48] rfl,
    G41_5_step (m + 8) (m + 5) 2 (by omega) typ l a b c d e f _ q [48, 52, 48, 48] rfl, G41_5_step (m + 8) (m + 4) 3 (by omega) typ l a b c d e f _ q [48, 52, 49, 48] rfl,
    G41_5_step (m + 8) (m + 3) 4 (by omega) typ l a b c d e f _ q [48, 52, 50, 48] rfl, G41_5_step (m + 8) (m + 2) 5 (by omega) typ l a b c d e f _ q [48, 52, 50, 49] rfl,
    G41_5_step (m + 8) (m + 1) 6 (by omega) typ l a b c d e f _ q [48, 52, 51, 48] rfl, G41_5_last (m + 8) m]
  have := kind_last typ
  simp only [Nat.zero_add, Nat.reduceAdd] at *
  rw [← this]
  rfl

def upd (q : Txt × Int × Int × Txt × Txt × Unit) (x : Item) : Txt × Int × Int × Txt × Txt × Unit :=
  if x.1 = 2 then (x.2.1, q.2) else if x.1 = 4 then (q.1, (((getOK x.2.1).1 : Nat) : Int), q.2.2) else if x.1 = 11 then (q.1, q.2.1, IntKind.u32.wrap (((getOK x.2.1).1 : Nat) : Int), q.2.2.2)
  else if x.1 = 37 then (q.1, q.2.1, q.2.2.1, x.2.1, q.2.2.2.2) else if x.1 = 39 then (q.1, q.2.1, q.2.2.1, q.2.2.2.1, x.2.1, ()) else q

theorem G41_13_is (k : Nat) (hk : 20 < k) (M : List Int) (l : List Item) (hM : M.length = l.length) (hl : l.length ≤ 1000) (hx : ∀ x ∈ l, x.2.1.length ≤ 1200) (typ : Txt) (a : Int) (b : Txt) (c d : Int) (e f : Txt) (kind : Int) :
    ∀ (j i : Nat) (q : Txt × Int × Int × Txt × Txt × Unit), i + j = l.length → ∀ n, j < n →
    G41_13 k n (M, (i : Int), typ, l, a, b, c, d, e, f, kind, q) = some (sel (decide ((l.drop i).map (·.1) = M.drop i)) (.inl (M, typ, l, a, b, c, d, e, f, kind, (l.drop i).foldl upd q)) (.inr (3, 0, [], 0, 0, [], [], ()))) := by
  intro j
  induction j with
  | zero =>
    intro i q hij n hn
    obtain ⟨n, rfl⟩ : ∃ m, n = m + 1 := ⟨n - 1, by omega⟩
    rw [G41_13_eq, sel_neg (by simp only [ofNat_len]; omega), List.drop_eq_nil_of_le (by omega), List.drop_eq_nil_of_le (by omega)]
    rfl
  | succ j ih =>
    intro i q hij n hn
    obtain ⟨n, rfl⟩ : ∃ m, n = m + 1 := ⟨n - 1, by omega⟩
    have hlt : i < l.length := by omega
    have hlt' : i < M.length := by omega
    rw [G41_13_eq]
    simp only [ofNat_len, Int.toNat_natCast, getD_of hlt, getD_of hlt']
    rw [sel_pos (by omega), sel_pos (by omega), sel_pos (by omega), sel_pos (by omega), sel_pos (by omega), sel_pos hlt', drop_at hlt, drop_at hlt']
    simp only [List.map_cons, List.cons.injEq]
    have hxl := hx l[i] (List.getElem_mem _)
    have step := fun q' => ih (i + 1) q' (by omega) n (by omega)
    simp only [Int.natCast_add, Int.natCast_one] at step
    by_cases ce : l[i].1 = M[i]
    case neg =>
      rw [decide_eq_false ce, Bool.not_false, sel_true, decide_eq_false (fun h => ce h.1)]; rfl
    rw [decide_eq_true ce, Bool.not_true, sel_false, G120_is k l[i].2.1 (by rw [maxLen_eq]; omega) hk, ocall_some, wrap64 (by omega) (by omega)]
    have ee : decide (l[i].1 = M[i] ∧ (l.drop (i + 1)).map (·.1) = M.drop (i + 1)) = decide ((l.drop (i + 1)).map (·.1) = M.drop (i + 1)) := decide_eq_decide.2 ⟨fun h => h.2, fun h => ⟨ce, h⟩⟩
    rw [ee, List.foldl_cons]
    by_cases c2 : l[i].1 = 2
    · rw [sel_pos c2]
      have : upd q l[i] = (l[i].2.1, q.2) := by unfold upd; rw [if_pos c2]
      rw [this]; exact step _
    rw [sel_neg c2]
    by_cases c4 : l[i].1 = 4
    · rw [sel_pos c4]
      have : upd q l[i] = (q.1, (((getOK l[i].2.1).1 : Nat) : Int), q.2.2) := by unfold upd; rw [if_neg c2, if_pos c4]
      rw [this]; exact step _
    rw [sel_neg c4]
    by_cases c11 : l[i].1 = 11
    · rw [sel_pos c11]
      have : upd q l[i] = (q.1, q.2.1, IntKind.u32.wrap (((getOK l[i].2.1).1 : Nat) : Int), q.2.2.2) := by unfold upd; rw [if_neg c2, if_neg c4, if_pos c11]
      rw [this]; exact step _
    rw [sel_neg c11]
    by_cases c37 : l[i].1 = 37
    · rw [sel_pos c37]
      have : upd q l[i] = (q.1, q.2.1, q.2.2.1, l[i].2.1, q.2.2.2.2) := by unfold upd; rw [if_neg c2, if_neg c4, if_neg c11, if_pos c37]
      rw [this]; exact step _
    rw [sel_neg c37]
    by_cases c39 : l[i].1 = 39
    · rw [sel_pos c39]
      have : upd q l[i] = (q.1, q.2.1, q.2.2.1, q.2.2.2.1, l[i].2.1, ()) := by unfold upd; rw [if_neg c2, if_neg c4, if_neg c11, if_neg c37, if_pos c39]
      rw [this]; exact step _
    rw [sel_neg c39]
    have : upd q l[i] = q := by unfold upd; rw [if_neg c2, if_neg c4, if_neg c11, if_neg c37, if_neg c39]
    rw [this]; exact step _

theorem mustK_len (kind : Int) : (mustK kind).length ≤ 5 := by
  unfold mustK; split
  · simp
  · split <;> simp

theorem kindT_known {s : Txt} (h : knownT s = true) : 1 ≤ kindT s ∧ kindT s ≤ 7 ∧ typeK (kindT s) = s := by
  unfold knownT KT at h
  simp only [List.contains_cons, List.contains_nil, Bool.or_false, Bool.or_eq_true, beq_iff_eq] at h
  rcases h with rfl | rfl | rfl | rfl | rfl | rfl | rfl <;> decide

theorem G41_is (k : Nat) (hk : 2000 < k) (typ : Txt) (l : List Item) (hl : l.length ≤ 1000) (hx : ∀ x ∈ l, x.2.1.length ≤ 1200) :
    G41 k ((typ, l, ()), ()) = some ((readD (typ, l, ())).1, (readD (typ, l, ())).2, ()) := by
  rw [G41_eq]
  (try simp only [])
  rw [G118_is k (by omega) typ l (by omega) (by omega) (fun x h => ⟨by have := hx x h; rw [maxLen_eq]; omega, by have := hx x h; omega⟩), ocall_some]
  unfold readD
  (try simp only [])
  by_cases hr : msgRight (typ, l, ()) = true
  case neg => rw [if_neg hr]; rw [show msgRight (typ, l, ()) = false by simpa using hr]; rfl
  rw [if_pos hr, hr]
  obtain ⟨r1, r2⟩ := items_right hr
  (try simp only [] at r1 r2)
  simp only [Bool.not_true, sel_false]
  have h5 := G41_5_is k (by omega) typ l 0 [] 0 0 [] [] ([], 0, 0, [], [], ())
  rw [h5, ocall_some]
  (try simp only [])
  rw [G119_is, ocall_some]
  simp only [ofNat_len]
  by_cases cl : (mustK (kindT typ)).length = l.length
  case neg =>
    rw [decide_eq_false (show ¬ ((mustK (kindT typ)).length : Int) = (l.length : Int) by omega), Bool.not_false, sel_true, if_neg (fun e => cl (by have := congrArg List.length e; simpa using this.symm))]
    rfl
  rw [decide_eq_true (show ((mustK (kindT typ)).length : Int) = (l.length : Int) by omega), Bool.not_true, sel_false]
  have h13 := G41_13_is k (by omega) (mustK (kindT typ)) l cl hl hx typ 0 [] 0 0 [] [] (kindT typ) l.length 0 ([], 0, 0, [], [], ()) (by omega) k (by omega)
  simp only [List.drop_zero, Int.natCast_zero] at h13
  rw [h13, ocall_some]
  by_cases cm : l.map (·.1) = mustK (kindT typ)
  case neg => rw [decide_eq_false cm, if_neg cm]; rfl
  rw [decide_eq_true cm, if_pos cm]
  simp only [sel_true, esel_inl]
  unfold deM
  (try simp only [])
  have hkn := kindT_known r2
  generalize hK : kindT typ = kd at *
  unfold mustK at cm
  by_cases c56 : kd = 5 ∨ kd = 6
  · rw [if_pos c56] at cm
    obtain ⟨a, b, c, d, e, rfl⟩ := items5 cm
    have ca : asksK kd = true := (kind_five.2 c56).1
    have g2 : (getM 2 [((2 : Int), a, ()), (4, b, ()), (11, c, ()), (37, d, ()), (90, e, ())]).1 = a := by simp [getM]
    have g4 : numM 4 [((2 : Int), a, ()), (4, b, ()), (11, c, ()), (37, d, ()), (90, e, ())] = (((getOK b).1 : Nat) : Int) := by simp [numM, getM]
    have g11 : (getM 11 [((2 : Int), a, ()), (4, b, ()), (11, c, ()), (37, d, ()), (90, e, ())]).1 = c := by simp [getM]
    have g11' : numM 11 [((2 : Int), a, ()), (4, b, ()), (11, c, ()), (37, d, ()), (90, e, ())] = (((getOK c).1 : Nat) : Int) := by simp [numM, getM]
    have g37 : (getM 37 [((2 : Int), a, ()), (4, b, ()), (11, c, ()), (37, d, ()), (90, e, ())]).1 = d := by simp [getM]
    have g39 : (getM 39 [((2 : Int), a, ()), (4, b, ()), (11, c, ()), (37, d, ()), (90, e, ())]).1 = [] := by simp [getM]
    have g90 : (getM 90 [((2 : Int), a, ()), (4, b, ()), (11, c, ()), (37, d, ()), (90, e, ())]).1 = e := by simp [getM]
    have fo : [((2 : Int), a, ()), (4, b, ()), (11, c, ()), (37, d, ()), (90, e, ())].foldl upd ([], 0, 0, [], [], ()) = (a, (((getOK b).1 : Nat) : Int), IntKind.u32.wrap (((getOK c).1 : Nat) : Int), d, [], ()) := by simp [upd]
    have la : a.length ≤ 1200 := hx (2, a, ()) (by simp)
    have lc : c.length ≤ 1200 := hx (11, c, ()) (by simp)
    rw [g2, g4, g11, g11', g37, g39, g90, fo]
    (try simp only [])
    have hm : mustK kd = [2, 4, 11, 37, 90] := by unfold mustK; rw [if_pos c56]
    rw [hm]
    have q1 : ∀ (x0 x1 x2 x3 x4 : Item), (([x0, x1, x2, x3, x4] : List Item).getD (Int.toNat 2) (OfNat.ofNat 0, [], ())) = x2 := fun _ _ _ _ _ => rfl
    have q2 : ∀ (x0 x1 x2 x3 x4 : Item), (([x0, x1, x2, x3, x4] : List Item).getD (Int.toNat 4) (OfNat.ofNat 0, [], ())) = x4 := fun _ _ _ _ _ => rfl
    simp only [G43_is, ocall_some, ca, sel_true, G110_is k a (by omega) (by omega), q1, q2, G112_is k c (by omega)]
    by_cases cf : isFine a = true
    case neg =>
      have cf' : isFine a = false := by simpa using cf
      rw [cf', if_pos ⟨by trivial, by trivial⟩]; rfl
    rw [cf, if_neg (by simp)]
    simp only [Bool.not_true, sel_false]
    rw [sel_pos (by simp only [List.length_cons, List.length_nil]; rfl), sel_pos (by simp only [List.length_cons, List.length_nil]; decide), sel_pos (by simp only [List.length_cons, List.length_nil]; decide)]
    by_cases co : e = [48, 49, 48, 48] ++ c ++ zeros
    · rw [sel_not, sel_pos co, if_neg (fun h => h.2 co)]
    · rw [sel_not, sel_neg co, if_pos ⟨c56, co⟩]; rfl
  rw [if_neg c56] at cm
  have hm5 : ((mustK kd).length : Int) ≠ 5 := by
    unfold mustK; rw [if_neg c56]; split <;> simp
  have hm' : ¬ ((mustK kd).length : Int) = 5 := hm5
  by_cases ca : asksK kd = true
  · rw [if_pos ca] at cm
    obtain ⟨a, b, c, d, rfl⟩ := items4 cm
    have g2 : (getM 2 [((2 : Int), a, ()), (4, b, ()), (11, c, ()), (37, d, ())]).1 = a := by simp [getM]
    have g4 : numM 4 [((2 : Int), a, ()), (4, b, ()), (11, c, ()), (37, d, ())] = (((getOK b).1 : Nat) : Int) := by simp [numM, getM]
    have g11' : numM 11 [((2 : Int), a, ()), (4, b, ()), (11, c, ()), (37, d, ())] = (((getOK c).1 : Nat) : Int) := by simp [numM, getM]
    have g37 : (getM 37 [((2 : Int), a, ()), (4, b, ()), (11, c, ()), (37, d, ())]).1 = d := by simp [getM]
    have g39 : (getM 39 [((2 : Int), a, ()), (4, b, ()), (11, c, ()), (37, d, ())]).1 = [] := by simp [getM]
    have fo : [((2 : Int), a, ()), (4, b, ()), (11, c, ()), (37, d, ())].foldl upd ([], 0, 0, [], [], ()) = (a, (((getOK b).1 : Nat) : Int), IntKind.u32.wrap (((getOK c).1 : Nat) : Int), d, [], ()) := by simp [upd]
    have la : a.length ≤ 1200 := hx (2, a, ()) (by simp)
    rw [g2, g4, g11', g37, g39, fo]
    (try simp only [])
    simp only [G43_is, ocall_some, ca, sel_true, G110_is k a (by omega) (by omega)]
    by_cases cf : isFine a = true
    case neg =>
      have cf' : isFine a = false := by simpa using cf
      rw [cf', if_pos ⟨by trivial, by trivial⟩]; rfl
    rw [cf, if_neg (by simp), if_neg (fun h => c56 h.1)]
    simp only [Bool.not_true, sel_false]
    rw [sel_neg hm']
  · rw [if_neg ca] at cm
    have ca' : asksK kd = false := by simpa using ca
    obtain ⟨a, b, c, rfl⟩ := items3 cm
    have g2 : (getM 2 [((11 : Int), a, ()), (37, b, ()), (39, c, ())]).1 = [] := by simp [getM]
    have g4 : numM 4 [((11 : Int), a, ()), (37, b, ()), (39, c, ())] = 0 := by simp [numM, getM, getOK]
    have g11' : numM 11 [((11 : Int), a, ()), (37, b, ()), (39, c, ())] = (((getOK a).1 : Nat) : Int) := by simp [numM, getM]
    have g37 : (getM 37 [((11 : Int), a, ()), (37, b, ()), (39, c, ())]).1 = b := by simp [getM]
    have g39 : (getM 39 [((11 : Int), a, ()), (37, b, ()), (39, c, ())]).1 = c := by simp [getM]
    have fo : [((11 : Int), a, ()), (37, b, ()), (39, c, ())].foldl upd ([], 0, 0, [], [], ()) = ([], 0, IntKind.u32.wrap (((getOK a).1 : Nat) : Int), b, c, ()) := by simp [upd]
    rw [g2, g4, g11', g37, g39, fo]
    (try simp only [])
    simp only [G43_is, ocall_some, ca', sel_false]
    rw [if_neg (fun h => by cases h.1), if_neg (fun h => c56 h.1), sel_neg hm']

/-! writing, sameness, size -/
theorem G37_is (k L : Nat) (hL : L ≤ 1000000) (hk : L + 100 < k) (d : Deal) (hl : lens L d) (hg : goodD d) : G37 k (d, ()) = some (if dealOK d = true then ((typeK d.1, itemsK d, ()), 0, ()) else (([], [], ()), 1, ())) := by
  have hR := G33_is k L hL hk d hl hg
  obtain ⟨kind, pan, amt, stan, rrn, code, ⟨⟩⟩ := d
  obtain ⟨ha, hs⟩ := hg
  (try simp only [] at ha hs)
  rw [G37_eq]
  (try simp only [])
  rw [hR, ocall_some, G108_is, ocall_some, G109_is k (by omega) kind pan amt stan rrn code ha hs, ocall_some]
  cases dealOK (kind, pan, amt, stan, rrn, code, ()) <;> rfl

set_option synthInstance.maxSize 2000 in
set_option synthInstance.maxHeartbeats 200000 in
instance decD : DecidableEq Deal := fun a b => inferInstanceAs (Decidable ((a : Int × Txt × Int × Int × Txt × Txt × Unit) = b))

theorem sameD (a b : Deal) : (sameI a.1 b.1 && (sameS a.2.1 b.2.1 && (sameI a.2.2.1 b.2.2.1 && (sameI a.2.2.2.1 b.2.2.2.1 && (sameS a.2.2.2.2.1 b.2.2.2.2.1 && (sameS a.2.2.2.2.2.1 b.2.2.2.2.2.1 && true)))))) = decide (a = b) := by
  obtain ⟨a1, a2, a3, a4, a5, a6, ⟨⟩⟩ := a
  obtain ⟨b1, b2, b3, b4, b5, b6, ⟨⟩⟩ := b
  simp only [sameI, sameS]
  by_cases h : (a1, a2, a3, a4, a5, a6, ()) = (b1, b2, b3, b4, b5, b6, ())
  · rw [decide_eq_true h]
    simp only [Prod.mk.injEq] at h
    obtain ⟨h1, h2, h3, h4, h5, h6, _⟩ := h
    simp [h1, h2, h3, h4, h5, h6]
  · rw [decide_eq_false h]
    simp only [Prod.mk.injEq, and_true] at h
    by_cases h1 : a1 = b1 <;> by_cases h2 : a2 = b2 <;> by_cases h3 : a3 = b3 <;> by_cases h4 : a4 = b4 <;> by_cases h5 : a5 = b5 <;> by_cases h6 : a6 = b6 <;> simp [h1, h2, h3, h4, h5, h6] <;> exact h ⟨h1, h2, h3, h4, h5, h6⟩

theorem sameItem (x y : Item) : (sameI x.1 y.1 && (sameS x.2.1 y.2.1 && true)) = decide (x = y) := by
  obtain ⟨x1, x2, ⟨⟩⟩ := x
  obtain ⟨y1, y2, ⟨⟩⟩ := y
  simp only [sameI, sameS]
  by_cases h1 : x1 = y1 <;> by_cases h2 : x2 = y2 <;> simp [h1, h2]

theorem G38_4_is (k : Nat) (s t : Txt) (a b : List Item) (hab : a.length = b.length) (hl : a.length ≤ 1000000000) : ∀ (j i : Nat), i + j = a.length → ∀ n, j < n →
    G38_4 k n ((i : Int), s, a, t, b, ()) = some (sel (decide (a.drop i = b.drop i)) (.inl ()) (.inr (false, ()))) := by
  intro j
  induction j with
  | zero =>
    intro i hij n hn
    obtain ⟨n, rfl⟩ : ∃ m, n = m + 1 := ⟨n - 1, by omega⟩
    rw [G38_4_eq, sel_neg (by simp only [ofNat_len]; omega), List.drop_eq_nil_of_le (by omega), List.drop_eq_nil_of_le (by omega)]
    rfl
  | succ j ih =>
    intro i hij n hn
    obtain ⟨n, rfl⟩ : ∃ m, n = m + 1 := ⟨n - 1, by omega⟩
    have hlt : i < a.length := by omega
    have hlt' : i < b.length := by omega
    rw [G38_4_eq]
    simp only [ofNat_len, Int.toNat_natCast, getD_of hlt, getD_of hlt']
    rw [sel_pos (by omega), sel_pos (by omega), sel_pos (by omega), sel_pos (by omega), sel_pos (by omega), sameItem, drop_at hlt, drop_at hlt', wrap64 (by omega) (by omega)]
    simp only [List.cons.injEq]
    by_cases c : a[i] = b[i]
    · rw [decide_eq_true c, Bool.not_true, sel_false]
      have := ih (i + 1) (by omega) n (by omega)
      simp only [Int.natCast_add, Int.natCast_one] at this
      rw [this]
      have e : decide (a[i] = b[i] ∧ a.drop (i + 1) = b.drop (i + 1)) = decide (a.drop (i + 1) = b.drop (i + 1)) := decide_eq_decide.2 ⟨fun h => h.2, fun h => ⟨c, h⟩⟩
      rw [e]
    · rw [decide_eq_false c, Bool.not_false, sel_true, decide_eq_false (fun h => c h.1)]; rfl

theorem G38_is (k : Nat) (s t : Txt) (a b : List Item) (hl : a.length ≤ 1000000000) (hk : a.length < k) : G38 k ((s, a, ()), (t, b, ()), ()) = some (decide (((s, a, ()) : Msg) = (t, b, ())), ()) := by
  rw [G38_eq]
  simp only [ofNat_len]
  by_cases h1 : s = t
  case neg => rw [decide_eq_false h1, Bool.not_false, sel_true, decide_eq_false (fun e => h1 (congrArg Prod.fst e))]
  rw [decide_eq_true h1, Bool.not_true, sel_false]
  by_cases h2 : a.length = b.length
  case neg =>
    rw [decide_eq_false (show ¬ (a.length : Int) = (b.length : Int) by omega), Bool.not_false, sel_true, decide_eq_false (fun e => h2 (by have := congrArg (fun m : Msg => m.2.1.length) e; simpa using this))]
  rw [decide_eq_true (show (a.length : Int) = (b.length : Int) by omega), Bool.not_true, sel_false]
  have := G38_4_is k s t a b h2 hl a.length 0 (by omega) k hk
  simp only [List.drop_zero, Int.natCast_zero] at this
  rw [this, ocall_some]
  by_cases c : a = b
  · rw [decide_eq_true c, decide_eq_true (show ((s, a, ()) : Msg) = (t, b, ()) by rw [h1, c])]; rfl
  · rw [decide_eq_false c, decide_eq_false (fun e => c (congrArg (fun m : Msg => m.2.1) e))]; rfl

def shortM (m : Msg) : Prop := m.1.length ≤ 300 ∧ m.2.1.length ≤ 200 ∧ ∀ x ∈ m.2.1, x.2.1.length ≤ 1200

/-- a message that passes as short is -/
theorem G35_2_is (k : Nat) (s : Txt) (l : List Item) : ∀ (j i : Nat), i + j = min l.length 200 → ∀ n, j < n →
    G35_2 k n ((i : Int), s, l, ()) = some (sel (((l.take 200).drop i).all fun x => decide (x.2.1.length ≤ 1200)) (.inl (s, l, ())) (.inr (false, ()))) := by
  intro j
  induction j with
  | zero =>
    intro i hij n hn
    obtain ⟨n, rfl⟩ : ∃ m, n = m + 1 := ⟨n - 1, by omega⟩
    rw [G35_2_eq, List.drop_eq_nil_of_le (by rw [List.length_take]; omega)]
    simp only [ofNat_len]
    by_cases c : i < l.length
    · rw [sel_pos (by omega), sel_neg (by omega)]; rfl
    · rw [sel_neg (by omega)]; rfl
  | succ j ih =>
    intro i hij n hn
    obtain ⟨n, rfl⟩ : ∃ m, n = m + 1 := ⟨n - 1, by omega⟩
    have hlt : i < l.length := by omega
    have hlt' : i < (l.take 200).length := by rw [List.length_take]; omega
    rw [G35_2_eq]
    simp only [ofNat_len, Int.toNat_natCast, getD_of hlt]
    rw [sel_pos (by omega), sel_pos (by omega), sel_pos (by omega), sel_pos (by omega), drop_at hlt', wrap64 (by omega) (by omega)]
    simp only [List.all_cons, List.getElem_take]
    by_cases c : l[i].2.1.length ≤ 1200
    · rw [sel_neg (by omega), decide_eq_true c, Bool.true_and]
      exact ih (i + 1) (by omega) n (by omega)
    · rw [sel_pos (by omega), decide_eq_false c]; rfl

theorem G35_is (k : Nat) (hk : 300 < k) (s : Txt) (l : List Item) : ∃ b, G35 k ((s, l, ()), ()) = some (b, ()) ∧ (b = true → shortM (s, l, ())) := by
  rw [G35_eq]
  have := G35_2_is k s l (min l.length 200) 0 (by omega) k (by omega)
  simp only [List.drop_zero, Int.natCast_zero] at this
  (try simp only [])
  rw [this, ocall_some]
  cases h : (l.take 200).all fun x => decide (x.2.1.length ≤ 1200) with
  | false => exact ⟨false, rfl, fun e => by cases e⟩
  | true =>
    simp only [sel_true, esel_inl, ofNat_len]
    by_cases c1 : s.length ≤ 300
    case neg => rw [sel_neg (by omega)]; exact ⟨false, rfl, fun e => by cases e⟩
    rw [sel_pos (by omega)]
    refine ⟨_, rfl, fun e => ?_⟩
    have c2 : l.length ≤ 200 := by have := of_decide_eq_true e; omega
    refine ⟨c1, c2, fun x hx => ?_⟩
    rw [List.take_of_length_le c2] at h
    exact of_decide_eq_true (List.all_eq_true.1 h x hx)
end Go.Proofs.YtjgnpmdbkgeakaaDoor.G
