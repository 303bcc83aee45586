/- The statement PostBack, out of what its function answers. No condition. -/
import Derived.Test.YtjgnpmdbkgeakaaDoorQPostBack3
import Derived.Test.YtjgnpmdbkgeakaaDoorRows
import Derived.JoinedOf
import Derived.LaidMore
import Derived.FnData
import Derived.ChangeBears2
import Derived.Stop.Joined
import Derived.Carry
import Derived.Test.YtjgnpmdbkgeakaaDoorCards
import Derived.Test.YtjgnpmdbkgeakaaDoorTie
import Derived.SevenTiedAt
section
set_option linter.unusedVariables false
set_option linter.unusedSimpArgs false
set_option maxRecDepth 100000
namespace Go.Proofs.YtjgnpmdbkgeakaaDoor.G
open Go Go.Proofs.YtjgnpmdbkgeakaaDoor Th
theorem getOK_lt (s : Txt) : (getOK s).1 < 10 ^ 19 := by
  unfold getOK
  split
  · simp
  split
  · simp
  split
  · rename_i h1 h2 h3
    have := val_lt s 0 (all_of_isDig h3)
    have := pow_le19 (i := s.length) (by omega)
    simp only [Nat.zero_add, Nat.one_mul] at *
    omega
  · simp
theorem numM_good (n : Int) (l : List Item) : 0 ≤ numM n l ∧ numM n l ≤ 18446744073709551615 := by
  have := getOK_lt (getM n l).1
  unfold numM
  constructor
  · omega
  · have e : (10 : Nat) ^ 19 = 10000000000000000000 := rfl
    omega
def mustK (kind : Int) : List Int := if kind = 5 ∨ kind = 6 then [2, 4, 11, 37, 90] else if asksK kind = true then [2, 4, 11, 37] else [11, 37, 39]
theorem items_must (d : Deal) : (itemsK d).map (·.1) = mustK d.1 := by
  unfold itemsK mustK
  by_cases h : asksK d.1 = true
  · rw [if_pos h]
    have hh := h
    simp only [asksK, decide_eq_true_eq] at hh
    by_cases c : 5 ≤ d.1
    · rw [if_pos c, if_pos (by omega)]; rfl
    · rw [if_neg c, if_neg (by omega), if_pos h]; rfl
  · rw [if_neg h]
    have hh := h
    simp only [asksK, decide_eq_true_eq] at hh
    rw [if_neg (by omega), if_neg h]; rfl
def fitsM (l : List Item) (d : Deal) : Bool := decide ((itemsK d).map (·.1) = l.map (·.1))
theorem G116_5_is (k : Nat) (a b : List Item) (typ : Txt) (hab : a.length = b.length) (hl : a.length ≤ 1000000000) : ∀ (j i : Nat), i + j = a.length → ∀ m, j < m →
    G116_5 k m (a, (a.length : Int), (i : Int), typ, b, ()) = some (sel (decide ((a.drop i).map (·.1) = (b.drop i).map (·.1))) (.inl ()) (.inr (false, ()))) := by
  intro j
  induction j with
  | zero =>
    intro i hij m hm
    obtain ⟨m, rfl⟩ : ∃ q, m = q + 1 := ⟨m - 1, by omega⟩
    rw [G116_5_eq, sel_neg (by (try simp only []); omega), List.drop_eq_nil_of_le (by omega), List.drop_eq_nil_of_le (by omega)]
    rfl
  | succ j ih =>
    intro i hij m hm
    obtain ⟨m, rfl⟩ : ∃ q, m = q + 1 := ⟨m - 1, by omega⟩
    have hlt : i < a.length := by omega
    have hlt' : i < b.length := by omega
    rw [G116_5_eq]
    simp only [ofNat_len, Int.toNat_natCast, getD_of hlt, getD_of hlt']
    rw [sel_pos (by omega), sel_pos (by omega), sel_pos (by omega), sel_pos hlt, sel_pos (by omega), sel_pos (by omega), drop_at hlt, drop_at hlt']
    simp only [List.map_cons, List.cons.injEq]
    by_cases c : b[i].1 = a[i].1
    · rw [decide_eq_true c, Bool.not_true, sel_false, wrap64 (by omega) (by omega)]
      have := ih (i + 1) (by omega) m (by omega)
      simp only [Int.natCast_add, Int.natCast_one] at this
      rw [this]
      have e : decide (a[i].1 = b[i].1 ∧ (a.drop (i + 1)).map (·.1) = (b.drop (i + 1)).map (·.1)) = decide ((a.drop (i + 1)).map (·.1) = (b.drop (i + 1)).map (·.1)) := decide_eq_decide.2 ⟨fun h => h.2, fun h => ⟨c.symm, h⟩⟩
      rw [e]
    · rw [decide_eq_false c, Bool.not_false, sel_true, decide_eq_false (fun h => c h.1.symm)]
      rfl
theorem G116_is (k : Nat) (hk : 20 < k) (typ : Txt) (l : List Item) (kind : Int) (pan : Txt) (amt stan : Int) (rrn code : Txt) (ha : 0 ≤ amt ∧ amt ≤ 18446744073709551615) (hs : 0 ≤ stan ∧ stan ≤ 4294967295) :
    G116 k ((typ, l, ()), (kind, pan, amt, stan, rrn, code, ()), ()) = some (fitsM l (kind, pan, amt, stan, rrn, code, ()), ()) := by
  rw [G116_eq]
  (try simp only [])
  rw [G109_is k hk kind pan amt stan rrn code ha hs, ocall_some]
  have h5 := itemsK_len (kind, pan, amt, stan, rrn, code, ())
  unfold fitsM
  simp only [ofNat_len]
  by_cases c : (itemsK (kind, pan, amt, stan, rrn, code, ())).length = l.length
  · rw [decide_eq_true (show ((itemsK (kind, pan, amt, stan, rrn, code, ())).length : Int) = (l.length : Int) by omega), Bool.not_true, sel_false]
    have := G116_5_is k (itemsK (kind, pan, amt, stan, rrn, code, ())) l typ c (by omega) (itemsK (kind, pan, amt, stan, rrn, code, ())).length 0 (by omega) k (by omega)
    simp only [List.drop_zero, Int.natCast_zero] at this
    rw [this, ocall_some]
    cases decide ((itemsK (kind, pan, amt, stan, rrn, code, ())).map (·.1) = l.map (·.1)) <;> rfl
  · rw [decide_eq_false (show ¬ ((itemsK (kind, pan, amt, stan, rrn, code, ())).length : Int) = (l.length : Int) by omega), Bool.not_false, sel_true, decide_eq_false (fun h => c (by have := congrArg List.length h; simpa using this))]
def zeroD : Deal := (0, [], 0, 0, [], [], ())
def deM (m : Msg) : Deal := (kindT m.1, (getM 2 m.2.1).1, numM 4 m.2.1, IntKind.u32.wrap (numM 11 m.2.1), (getM 37 m.2.1).1, (getM 39 m.2.1).1, ())
def readD (m : Msg) : Deal × Int :=
  if msgRight m = true then
    if m.2.1.map (·.1) = mustK (kindT m.1) then
      if asksK (kindT m.1) = true ∧ isFine (getM 2 m.2.1).1 = false then (zeroD, 3)
      else if (kindT m.1 = 5 ∨ kindT m.1 = 6) ∧ (getM 90 m.2.1).1 ≠ [48, 49, 48, 48] ++ (getM 11 m.2.1).1 ++ zeros then (zeroD, 11)
      else (deM m, 0)
    else (zeroD, 3)
  else (zeroD, 1)
theorem wrap32_good (n : Int) : 0 ≤ IntKind.u32.wrap n ∧ IntKind.u32.wrap n ≤ 4294967295 := by
  have : IntKind.u32.wrap n = n % 4294967296 := rfl
  rw [this]; omega
theorem items3 {l : List Item} (h : l.map (·.1) = [11, 37, 39]) : ∃ a b c, l = [(11, a, ()), (37, b, ()), (39, c, ())] := by
  match l, h with
  | [(x, a, ⟨⟩), (y, b, ⟨⟩), (z, c, ⟨⟩)], h =>
    simp only [List.map_cons, List.map_nil, List.cons.injEq, and_true] at h
    obtain ⟨rfl, rfl, rfl⟩ := h
    exact ⟨a, b, c, rfl⟩
theorem items4 {l : List Item} (h : l.map (·.1) = [2, 4, 11, 37]) : ∃ a b c d, l = [(2, a, ()), (4, b, ()), (11, c, ()), (37, d, ())] := by
  match l, h with
  | [(x, a, ⟨⟩), (y, b, ⟨⟩), (z, c, ⟨⟩), (w, d, ⟨⟩)], h =>
    simp only [List.map_cons, List.map_nil, List.cons.injEq, and_true] at h
    obtain ⟨rfl, rfl, rfl, rfl⟩ := h
    exact ⟨a, b, c, d, rfl⟩
theorem items5 {l : List Item} (h : l.map (·.1) = [2, 4, 11, 37, 90]) : ∃ a b c d e, l = [(2, a, ()), (4, b, ()), (11, c, ()), (37, d, ()), (90, e, ())] := by
  match l, h with
  | [(x, a, ⟨⟩), (y, b, ⟨⟩), (z, c, ⟨⟩), (w, d, ⟨⟩), (v, e, ⟨⟩)], h =>
    simp only [List.map_cons, List.map_nil, List.cons.injEq, and_true] at h
    obtain ⟨rfl, rfl, rfl, rfl, rfl⟩ := h
    exact ⟨a, b, c, d, e, rfl⟩
theorem stan_back {s : Txt} (h : rightF 11 s = true) : 0 ≤ IntKind.u32.wrap (((getOK s).1 : Nat) : Int) ∧ IntKind.u32.wrap (((getOK s).1 : Nat) : Int) ≤ 999999 ∧ stanT (IntKind.u32.wrap (((getOK s).1 : Nat) : Int)) = s ∧ s.length = 6 := by
  rw [rf11, Bool.and_eq_true, decide_eq_true_eq] at h
  obtain ⟨hl, hd⟩ := h
  have ha := all_of_isDig hd
  obtain ⟨h1, h2⟩ := digs_val 6 s hl ha
  have e : getOK s = (val 0 s, 0) := by
    unfold getOK
    rw [if_neg (by omega), if_neg (by omega), if_pos hd]
  rw [e]
  (try simp only [])
  have h3 : val 0 s < 1000000 := h2
  rw [wrapu32 (by omega) (by omega)]
  refine ⟨by omega, by omega, ?_, hl⟩
  rw [stanT_of (by omega) (by omega), Int.toNat_natCast, h1]
theorem amt_back {s : Txt} (h : rightF 4 s = true) : (((getOK s).1 : Nat) : Int) < 1000000000000 ∧ amtT (((getOK s).1 : Nat) : Int) = s := by
  rw [rf4, Bool.and_eq_true, decide_eq_true_eq] at h
  obtain ⟨hl, hd⟩ := h
  have ha := all_of_isDig hd
  obtain ⟨h1, h2⟩ := digs_val 12 s hl ha
  have e : getOK s = (val 0 s, 0) := by
    unfold getOK
    rw [if_neg (by omega), if_neg (by omega), if_pos hd]
  rw [e]
  (try simp only [])
  have h3 : val 0 s < 1000000000000 := h2
  refine ⟨by omega, ?_⟩
  rw [amtT_of (by omega) (by omega), Int.toNat_natCast, h1]
theorem items_right {m : Msg} (h : msgRight m = true) : itemsOK 0 m.2.1 = true ∧ knownT m.1 = true := by
  unfold msgRight at h
  simp only [Bool.and_eq_true] at h
  exact ⟨h.1.1, h.1.2⟩
theorem kind_five {kind : Int} : (asksK kind = true ∧ 5 ≤ kind) ↔ (kind = 5 ∨ kind = 6) := by
  unfold asksK; simp only [decide_eq_true_eq]; omega
theorem rf37_in {l : List Item} {kind : Int} (hm : l.map (·.1) = mustK kind) (hr : itemsOK 0 l = true) : rightF 37 (getM 37 l).1 = true ∧ rightF 11 (getM 11 l).1 = true := by
  unfold mustK at hm
  split at hm
  · obtain ⟨a, b, c, d, e, rfl⟩ := items5 hm
    simp only [itemsOK, Bool.and_eq_true] at hr
    simp [getM]
    exact ⟨hr.2.2.2.1.2, hr.2.2.1.2⟩
  split at hm
  · obtain ⟨a, b, c, d, rfl⟩ := items4 hm
    simp only [itemsOK, Bool.and_eq_true] at hr
    simp [getM]
    exact ⟨hr.2.2.2.1.2, hr.2.2.1.2⟩
  · obtain ⟨a, b, c, rfl⟩ := items3 hm
    simp only [itemsOK, Bool.and_eq_true] at hr
    simp [getM]
    exact ⟨hr.2.1.2, hr.1.2⟩
theorem origin_of (stan : Int) (s : Txt) (h : stanT stan = s) : originT stan = [48, 49, 48, 48] ++ s ++ zeros := by unfold originT; rw [h]
theorem G40_is (k : Nat) (hk : 2000 < k) (typ : Txt) (l : List Item) (hl : l.length ≤ 1000) (hx : ∀ x ∈ l, x.2.1.length ≤ 1200) :
    G40 k ((typ, l, ()), ()) = some ((readD (typ, l, ())).1, (readD (typ, l, ())).2, ()) := by
  rw [G40_eq]
  (try simp only [])
  rw [G44_is k (by omega) typ l (by omega) (by omega) (fun x h => ⟨by have := hx x h; rw [maxLen_eq]; omega, by have := hx x h; omega⟩), ocall_some]
  unfold readD
  (try simp only [])
  by_cases hr : msgRight (typ, l, ()) = true
  case neg => rw [if_neg hr]; rw [show msgRight (typ, l, ()) = false by simpa using hr]; rfl
  rw [if_pos hr, hr]
  obtain ⟨r1, r2⟩ := items_right hr
  (try simp only [] at r1 r2)
  simp only [Bool.not_true, sel_false]
  have hg : ∀ n, G115 k ((typ, l, ()), n, ()) = some ((getM n l).1, (getM n l).2, ()) := fun n => G115_is k n typ l (by omega) (by omega)
  have hn : ∀ n, G114 k ((typ, l, ()), n, ()) = some (numM n l, ()) := fun n => G114_is k (by omega) n typ l (by omega) (by omega)
  have hd : deM (typ, l, ()) = (kindT typ, (getM 2 l).1, numM 4 l, IntKind.u32.wrap (numM 11 l), (getM 37 l).1, (getM 39 l).1, ()) := rfl
  have l2 := getM_len 2 1200 l hx
  have l37 := getM_len 37 1200 l hx
  have hi := G109_is k (by omega) (kindT typ) (getM 2 l).1 (numM 4 l) (IntKind.u32.wrap (numM 11 l)) (getM 37 l).1 (getM 39 l).1 (numM_good 4 l) (wrap32_good _)
  have hf := G116_is k (by omega) typ l (kindT typ) (getM 2 l).1 (numM 4 l) (IntKind.u32.wrap (numM 11 l)) (getM 37 l).1 (getM 39 l).1 (numM_good 4 l) (wrap32_good _)
  have hq := G107_is k (getM 2 l).1 (by omega) (by omega)
  have h37 := G117_is k (by omega) 37 (getM 37 l).1 (by rw [maxLen_eq]; omega) (by omega)
  simp only [G113_is k (by omega), hn, hg, ocall_some, hf, G42_is, hq, hi, h37]
  unfold fitsM
  rw [items_must]
  (try simp only [])
  by_cases cm : l.map (·.1) = mustK (kindT typ)
  case neg =>
    rw [if_neg cm, decide_eq_false (fun e => cm e.symm)]; rfl
  rw [if_pos cm, decide_eq_true cm.symm]
  obtain ⟨q37, q11⟩ := rf37_in cm r1
  obtain ⟨s0, s1, s2, s3⟩ := stan_back q11
  rw [q37, hd]
  simp only [Bool.not_true, sel_false]
  by_cases ca : asksK (kindT typ) = true
  case neg =>
    have ca' : asksK (kindT typ) = false := by simpa using ca
    rw [ca']
    rw [if_neg (fun e => by cases e.1), if_neg (fun e => ca (kind_five.2 e.1).1)]
    simp only [sel_false]
    by_cases c5 : 5 ≤ kindT typ
    · rw [sel_pos c5]
    · rw [sel_neg c5]
  rw [ca]
  simp only [sel_true, true_and]
  by_cases cf : isFine (getM 2 l).1 = true
  case neg =>
    have cf' : isFine (getM 2 l).1 = false := by simpa using cf
    rw [cf', if_pos rfl]; rfl
  rw [cf, if_neg (by simp)]
  simp only [Bool.not_true, sel_false]
  by_cases c5 : 5 ≤ kindT typ
  case neg =>
    rw [sel_neg c5, if_neg (fun e => c5 (kind_five.2 e.1).2)]
  rw [sel_pos c5]
  have e5 : itemsK (kindT typ, (getM 2 l).1, numM 4 l, IntKind.u32.wrap (numM 11 l), (getM 37 l).1, (getM 39 l).1, ()) = [(2, (getM 2 l).1, ()), (4, amtT (numM 4 l), ()), (11, stanT (IntKind.u32.wrap (numM 11 l)), ()), (37, (getM 37 l).1, ()), (90, originT (IntKind.u32.wrap (numM 11 l)), ())] := by
    unfold itemsK; (try simp only []); rw [if_pos ca, if_pos c5]; rfl
  rw [e5, sel_pos (by simp only [List.length_cons, List.length_nil]; decide), sel_pos (by simp only [List.length_cons, List.length_nil]; decide)]
  have eg : ∀ (a b c d e : Item), (([a, b, c, d, e] : List Item).getD (Int.toNat 4) (OfNat.ofNat 0, [], ())) = e := fun _ _ _ _ _ => rfl
  simp only [eg]
  have e6 : originT (IntKind.u32.wrap (numM 11 l)) = [48, 49, 48, 48] ++ (getM 11 l).1 ++ zeros := origin_of _ _ s2
  rw [e6]
  by_cases co : (getM 90 l).1 = [48, 49, 48, 48] ++ (getM 11 l).1 ++ zeros
  · rw [if_neg (fun e => e.2 co)]
    rw [co]
    rw [sel_not, sel_pos rfl]
  · rw [if_pos ⟨kind_five.1 ⟨ca, c5⟩, co⟩, sel_not, sel_neg co]
    rfl
end Go.Proofs.YtjgnpmdbkgeakaaDoor.G
end
section
set_option linter.unusedVariables false
set_option linter.unusedSimpArgs false
set_option maxRecDepth 100000
namespace Go.Proofs.YtjgnpmdbkgeakaaDoor.G
open Go Go.Proofs.YtjgnpmdbkgeakaaDoor Th
def upd (q : Txt × Int × Int × Txt × Txt × Unit) (x : Item) : Txt × Int × Int × Txt × Txt × Unit :=
  if x.1 = 2 then (x.2.1, q.2) else if x.1 = 4 then (q.1, (((getOK x.2.1).1 : Nat) : Int), q.2.2) else if x.1 = 11 then (q.1, q.2.1, IntKind.u32.wrap (((getOK x.2.1).1 : Nat) : Int), q.2.2.2)
  else if x.1 = 37 then (q.1, q.2.1, q.2.2.1, x.2.1, q.2.2.2.2) else if x.1 = 39 then (q.1, q.2.1, q.2.2.1, q.2.2.2.1, x.2.1, ()) else q
theorem kindT_known {s : Txt} (h : knownT s = true) : 1 ≤ kindT s ∧ kindT s ≤ 7 ∧ typeK (kindT s) = s := by
  unfold knownT KT at h
  simp only [List.contains_cons, List.contains_nil, Bool.or_false, Bool.or_eq_true, beq_iff_eq] at h
  rcases h with rfl | rfl | rfl | rfl | rfl | rfl | rfl <;> decide
theorem G37_is (k L : Nat) (hL : L ≤ 1000000) (hk : L + 100 < k) (d : Deal) (hl : lens L d) (hg : goodD d) : G37 k (d, ()) = some (if dealOK d = true then ((typeK d.1, itemsK d, ()), 0, ()) else (([], [], ()), 1, ())) := by
  have hR := G33_is k L hL hk d hl hg
  obtain ⟨kind, pan, amt, stan, rrn, code, ⟨⟩⟩ := d
  obtain ⟨ha, hs⟩ := hg
  (try simp only [] at ha hs)
  rw [G37_eq]
  (try simp only [])
  rw [hR, ocall_some, G108_is, ocall_some, G109_is k (by omega) kind pan amt stan rrn code ha hs, ocall_some]
  cases dealOK (kind, pan, amt, stan, rrn, code, ()) <;> rfl
set_option synthInstance.maxSize 2000 in
set_option synthInstance.maxHeartbeats 200000 in
instance decD : DecidableEq Deal := fun a b => inferInstanceAs (Decidable ((a : Int × Txt × Int × Int × Txt × Txt × Unit) = b))
theorem sameD (a b : Deal) : (sameI a.1 b.1 && (sameS a.2.1 b.2.1 && (sameI a.2.2.1 b.2.2.1 && (sameI a.2.2.2.1 b.2.2.2.1 && (sameS a.2.2.2.2.1 b.2.2.2.2.1 && (sameS a.2.2.2.2.2.1 b.2.2.2.2.2.1 && true)))))) = decide (a = b) := by
  obtain ⟨a1, a2, a3, a4, a5, a6, ⟨⟩⟩ := a
  obtain ⟨b1, b2, b3, b4, b5, b6, ⟨⟩⟩ := b
  simp only [sameI, sameS]
  by_cases h : (a1, a2, a3, a4, a5, a6, ()) = (b1, b2, b3, b4, b5, b6, ())
  · rw [decide_eq_true h]
    simp only [Prod.mk.injEq] at h
    obtain ⟨h1, h2, h3, h4, h5, h6, _⟩ := h
    simp [h1, h2, h3, h4, h5, h6]
  · rw [decide_eq_false h]
    simp only [Prod.mk.injEq, and_true] at h
    by_cases h1 : a1 = b1 <;> by_cases h2 : a2 = b2 <;> by_cases h3 : a3 = b3 <;> by_cases h4 : a4 = b4 <;> by_cases h5 : a5 = b5 <;> by_cases h6 : a6 = b6 <;> simp [h1, h2, h3, h4, h5, h6] <;> exact h ⟨h1, h2, h3, h4, h5, h6⟩
end Go.Proofs.YtjgnpmdbkgeakaaDoor.G
end
section
set_option linter.unusedVariables false
set_option linter.unusedSimpArgs false
set_option maxRecDepth 100000
namespace Go.Proofs.YtjgnpmdbkgeakaaDoor.G
open Go Go.Proofs.YtjgnpmdbkgeakaaDoor Th
theorem kindT_type {kind : Int} (h1 : 1 ≤ kind) (h7 : kind ≤ 7) : kindT (typeK kind) = kind := by
  have : kind = 1 ∨ kind = 2 ∨ kind = 3 ∨ kind = 4 ∨ kind = 5 ∨ kind = 6 ∨ kind = 7 := by omega
  rcases this with rfl | rfl | rfl | rfl | rfl | rfl | rfl <;> decide
theorem getOK_stan {stan : Int} (h0 : 0 ≤ stan) (h : stan ≤ 999999) : IntKind.u32.wrap (((getOK (stanT stan)).1 : Nat) : Int) = stan := by
  rw [stanT_of h0 h, get_digs 6 stan.toNat (by omega) (by omega) (by show stan.toNat < 1000000; omega)]
  (try simp only [])
  rw [wrapu32 (by omega) (by omega)]
  omega
theorem getOK_amt {amt : Int} (h0 : 0 ≤ amt) (h : amt < 1000000000000) : (((getOK (amtT amt)).1 : Nat) : Int) = amt := by
  rw [amtT_of h0 h, get_digs 12 amt.toNat (by omega) (by omega) (by show amt.toNat < 1000000000000; omega)]
  (try simp only [])
  omega
theorem ok_parts {d : Deal} (h : dealOK d = true) : 1 ≤ d.1 ∧ d.1 ≤ 7 ∧ d.2.2.2.1 ≤ 999999 ∧ rightF 37 d.2.2.2.2.1 = true ∧
    ((asksK d.1 = true ∧ isFine d.2.1 = true ∧ d.2.1.length < 20 ∧ d.2.2.1 < 1000000000000 ∧ d.2.2.2.2.2.1 = []) ∨ (asksK d.1 = false ∧ rightF 39 d.2.2.2.2.2.1 = true ∧ d.2.1 = [] ∧ d.2.2.1 = 0)) := by
  unfold dealOK at h
  simp only [Bool.and_eq_true, decide_eq_true_eq] at h
  obtain ⟨⟨⟨⟨h1, h2⟩, h3⟩, h4⟩, h5⟩ := h
  refine ⟨h1, h2, h3, h4, ?_⟩
  cases ca : asksK d.1 with
  | true =>
    rw [ca, if_pos rfl] at h5
    simp only [Bool.and_eq_true, decide_eq_true_eq] at h5
    exact .inl ⟨rfl, h5.1.1.1, h5.1.1.2, h5.1.2, h5.2⟩
  | false =>
    rw [ca, if_neg (by simp)] at h5
    simp only [Bool.and_eq_true, decide_eq_true_eq] at h5
    exact .inr ⟨rfl, h5.1.1, h5.1.2, h5.2⟩
theorem ok_right {d : Deal} (hg : goodD d) (h : dealOK d = true) : msgRight (typeK d.1, itemsK d, ()) = true := by
  obtain ⟨kind, pan, amt, stan, rrn, code, ⟨⟩⟩ := d
  have e := right_eq kind pan amt stan rrn code hg.1.1 hg.2.1
  rw [h] at e
  split at e
  · simp only [Bool.and_eq_true] at e; exact e.2
  · simp only [Bool.and_eq_true] at e; exact e.2
theorem read_write_deal {d : Deal} (hg : goodD d) (h : dealOK d = true) : readD (typeK d.1, itemsK d, ()) = (d, 0) := by
  have hm := ok_right hg h
  obtain ⟨h1, h7, h3, h4, h5⟩ := ok_parts h
  unfold readD
  rw [if_pos hm]
  unfold deM
  simp only [kindT_type h1 h7]
  rw [if_pos (items_must d)]
  obtain ⟨kind, pan, amt, stan, rrn, code, ⟨⟩⟩ := d
  obtain ⟨⟨ha0, ha⟩, hs0, hs⟩ := hg
  (try simp only [] at *)
  rcases h5 with ⟨ca, cf, cl, cm, rfl⟩ | ⟨ca, cc, rfl, rfl⟩
  · by_cases c56 : kind = 5 ∨ kind = 6
    · have e5 : itemsK (kind, pan, amt, stan, rrn, [], ()) = [(2, pan, ()), (4, amtT amt, ()), (11, stanT stan, ()), (37, rrn, ()), (90, originT stan, ())] := by
        unfold itemsK; (try simp only []); rw [if_pos ca, if_pos (by omega)]; rfl
      have g2 : (getM 2 [((2 : Int), pan, ()), (4, amtT amt, ()), (11, stanT stan, ()), (37, rrn, ()), (90, originT stan, ())]).1 = pan := by simp [getM]
      have g4 : numM 4 [((2 : Int), pan, ()), (4, amtT amt, ()), (11, stanT stan, ()), (37, rrn, ()), (90, originT stan, ())] = amt := by simp [numM, getM, getOK_amt ha0 cm]
      have g11 : (getM 11 [((2 : Int), pan, ()), (4, amtT amt, ()), (11, stanT stan, ()), (37, rrn, ()), (90, originT stan, ())]).1 = stanT stan := by simp [getM]
      have g11' : IntKind.u32.wrap (numM 11 [((2 : Int), pan, ()), (4, amtT amt, ()), (11, stanT stan, ()), (37, rrn, ()), (90, originT stan, ())]) = stan := by simp [numM, getM, getOK_stan hs0 h3]
      have g37 : (getM 37 [((2 : Int), pan, ()), (4, amtT amt, ()), (11, stanT stan, ()), (37, rrn, ()), (90, originT stan, ())]).1 = rrn := by simp [getM]
      have g39 : (getM 39 [((2 : Int), pan, ()), (4, amtT amt, ()), (11, stanT stan, ()), (37, rrn, ()), (90, originT stan, ())]).1 = [] := by simp [getM]
      have g90 : (getM 90 [((2 : Int), pan, ()), (4, amtT amt, ()), (11, stanT stan, ()), (37, rrn, ()), (90, originT stan, ())]).1 = originT stan := by simp [getM]
      rw [e5, g2, g4, g11, g11', g37, g39, g90, cf, if_neg (by simp), if_neg (fun e => e.2 rfl)]
    · have e4 : itemsK (kind, pan, amt, stan, rrn, [], ()) = [(2, pan, ()), (4, amtT amt, ()), (11, stanT stan, ()), (37, rrn, ())] := by
        unfold itemsK; (try simp only []); rw [if_pos ca, if_neg (fun e => c56 (kind_five.1 ⟨ca, e⟩))]; rfl
      have g2 : (getM 2 [((2 : Int), pan, ()), (4, amtT amt, ()), (11, stanT stan, ()), (37, rrn, ())]).1 = pan := by simp [getM]
      have g4 : numM 4 [((2 : Int), pan, ()), (4, amtT amt, ()), (11, stanT stan, ()), (37, rrn, ())] = amt := by simp [numM, getM, getOK_amt ha0 cm]
      have g11' : IntKind.u32.wrap (numM 11 [((2 : Int), pan, ()), (4, amtT amt, ()), (11, stanT stan, ()), (37, rrn, ())]) = stan := by simp [numM, getM, getOK_stan hs0 h3]
      have g37 : (getM 37 [((2 : Int), pan, ()), (4, amtT amt, ()), (11, stanT stan, ()), (37, rrn, ())]).1 = rrn := by simp [getM]
      have g39 : (getM 39 [((2 : Int), pan, ()), (4, amtT amt, ()), (11, stanT stan, ()), (37, rrn, ())]).1 = [] := by simp [getM]
      rw [e4, g2, g4, g11', g37, g39, cf, if_neg (by simp), if_neg (fun e => c56 e.1)]
  · have e3 : itemsK (kind, [], 0, stan, rrn, code, ()) = [(11, stanT stan, ()), (37, rrn, ()), (39, code, ())] := by
      unfold itemsK; (try simp only []); rw [if_neg (by rw [ca]; simp)]
    have g2 : (getM 2 [((11 : Int), stanT stan, ()), (37, rrn, ()), (39, code, ())]).1 = [] := by simp [getM]
    have g4 : numM 4 [((11 : Int), stanT stan, ()), (37, rrn, ()), (39, code, ())] = 0 := by simp [numM, getM, getOK]
    have g11' : IntKind.u32.wrap (numM 11 [((11 : Int), stanT stan, ()), (37, rrn, ()), (39, code, ())]) = stan := by simp [numM, getM, getOK_stan hs0 h3]
    have g37 : (getM 37 [((11 : Int), stanT stan, ()), (37, rrn, ()), (39, code, ())]).1 = rrn := by simp [getM]
    have g39 : (getM 39 [((11 : Int), stanT stan, ()), (37, rrn, ()), (39, code, ())]).1 = code := by simp [getM]
    rw [e3, g2, g4, g11', g37, g39, if_neg (fun e => by rw [ca] at e; cases e.1), if_neg (fun e => by rw [(kind_five.2 e.1).1] at ca; cases ca)]
theorem readD_ok {m : Msg} (h : (readD m).2 = 0) : msgRight m = true ∧ m.2.1.map (·.1) = mustK (kindT m.1) ∧ (asksK (kindT m.1) = true → isFine (getM 2 m.2.1).1 = true) ∧
    ((kindT m.1 = 5 ∨ kindT m.1 = 6) → (getM 90 m.2.1).1 = [48, 49, 48, 48] ++ (getM 11 m.2.1).1 ++ zeros) ∧ (readD m).1 = deM m := by
  unfold readD at *
  split at h
  · rename_i h1; rw [if_pos h1]
    split at h
    · rename_i h2; rw [if_pos h2]
      split at h
      · exact absurd h (by decide)
      · rename_i h3; rw [if_neg h3]
        split at h
        · exact absurd h (by decide)
        · rename_i h4; rw [if_neg h4]
          refine ⟨h1, h2, fun e => ?_, fun e => ?_, rfl⟩
          · cases hf : isFine (getM 2 m.2.1).1 with
            | true => rfl
            | false => exact absurd ⟨e, hf⟩ h3
          · exact Decidable.byContradiction fun hc => h4 ⟨e, hc⟩
    · exact absurd h (by decide)
  · exact absurd h (by decide)
theorem good_deM (m : Msg) : goodD (deM m) := ⟨numM_good _ _, wrap32_good _⟩
theorem write_read_deal {m : Msg} (h : (readD m).2 = 0) : (typeK (deM m).1, itemsK (deM m), ()) = m ∧ dealOK (deM m) = true := by
  obtain ⟨h1, h2, h3, h4, _⟩ := readD_ok h
  obtain ⟨typ, l, ⟨⟩⟩ := m
  obtain ⟨r1, r2⟩ := items_right h1
  (try simp only [] at r1 r2 h2 h3 h4)
  obtain ⟨k1, k7, kt⟩ := kindT_known r2
  have hit : itemsK (deM (typ, l, ())) = l ∧ (if asksK (kindT typ) = true then (getM 39 l).1 = [] else ((getM 2 l).1 = [] ∧ numM 4 l = 0)) := by
    unfold deM
    (try simp only [])
    have hm := h2
    unfold mustK at hm
    by_cases c56 : kindT typ = 5 ∨ kindT typ = 6
    · rw [if_pos c56] at hm
      have ca := (kind_five.2 c56).1
      have h9 := h4 c56
      obtain ⟨a, b, c, d, e, rfl⟩ := items5 hm
      simp only [itemsOK, Bool.and_eq_true] at r1
      obtain ⟨_, ab⟩ := amt_back r1.2.1.2
      obtain ⟨_, _, sb, _⟩ := stan_back r1.2.2.1.2
      have g2 : (getM 2 [((2 : Int), a, ()), (4, b, ()), (11, c, ()), (37, d, ()), (90, e, ())]).1 = a := by simp [getM]
      have g4 : numM 4 [((2 : Int), a, ()), (4, b, ()), (11, c, ()), (37, d, ()), (90, e, ())] = (((getOK b).1 : Nat) : Int) := by simp [numM, getM]
      have g11 : (getM 11 [((2 : Int), a, ()), (4, b, ()), (11, c, ()), (37, d, ()), (90, e, ())]).1 = c := by simp [getM]
      have g11' : numM 11 [((2 : Int), a, ()), (4, b, ()), (11, c, ()), (37, d, ()), (90, e, ())] = (((getOK c).1 : Nat) : Int) := by simp [numM, getM]
      have g37 : (getM 37 [((2 : Int), a, ()), (4, b, ()), (11, c, ()), (37, d, ()), (90, e, ())]).1 = d := by simp [getM]
      have g39 : (getM 39 [((2 : Int), a, ()), (4, b, ()), (11, c, ()), (37, d, ()), (90, e, ())]).1 = [] := by simp [getM]
      have g90 : (getM 90 [((2 : Int), a, ()), (4, b, ()), (11, c, ()), (37, d, ()), (90, e, ())]).1 = e := by simp [getM]
      rw [g11, g90] at h9
      rw [g2, g4, g11', g37, g39, if_pos ca]
      refine ⟨?_, rfl⟩
      unfold itemsK
      (try simp only [])
      rw [if_pos ca, if_pos (by omega), ab, sb, origin_of _ _ sb, h9]
      rfl
    rw [if_neg c56] at hm
    by_cases ca : asksK (kindT typ) = true
    · rw [if_pos ca] at hm
      obtain ⟨a, b, c, d, rfl⟩ := items4 hm
      simp only [itemsOK, Bool.and_eq_true] at r1
      obtain ⟨_, ab⟩ := amt_back r1.2.1.2
      obtain ⟨_, _, sb, _⟩ := stan_back r1.2.2.1.2
      have g2 : (getM 2 [((2 : Int), a, ()), (4, b, ()), (11, c, ()), (37, d, ())]).1 = a := by simp [getM]
      have g4 : numM 4 [((2 : Int), a, ()), (4, b, ()), (11, c, ()), (37, d, ())] = (((getOK b).1 : Nat) : Int) := by simp [numM, getM]
      have g11' : numM 11 [((2 : Int), a, ()), (4, b, ()), (11, c, ()), (37, d, ())] = (((getOK c).1 : Nat) : Int) := by simp [numM, getM]
      have g37 : (getM 37 [((2 : Int), a, ()), (4, b, ()), (11, c, ()), (37, d, ())]).1 = d := by simp [getM]
      have g39 : (getM 39 [((2 : Int), a, ()), (4, b, ()), (11, c, ()), (37, d, ())]).1 = [] := by simp [getM]
      rw [g2, g4, g11', g37, g39, if_pos ca]
      refine ⟨?_, rfl⟩
      unfold itemsK
      (try simp only [])
      rw [if_pos ca, if_neg (fun e => c56 (kind_five.1 ⟨ca, e⟩)), ab, sb]
      rfl
    · rw [if_neg ca] at hm
      obtain ⟨a, b, c, rfl⟩ := items3 hm
      simp only [itemsOK, Bool.and_eq_true] at r1
      obtain ⟨_, _, sb, _⟩ := stan_back r1.1.2
      have g2 : (getM 2 [((11 : Int), a, ()), (37, b, ()), (39, c, ())]).1 = [] := by simp [getM]
      have g4 : numM 4 [((11 : Int), a, ()), (37, b, ()), (39, c, ())] = 0 := by simp [numM, getM, getOK]
      have g11' : numM 11 [((11 : Int), a, ()), (37, b, ()), (39, c, ())] = (((getOK a).1 : Nat) : Int) := by simp [numM, getM]
      have g37 : (getM 37 [((11 : Int), a, ()), (37, b, ()), (39, c, ())]).1 = b := by simp [getM]
      have g39 : (getM 39 [((11 : Int), a, ()), (37, b, ()), (39, c, ())]).1 = c := by simp [getM]
      rw [g2, g4, g11', g37, g39, if_neg ca]
      refine ⟨?_, rfl, rfl⟩
      unfold itemsK
      (try simp only [])
      rw [if_neg ca, sb]
  obtain ⟨hi, hz⟩ := hit
  have hmsg : (typeK (deM (typ, l, ())).1, itemsK (deM (typ, l, ())), ()) = (typ, l, ()) := by
    rw [hi]; show (typeK (kindT typ), l, ()) = _; rw [kt]
  refine ⟨hmsg, ?_⟩
  have hr := right_eq (kindT typ) (getM 2 l).1 (numM 4 l) (IntKind.u32.wrap (numM 11 l)) (getM 37 l).1 (getM 39 l).1 (numM_good 4 l).1 (wrap32_good _).1
  have hd : deM (typ, l, ()) = (kindT typ, (getM 2 l).1, numM 4 l, IntKind.u32.wrap (numM 11 l), (getM 37 l).1, (getM 39 l).1, ()) := rfl
  rw [hd] at hmsg ⊢
  rw [← hr]
  have hm2 : (typeK (kindT typ), itemsK (kindT typ, (getM 2 l).1, numM 4 l, IntKind.u32.wrap (numM 11 l), (getM 37 l).1, (getM 39 l).1, ()), ()) = (typ, l, ()) := hmsg
  rw [hm2, h1]
  by_cases ca : asksK (kindT typ) = true
  · rw [if_pos ca] at hz ⊢
    rw [hz, h3 ca]; rfl
  · rw [if_neg ca] at hz ⊢
    rw [hz.1, hz.2]; rfl
end Go.Proofs.YtjgnpmdbkgeakaaDoor.G
end
section
set_option linter.unusedVariables false
set_option linter.unusedSimpArgs false
set_option maxRecDepth 100000
namespace Go.Proofs.YtjgnpmdbkgeakaaDoor.G
open Go Go.Proofs.YtjgnpmdbkgeakaaDoor Th
def lenSum : List (List Int) → Nat
  | [] => 0
  | x :: l => x.length + lenSum l
theorem lenSum_take (L : List (List Int)) : ∀ i, lenSum (L.take i) ≤ lenSum L := by
  induction L with
  | nil => intro i; simp [lenSum]
  | cons x L ih =>
    intro i
    cases i with
    | zero => exact Nat.zero_le _
    | succ i => have := ih i; simp only [List.take_succ_cons, lenSum]; omega
theorem lenSum_snoc (L : List (List Int)) (x : List Int) : lenSum (L ++ [x]) = lenSum L + x.length := by
  induction L with
  | nil => simp [lenSum]
  | cons y L ih => simp only [List.cons_append, lenSum, ih]; omega
theorem lenSum_flat (L : List (List Int)) : L.flatten.length = lenSum L := by
  induction L with
  | nil => rfl
  | cons y L ih => simp only [List.flatten_cons, List.length_append, lenSum, ih]
theorem G142_3_is (k : Nat) (L : List (List Int)) (hL : L.length ≤ 1000000) (hS : lenSum L ≤ 140737488355328) : ∀ (j i : Nat), i + j = L.length → ∀ n, j < n →
    G142_3 k n (L, ((lenSum (L.take i) : Nat) : Int), L, (L.length : Int), (i : Int), ()) = some (L, ((lenSum L : Nat) : Int), ()) := by
  intro j
  induction j with
  | zero =>
    intro i hij n hn
    obtain ⟨n, rfl⟩ : ∃ m, n = m + 1 := ⟨n - 1, by omega⟩
    rw [G142_3_eq, sel_neg (by omega), List.take_of_length_le (by omega)]
  | succ j ih =>
    intro i hij n hn
    obtain ⟨n, rfl⟩ : ∃ m, n = m + 1 := ⟨n - 1, by omega⟩
    have hlt : i < L.length := by omega
    have hs := lenSum_take L (i + 1)
    have e : lenSum (L.take (i + 1)) = lenSum (L.take i) + L[i].length := by rw [List.take_succ_eq_append_getElem hlt, lenSum_snoc]
    have := ih (i + 1) (by omega) n (by omega)
    rw [G142_3_eq, sel_pos (by omega), sel_pos (by omega), sel_pos (by simp only [ofNat_len]; omega)]
    simp only [Int.toNat_natCast, getD_of hlt, ofNat_len]
    rw [wrap64 (n := (i : Int) + 1) (by omega) (by omega), wrap64 (by omega) (by omega), sel_neg (by omega)]
    rw [e] at this
    rw [Int.natCast_add, Int.natCast_add, Int.natCast_one] at this
    exact this
theorem G142_11_is (k : Nat) (L : List (List Int)) (hL : L.length ≤ 1000000) (hS : lenSum L ≤ 140737488355328) : ∀ (j i : Nat), i + j = L.length → ∀ n, j < n →
    G142_11 k n ((L.take i).flatten, L, (L.length : Int), (i : Int), ()) = some (L.flatten, ()) := by
  intro j
  induction j with
  | zero =>
    intro i hij n hn
    obtain ⟨n, rfl⟩ : ∃ m, n = m + 1 := ⟨n - 1, by omega⟩
    rw [G142_11_eq, sel_neg (by omega), List.take_of_length_le (by omega)]
  | succ j ih =>
    intro i hij n hn
    obtain ⟨n, rfl⟩ : ∃ m, n = m + 1 := ⟨n - 1, by omega⟩
    have hlt : i < L.length := by omega
    have hs := lenSum_take L (i + 1)
    have e : (L.take (i + 1)).flatten = (L.take i).flatten ++ L[i] := by rw [List.take_succ_eq_append_getElem hlt, List.flatten_append]; simp
    have e2 := lenSum_flat (L.take (i + 1))
    rw [e, List.length_append] at e2
    have := ih (i + 1) (by omega) n (by omega)
    rw [G142_11_eq, sel_pos (by omega), sel_pos (by omega), sel_pos (by simp only [ofNat_len]; omega)]
    simp only [Int.toNat_natCast, getD_of hlt]
    rw [sel_pos (by omega), wrap64 (by omega) (by omega)]
    rw [e, Int.natCast_add, Int.natCast_one] at this
    exact this
theorem G142_is (k : Nat) (L : List (List Int)) (hL : L.length ≤ 1000000) (hk : L.length < k) (hS : lenSum L ≤ 140737488355328) : G142 k (L, ()) = some (L.flatten, ()) := by
  have h1 := G142_3_is k L hL hS L.length 0 (by omega) k hk
  have h2 := G142_11_is k L hL hS L.length 0 (by omega) k hk
  simp only [List.take_zero, lenSum, Int.natCast_zero, List.flatten_nil] at h1 h2
  rw [G142_eq]
  simp only [ofNat_len]
  rw [h1, ocall_some]
  (try simp only [])
  rw [G192_eq, sel_pos (by omega), sel_pos (by omega), ocall_some, h2, ocall_some]
end Go.Proofs.YtjgnpmdbkgeakaaDoor.G
end
section
set_option linter.unusedVariables false
set_option linter.unusedSimpArgs false
set_option maxRecDepth 100000
namespace Go.Proofs.YtjgnpmdbkgeakaaDoor.Bits
open Go Go.Proofs.YtjgnpmdbkgeakaaDoor Th
theorem b_or {x y : Nat} (hx : x < 18446744073709551616) (hy : y < 18446744073709551616) : bits .or .u64 (x : Int) (y : Int) = ((x ||| y : Nat) : Int) := by
  have hb : (x ||| y) < 2 ^ 64 := Nat.or_lt_two_pow (by omega) (by omega)
  have e : (BitVec.ofInt 64 (x : Int) ||| BitVec.ofInt 64 (y : Int)).toNat = x ||| y := by
    rw [BitVec.toNat_or, BitVec.ofInt_natCast, BitVec.ofInt_natCast, BitVec.toNat_ofNat, BitVec.toNat_ofNat, Nat.mod_eq_of_lt (by omega), Nat.mod_eq_of_lt (by omega)]
  show IntKind.u64.wrap (((BitVec.ofInt 64 (x : Int) ||| BitVec.ofInt 64 (y : Int)).toNat : Nat) : Int) = _
  rw [e]
  exact wrapu64 (by omega) (by omega)
theorem b_and {x y : Nat} (hx : x < 18446744073709551616) (hy : y < 18446744073709551616) : bits .and .u64 (x : Int) (y : Int) = ((x &&& y : Nat) : Int) := by
  have hb : (x &&& y) < 2 ^ 64 := Nat.and_lt_two_pow _ (by omega)
  have e : (BitVec.ofInt 64 (x : Int) &&& BitVec.ofInt 64 (y : Int)).toNat = x &&& y := by
    rw [BitVec.toNat_and, BitVec.ofInt_natCast, BitVec.ofInt_natCast, BitVec.toNat_ofNat, BitVec.toNat_ofNat, Nat.mod_eq_of_lt (by omega), Nat.mod_eq_of_lt (by omega)]
  show IntKind.u64.wrap (((BitVec.ofInt 64 (x : Int) &&& BitVec.ofInt 64 (y : Int)).toNat : Nat) : Int) = _
  rw [e]
  exact wrapu64 (by omega) (by omega)
theorem pow_lt {n : Nat} (h : n < 64) : 2 ^ n < 18446744073709551616 := Nat.pow_lt_pow_right (a := 2) (by omega) h
theorem pow_pos (n : Nat) : 0 < 2 ^ n := Nat.two_pow_pos n
theorem top_shift {n : Nat} (h1 : 1 ≤ n) (h : n ≤ 64) : Int.fdiv 9223372036854775808 ((2 : Int) ^ min (n - 1) 64) = ((2 ^ (64 - n) : Nat) : Int) := by
  rw [Nat.min_eq_left (by omega)]
  have e : (9223372036854775808 : Int) = (((2 ^ (64 - n)) * (2 ^ (n - 1)) : Nat) : Int) := by
    rw [← Nat.pow_add]
    rw [show 64 - n + (n - 1) = 63 by omega]
    rfl
  have e2 : (2 : Int) ^ (n - 1) = ((2 ^ (n - 1) : Nat) : Int) := by rw [Int.natCast_pow]; rfl
  rw [e, e2, ← Int.ofNat_fdiv, Nat.mul_div_cancel _ (pow_pos _)]
theorem and_pow {w k : Nat} : ((w &&& 2 ^ k) = 0) ↔ w.testBit k = false := by
  constructor
  · intro h
    have := congrArg (fun x => x.testBit k) h
    simpa [Nat.testBit_and, Nat.testBit_two_pow] using this
  · intro h
    apply Nat.eq_of_testBit_eq
    intro i
    rw [Nat.testBit_and, Nat.testBit_two_pow, Nat.zero_testBit]
    by_cases e : k = i
    · subst e; rw [h]; rfl
    · rw [decide_eq_false e, Bool.and_false]
theorem or_test (w k j : Nat) : (w ||| 2 ^ k).testBit j = (w.testBit j || decide (k = j)) := by rw [Nat.testBit_or, Nat.testBit_two_pow]
theorem or_lt {w k : Nat} (hw : w < 18446744073709551616) (hk : k < 64) : (w ||| 2 ^ k) < 18446744073709551616 := Nat.or_lt_two_pow (n := 64) hw (pow_lt hk)
theorem or_self {w k : Nat} (h : w.testBit k = true) : (w ||| 2 ^ k) = w := by
  apply Nat.eq_of_testBit_eq
  intro i
  rw [or_test]
  by_cases e : k = i
  · subst e; rw [h]; rfl
  · rw [decide_eq_false e, Bool.or_false]
theorem high_zero {w j : Nat} (hw : w < 18446744073709551616) (hj : 64 ≤ j) : w.testBit j = false :=
  Nat.testBit_lt_two_pow (Nat.lt_of_lt_of_le hw (Nat.pow_le_pow_right (n := 2) (by omega) hj))
def be8 (w : Nat) : List Int := [((w / 72057594037927936 % 256 : Nat) : Int), ((w / 281474976710656 % 256 : Nat) : Int), ((w / 1099511627776 % 256 : Nat) : Int), ((w / 4294967296 % 256 : Nat) : Int),
  ((w / 16777216 % 256 : Nat) : Int), ((w / 65536 % 256 : Nat) : Int), ((w / 256 % 256 : Nat) : Int), ((w % 256 : Nat) : Int)]
def num8 (l : List Int) : Nat := l.foldl (fun a c => 256 * a + c.toNat) 0
def byteOK (c : Int) : Prop := 0 ≤ c ∧ c ≤ 255
theorem be8_len (w : Nat) : (be8 w).length = 8 := rfl
theorem be8_bytes (w : Nat) : ∀ c ∈ be8 w, byteOK c := by
  intro c hc
  simp only [be8, List.mem_cons, List.not_mem_nil, or_false] at hc
  unfold byteOK
  rcases hc with rfl | rfl | rfl | rfl | rfl | rfl | rfl | rfl <;> omega
theorem num8_be8 {w : Nat} (h : w < 18446744073709551616) : num8 (be8 w) = w := by
  simp only [num8, be8, List.foldl_cons, List.foldl_nil, Int.toNat_natCast]
  omega
theorem eight {l : List Int} (h : l.length = 8) : ∃ a b c d e f g i, l = [a, b, c, d, e, f, g, i] := by
  match l, h with
  | [a, b, c, d, e, f, g, i], _ => exact ⟨a, b, c, d, e, f, g, i, rfl⟩
theorem num8_lt {l : List Int} (h : l.length = 8) (hb : ∀ c ∈ l, byteOK c) : num8 l < 18446744073709551616 := by
  obtain ⟨a, b, c, d, e, f, g, i, rfl⟩ := eight h
  simp only [List.mem_cons, List.not_mem_nil, or_false, forall_eq_or_imp, forall_eq, byteOK] at hb
  simp only [num8, List.foldl_cons, List.foldl_nil]
  omega
theorem be8_num8 {l : List Int} (h : l.length = 8) (hb : ∀ c ∈ l, byteOK c) : be8 (num8 l) = l := by
  obtain ⟨a, b, c, d, e, f, g, i, rfl⟩ := eight h
  simp only [List.mem_cons, List.not_mem_nil, or_false, forall_eq_or_imp, forall_eq, byteOK] at hb
  obtain ⟨a, rfl⟩ := Int.eq_ofNat_of_zero_le hb.1.1
  obtain ⟨b, rfl⟩ := Int.eq_ofNat_of_zero_le hb.2.1.1
  obtain ⟨c, rfl⟩ := Int.eq_ofNat_of_zero_le hb.2.2.1.1
  obtain ⟨d, rfl⟩ := Int.eq_ofNat_of_zero_le hb.2.2.2.1.1
  obtain ⟨e, rfl⟩ := Int.eq_ofNat_of_zero_le hb.2.2.2.2.1.1
  obtain ⟨f, rfl⟩ := Int.eq_ofNat_of_zero_le hb.2.2.2.2.2.1.1
  obtain ⟨g, rfl⟩ := Int.eq_ofNat_of_zero_le hb.2.2.2.2.2.2.1.1
  obtain ⟨i, rfl⟩ := Int.eq_ofNat_of_zero_le hb.2.2.2.2.2.2.2.1
  simp only [num8, be8, List.foldl_cons, List.foldl_nil, Int.toNat_natCast, List.cons.injEq, and_true]
  refine ⟨?_, ?_, ?_, ?_, ?_, ?_, ?_, ?_⟩ <;> omega
theorem shl_or {a c : Nat} (ha : a < 72057594037927936) (hc : c < 256) : bits .or .u64 (IntKind.u64.wrap ((a : Int) * 256)) (IntKind.u64.wrap (c : Int)) = ((256 * a + c : Nat) : Int) := by
  rw [show (a : Int) * 256 = ((a * 256 : Nat) : Int) by omega, wrapu64 (by omega) (by omega), wrapu64 (by omega) (by omega), b_or (by omega) (by omega)]
  have := Nat.shiftLeft_add_eq_or_of_lt (b := c) (i := 8) (by omega) a
  rw [Nat.shiftLeft_eq] at this
  rw [← this]
  omega
end Go.Proofs.YtjgnpmdbkgeakaaDoor.Bits
end
section
set_option linter.unusedVariables false
set_option linter.unusedSimpArgs false
set_option maxRecDepth 100000
namespace Go.Proofs.YtjgnpmdbkgeakaaDoor.G
open Go Go.Proofs.YtjgnpmdbkgeakaaDoor Th Bits
abbrev BM := Int × Int × Unit
def goodB (m : BM) : Prop := (0 ≤ m.1 ∧ m.1 < 18446744073709551616) ∧ 0 ≤ m.2.1 ∧ m.2.1 < 18446744073709551616
def bitB (m : BM) (n : Nat) : Bool := if n ≤ 64 then m.1.toNat.testBit (64 - n) else m.2.1.toNat.testBit (128 - n)
def rightB (m : BM) : Bool := !bitB m 65 && (bitB m 1 == !decide (m.2.1 = 0))
def fieldB (n : Int) : Bool := decide (2 ≤ n) && decide (n ≤ 128) && !decide (n = 65)
def hasB (m : BM) (n : Int) : Bool := fieldB n && bitB m n.toNat
def setB (m : BM) (n : Nat) : BM := if n ≤ 64 then (((m.1.toNat ||| 2 ^ (64 - n) : Nat) : Int), m.2.1, ()) else (((m.1.toNat ||| 2 ^ 63 : Nat) : Int), ((m.2.1.toNat ||| 2 ^ (128 - n) : Nat) : Int), ())
def putB (m : BM) (n : Int) : BM × Int := if rightB m = true ∧ fieldB n = true then (setB m n.toNat, 0) else (m, 1)
theorem fieldB_iff {n : Int} : fieldB n = true ↔ 2 ≤ n ∧ n ≤ 128 ∧ n ≠ 65 := by unfold fieldB; simp [and_assoc]
theorem G213_is (k : Nat) (n hi lo : Int) (h1 : 1 ≤ n) (h2 : n ≤ 128) : G213 k (n, hi, lo, ()) =
    if n ≤ 64 then some (.inl (((2 ^ (64 - n.toNat) : Nat) : Int), hi, lo, ())) else some (.inr (((2 ^ (128 - n.toNat) : Nat) : Int), hi, lo, ())) := by
  obtain ⟨m, rfl⟩ : ∃ m : Nat, n = m := ⟨n.toNat, by omega⟩
  rw [G213_eq]
  by_cases c : (m : Int) ≤ 64
  · rw [sel_pos c, if_pos c, wrap64 (by omega) (by omega), sel_pos (by omega), show ((m : Int) - 1).toNat = m - 1 by omega, top_shift (by omega) (by omega), Int.toNat_natCast]
  · rw [sel_neg c, if_neg c, wrap64 (n := (m : Int) - 64) (by omega) (by omega), wrap64 (by omega) (by omega), sel_pos (by omega), show ((m : Int) - 64 - 1).toNat = (m - 64) - 1 by omega, top_shift (by omega) (by omega), Int.toNat_natCast,
      show 64 - (m - 64) = 128 - m by omega]
theorem nat_of {x : Int} (h : 0 ≤ x ∧ x < 18446744073709551616) : ∃ n : Nat, x = n ∧ n < 18446744073709551616 := ⟨x.toNat, by omega, by omega⟩
theorem G214_is (k : Nat) (m : BM) (hg : goodB m) (n : Int) (h1 : 1 ≤ n) (h2 : n ≤ 128) : G214 k (m, n, ()) = some (bitB m n.toNat, ()) := by
  obtain ⟨hi, lo, ⟨⟩⟩ := m
  obtain ⟨hi, rfl, hh⟩ := nat_of hg.1
  obtain ⟨lo, rfl, hl⟩ := nat_of hg.2
  rw [G214_eq, G213_is k n _ _ h1 h2]
  unfold bitB
  have key : ∀ (w e : Nat), w < 18446744073709551616 → e < 64 → (!decide (bits .and .u64 (w : Int) ((2 ^ e : Nat) : Int) = 0)) = w.testBit e := by
    intro w e hw he
    rw [b_and hw (pow_lt he)]
    cases ht : w.testBit e with
    | false => rw [and_pow.2 ht]; rfl
    | true =>
      have : ¬ ((w &&& 2 ^ e : Nat) : Int) = 0 := fun h => by
        have h' : (w &&& 2 ^ e) = 0 := by omega
        rw [and_pow.1 h'] at ht; cases ht
      rw [decide_eq_false this]; rfl
  by_cases c : n ≤ 64
  · rw [if_pos c, if_pos (by omega), ocall_some, esel_inl]
    simp only [Int.toNat_natCast]
    rw [key hi _ hh (by omega)]
  · rw [if_neg c, if_neg (by omega), ocall_some, esel_inr]
    simp only [Int.toNat_natCast]
    rw [key lo _ hl (by omega)]
theorem G190_is (k : Nat) (m : BM) (hg : goodB m) : G190 k (m, ()) = some (rightB m, ()) := by
  have h65 := G214_is k m hg 65 (by omega) (by omega)
  have h1 := G214_is k m hg 1 (by omega) (by omega)
  obtain ⟨hi, lo, ⟨⟩⟩ := m
  rw [G190_eq, h65, ocall_some, h1]
  unfold rightB
  show sel (!bitB (hi, lo, ()) 65) _ _ = _
  cases bitB (hi, lo, ()) 65 <;> rfl
theorem G212_is (k : Nat) (n : Int) : G212 k (n, ()) = some (fieldB n, ()) := by
  rw [G212_eq]
  unfold fieldB
  by_cases c1 : 1 < n
  · rw [sel_pos c1, decide_eq_true (show 2 ≤ n by omega)]
    by_cases c2 : n ≤ 128
    · rw [sel_pos c2, decide_eq_true c2]; rfl
    · rw [sel_neg c2, decide_eq_false c2]; rfl
  · rw [sel_neg c1, decide_eq_false (show ¬ 2 ≤ n by omega)]; rfl
theorem G216_is (k : Nat) (m : BM) (hg : goodB m) (n : Int) : G216 k (m, n, ()) = some (hasB m n, ()) := by
  obtain ⟨hi, lo, ⟨⟩⟩ := m
  rw [G216_eq, G212_is, ocall_some]
  unfold hasB
  cases hf : fieldB n with
  | false => rfl
  | true =>
    have := fieldB_iff.1 hf
    rw [G214_is k _ hg n (by omega) (by omega)]; rfl
theorem setB_good {m : BM} (hg : goodB m) {n : Nat} (h1 : 1 ≤ n) (h2 : n ≤ 128) : goodB (setB m n) := by
  obtain ⟨hi, lo, ⟨⟩⟩ := m
  obtain ⟨hi, rfl, hh⟩ := nat_of hg.1
  obtain ⟨lo, rfl, hl⟩ := nat_of hg.2
  unfold setB
  by_cases c : n ≤ 64
  · rw [if_pos c]
    have := or_lt (k := 64 - n) hh (by omega)
    refine ⟨⟨by (try simp only []); omega, ?_⟩, ⟨by (try simp only []); omega, by (try simp only []); omega⟩⟩
    simp only [Int.toNat_natCast]; omega
  · rw [if_neg c]
    have h3 := or_lt (k := 63) hh (by omega)
    have h4 := or_lt (k := 128 - n) hl (by omega)
    refine ⟨⟨by (try simp only []); omega, ?_⟩, ⟨by (try simp only []); omega, ?_⟩⟩
    · simp only [Int.toNat_natCast]; omega
    · simp only [Int.toNat_natCast]; omega
theorem setB_bit {m : BM} {n : Nat} (h1 : 1 ≤ n) (h2 : n ≤ 128) {j : Nat} (j1 : 1 ≤ j) (j2 : j ≤ 128) : bitB (setB m n) j = (bitB m j || decide (j = n) || decide (64 < n ∧ j = 1)) := by
  obtain ⟨hi, lo, ⟨⟩⟩ := m
  unfold setB bitB
  by_cases c : n ≤ 64
  · rw [if_pos c, decide_eq_false (show ¬ (64 < n ∧ j = 1) by omega), Bool.or_false]
    by_cases d : j ≤ 64
    · rw [if_pos d, if_pos d]
      simp only [Int.toNat_natCast]
      rw [or_test, show decide (64 - n = 64 - j) = decide (j = n) from decide_eq_decide.2 (by omega)]
    · rw [if_neg d, if_neg d, decide_eq_false (show ¬ j = n by omega), Bool.or_false]
  · rw [if_neg c]
    by_cases d : j ≤ 64
    · rw [if_pos d, if_pos d]
      simp only [Int.toNat_natCast]
      rw [or_test, decide_eq_false (show ¬ j = n by omega), Bool.or_false, show decide (63 = 64 - j) = decide (64 < n ∧ j = 1) from decide_eq_decide.2 (by omega)]
    · rw [if_neg d, if_neg d, decide_eq_false (show ¬ (64 < n ∧ j = 1) by omega), Bool.or_false]
      simp only [Int.toNat_natCast]
      rw [or_test, show decide (128 - n = 128 - j) = decide (j = n) from decide_eq_decide.2 (by omega)]
theorem or_ne (w k : Nat) : (w ||| 2 ^ k) ≠ 0 := fun h => by
  have := or_test w k k
  rw [h, Nat.zero_testBit, decide_eq_true rfl, Bool.or_true] at this
  cases this
theorem rightB_iff {m : BM} : rightB m = true ↔ bitB m 65 = false ∧ (bitB m 1 = true ↔ m.2.1 ≠ 0) := by
  unfold rightB
  cases bitB m 65 <;> cases bitB m 1 <;> by_cases c : m.2.1 = 0 <;> simp [c]
theorem setB_right {m : BM} (hr : rightB m = true) {n : Nat} (h1 : 2 ≤ n) (h2 : n ≤ 128) (h3 : n ≠ 65) : rightB (setB m n) = true := by
  obtain ⟨r1, r2⟩ := rightB_iff.1 hr
  refine rightB_iff.2 ⟨?_, ?_⟩
  · rw [setB_bit (by omega) h2 (by omega) (by omega), r1, decide_eq_false (fun e => h3 e.symm), decide_eq_false (by omega)]; rfl
  · rw [setB_bit (by omega) h2 (by omega) (by omega)]
    unfold setB
    by_cases c : n ≤ 64
    · rw [if_pos c, decide_eq_false (show ¬ 1 = n by omega), decide_eq_false (by omega), Bool.or_false, Bool.or_false]; exact r2
    · rw [if_neg c, decide_eq_true (show 64 < n ∧ 1 = 1 by omega), Bool.or_true]
      refine ⟨fun _ => ?_, fun _ => rfl⟩
      have := or_ne m.2.1.toNat (128 - n)
      (try simp only []); omega
theorem G189_is (k : Nat) (m : BM) (hg : goodB m) (n : Int) : G189 k (m, n, ()) = some ((putB m n).1, (putB m n).2, ()) := by
  have hR := G190_is k m hg
  obtain ⟨hi, lo, ⟨⟩⟩ := m
  rw [G189_eq, hR, ocall_some]
  unfold putB
  cases hr : rightB (hi, lo, ()) with
  | false => rw [if_neg (by simp)]; rfl
  | true =>
  simp only [Bool.not_true, sel_false]
  rw [G212_is, ocall_some]
  cases hf : fieldB n with
  | false => rw [if_neg (by simp)]; rfl
  | true =>
  rw [if_pos (by simp)]
  simp only [Bool.not_true, sel_false]
  obtain ⟨f1, f2, f3⟩ := fieldB_iff.1 hf
  obtain ⟨n, rfl⟩ : ∃ m : Nat, n = m := ⟨n.toNat, by omega⟩
  obtain ⟨hi, rfl, hh⟩ := nat_of hg.1
  obtain ⟨lo, rfl, hl⟩ := nat_of hg.2
  obtain ⟨r1, r2⟩ := rightB_iff.1 hr
  rw [G213_is k n _ _ (by omega) f2]
  unfold setB
  simp only [Int.toNat_natCast]
  by_cases c : (n : Int) ≤ 64
  · rw [if_pos c, if_pos (by omega), ocall_some, esel_inl]
    (try simp only [])
    rw [b_or hh (pow_lt (by omega))]
    by_cases hz : (lo : Int) = 0
    · rw [sel_not, sel_pos hz]
    · rw [sel_not, sel_neg hz]
      have hb : hi.testBit 63 = true := by have := r2.2 hz; simpa [bitB] using this
      have h2 := or_lt (k := 64 - n) hh (by omega)
      have e63 : (9223372036854775808 : Int) = ((2 ^ 63 : Nat) : Int) := by rfl
      rw [e63, b_or h2 (pow_lt (by omega)), or_self (by rw [or_test, hb]; rfl)]
  · rw [if_neg c, if_neg (by omega), ocall_some, esel_inr]
    (try simp only [])
    rw [b_or hl (pow_lt (by omega))]
    have := or_ne lo (128 - n)
    rw [sel_not, sel_neg (by omega)]
    have e63 : (9223372036854775808 : Int) = ((2 ^ 63 : Nat) : Int) := by rfl
    rw [e63, b_or hh (pow_lt (by omega))]
def fieldsFrom (m : BM) : Nat → Nat → List Int
  | _, 0 => []
  | n, j + 1 => (if hasB m n = true then [(n : Int)] else []) ++ fieldsFrom m (n + 1) j
def fieldsB (m : BM) : List Int := fieldsFrom m 2 127
theorem fieldsFrom_len (m : BM) : ∀ (j n : Nat), (fieldsFrom m n j).length ≤ j := by
  intro j
  induction j with
  | zero => intro n; simp [fieldsFrom]
  | succ j ih => intro n; have := ih (n + 1); unfold fieldsFrom; rw [List.length_append]; split <;> simp <;> omega
theorem fieldsFrom_mem (m : BM) : ∀ (j n : Nat) (x : Int), x ∈ fieldsFrom m n j ↔ ((n : Int) ≤ x ∧ x < n + j ∧ hasB m x = true) := by
  intro j
  induction j with
  | zero => intro n x; simp only [fieldsFrom, List.not_mem_nil, false_iff]; omega
  | succ j ih =>
    intro n x
    unfold fieldsFrom
    rw [List.mem_append, ih]
    by_cases c : hasB m n = true
    · rw [if_pos c, List.mem_singleton]
      constructor
      · rintro (rfl | ⟨a, b, d⟩)
        · exact ⟨by omega, by omega, c⟩
        · exact ⟨by omega, by omega, d⟩
      · rintro ⟨a, b, d⟩
        by_cases e : x = n
        · exact .inl e
        · exact .inr ⟨by omega, by omega, d⟩
    · rw [if_neg c]
      constructor
      · rintro (h | ⟨a, b, d⟩)
        · cases h
        · exact ⟨by omega, by omega, d⟩
      · rintro ⟨a, b, d⟩
        refine .inr ⟨?_, by omega, d⟩
        by_cases e : x = n
        · subst e; exact absurd d c
        · omega
theorem fieldsB_mem (m : BM) (x : Int) : x ∈ fieldsB m ↔ hasB m x = true := by
  unfold fieldsB
  rw [fieldsFrom_mem]
  constructor
  · exact fun h => h.2.2
  · intro h
    refine ⟨?_, ?_, h⟩ <;>
    · unfold hasB at h
      simp only [Bool.and_eq_true] at h
      have := fieldB_iff.1 h.1
      omega
theorem fieldsFrom_sorted (m : BM) : ∀ (j n : Nat), (fieldsFrom m n j).Pairwise (· < ·) := by
  intro j
  induction j with
  | zero => intro n; simp [fieldsFrom]
  | succ j ih =>
    intro n
    unfold fieldsFrom
    rw [List.pairwise_append]
    refine ⟨by split <;> simp, ih _, fun a ha b hb => ?_⟩
    have := (fieldsFrom_mem m j (n + 1) b).1 hb
    split at ha
    · simp only [List.mem_singleton] at ha; omega
    · cases ha
theorem G194_g0_is (k : Nat) (m : BM) (hg : goodB m) : ∀ (j n : Nat), n + (j + 1) = 129 → 2 ≤ n → ∀ (acc : List Int) (c : Nat), acc.length ≤ n → j + 1 ≤ c →
    G194_g0 k c (acc, (n : Int), m.1, m.2.1, ()) = some (acc ++ fieldsFrom m n (j + 1), ()) := by
  obtain ⟨hi, lo, ⟨⟩⟩ := m
  intro j
  induction j with
  | zero =>
    intro n hn h2 acc c ha hc
    obtain ⟨c, rfl⟩ : ∃ d, c = d + 1 := ⟨c - 1, by omega⟩
    rw [G194_g0_eq, G216_is k _ hg, ocall_some]
    unfold fieldsFrom fieldsFrom
    cases hasB (hi, lo, ()) n with
    | false => rw [sel_false, wrap64 (by omega) (by omega), sel_neg (by omega)]; simp
    | true => rw [sel_true, sel_pos (by omega), wrap64 (by omega) (by omega), sel_neg (by omega)]; simp
  | succ j ih =>
    intro n hn h2 acc c ha hc
    obtain ⟨c, rfl⟩ : ∃ d, c = d + 1 := ⟨c - 1, by omega⟩
    rw [G194_g0_eq, G216_is k _ hg, ocall_some]
    rw [show fieldsFrom (hi, lo, ()) n (j + 1 + 1) = (if hasB (hi, lo, ()) n = true then [(n : Int)] else []) ++ fieldsFrom (hi, lo, ()) (n + 1) (j + 1) from rfl]
    have e : (n : Int) + 1 = ((n + 1 : Nat) : Int) := by omega
    cases hasB (hi, lo, ()) n with
    | false =>
      rw [sel_false, wrap64 (by omega) (by omega), sel_pos (by omega), e, ih (n + 1) (by omega) (by omega) acc c (by omega) (by omega)]; simp
    | true =>
      rw [sel_true, sel_pos (by omega), wrap64 (by omega) (by omega), sel_pos (by omega), e, ih (n + 1) (by omega) (by omega) (acc ++ [(n : Int)]) c (by simp; omega) (by omega)]; simp
theorem G194_is (k : Nat) (hk : 200 < k) (m : BM) (hg : goodB m) : G194 k (m, ()) = some (fieldsB m, ()) := by
  have hl := fun acc h => G194_g0_is k m hg 125 3 (by omega) (by omega) acc k h (by omega)
  have hh := G216_is k m hg 2
  obtain ⟨hi, lo, ⟨⟩⟩ := m
  rw [G194_eq, hh, ocall_some]
  unfold fieldsB
  rw [show fieldsFrom (hi, lo, ()) 2 127 = (if hasB (hi, lo, ()) (2 : Nat) = true then [((2 : Nat) : Int)] else []) ++ fieldsFrom (hi, lo, ()) 3 126 from rfl]
  have e : IntKind.i64.wrap (2 + 1) = ((3 : Nat) : Int) := by rfl
  have e2 : hasB (hi, lo, ()) ((2 : Nat) : Int) = hasB (hi, lo, ()) 2 := rfl
  rw [e2, e]
  cases hasB (hi, lo, ()) 2 with
  | false => simp only [sel_false]; rw [hl [] (by simp), ocall_some]; simp
  | true => simp only [sel_true]; rw [hl [2] (by simp), ocall_some]; simp
def ofB : BM → List Int → BM × Int
  | m, [] => (m, 0)
  | m, n :: l => if (putB m n).2 = 0 then ofB (putB m n).1 l else ((0, 0, ()), (putB m n).2)
theorem putB_good {m : BM} (hg : goodB m) (n : Int) : goodB (putB m n).1 := by
  unfold putB
  split
  · rename_i h
    obtain ⟨f1, f2, f3⟩ := fieldB_iff.1 h.2
    exact setB_good hg (by omega) (by omega)
  · exact hg
theorem putB_err (m : BM) (n : Int) : (putB m n).2 = 0 ∨ (putB m n).2 = 1 := by unfold putB; split <;> simp
theorem G140_3_is (k : Nat) (l : List Int) (hl : l.length ≤ 1000000000) : ∀ (j i : Nat), i + j = l.length → ∀ (m : BM), goodB m → ∀ n, j < n →
    G140_3 k n (l, (l.length : Int), (i : Int), 0, 0, m.1, m.2.1, ()) = some (if (ofB m (l.drop i)).2 = 0 then .inl (0, 0, (ofB m (l.drop i)).1.1, (ofB m (l.drop i)).1.2.1, ()) else .inr ((ofB m (l.drop i)).2, 0, 0, ())) := by
  intro j
  induction j with
  | zero =>
    intro i hij m hg n hn
    obtain ⟨n, rfl⟩ : ∃ m, n = m + 1 := ⟨n - 1, by omega⟩
    rw [G140_3_eq, sel_neg (by omega), List.drop_eq_nil_of_le (by omega)]
    rfl
  | succ j ih =>
    intro i hij m hg n hn
    obtain ⟨n, rfl⟩ : ∃ m, n = m + 1 := ⟨n - 1, by omega⟩
    have hlt : i < l.length := by omega
    rw [G140_3_eq, sel_pos (by omega), sel_pos (by omega), sel_pos (by simp only [ofNat_len]; omega), Int.toNat_natCast, getD_of hlt]
    have hp := G189_is k m hg l[i]
    have hg2 := putB_good hg l[i]
    obtain ⟨hi, lo, ⟨⟩⟩ := m
    rw [hp, ocall_some]
    rcases putB_err (hi, lo, ()) l[i] with h | h
    · have hof : ofB (hi, lo, ()) (l.drop i) = ofB (putB (hi, lo, ()) l[i]).1 (l.drop (i + 1)) := by
        rw [List.drop_eq_getElem_cons hlt]
        exact if_pos h
      rw [hof, sel_not, sel_pos h, wrap64 (by omega) (by omega)]
      have := ih (i + 1) (by omega) (putB (hi, lo, ()) l[i]).1 hg2 n (by omega)
      rw [Int.natCast_add, Int.natCast_one] at this
      exact this
    · have hof : ofB (hi, lo, ()) (l.drop i) = ((0, 0, ()), (putB (hi, lo, ()) l[i]).2) := by
        rw [List.drop_eq_getElem_cons hlt]
        exact if_neg (by omega)
      have hn0 : ¬ (putB (hi, lo, ()) l[i]).2 = 0 := by omega
      rw [hof, sel_not, sel_neg hn0, if_neg hn0]
theorem ofB_err : ∀ (l : List Int) (m : BM), (ofB m l).2 ≠ 0 → (ofB m l).1 = (0, 0, ()) := by
  intro l
  induction l with
  | nil => intro m h; exact absurd rfl h
  | cons n l ih =>
    intro m h
    unfold ofB at h ⊢
    split
    · rename_i c; rw [if_pos c] at h; exact ih _ h
    · rfl
theorem G140_is (k : Nat) (l : List Int) (hl : l.length ≤ 1000000000) (hk : l.length < k) : G140 k (l, ()) = some ((ofB (0, 0, ()) l).1, (ofB (0, 0, ()) l).2, ()) := by
  have h := G140_3_is k l hl l.length 0 (by omega) (0, 0, ()) ⟨⟨by decide, by decide⟩, by decide, by decide⟩ k hk
  rw [List.drop_zero, Int.natCast_zero] at h
  rw [G140_eq]
  simp only [ofNat_len]
  rw [h, ocall_some]
  have hz := ofB_err l (0, 0, ())
  by_cases c : (ofB (0, 0, ()) l).2 = 0
  · rw [if_pos c, esel_inl, c]
  · rw [if_neg c, esel_inr, hz c]
theorem fdiv_shift (w e : Nat) : IntKind.u8.wrap ((w : Int).fdiv ((2 : Int) ^ e)) = ((w / 2 ^ e % 256 : Nat) : Int) := by
  have e2 : (2 : Int) ^ e = ((2 ^ e : Nat) : Int) := by rw [Int.natCast_pow]; rfl
  rw [e2, ← Int.ofNat_fdiv]
  unfold IntKind.wrap
  simp only [IntKind.bits, IntKind.signed]
  simp
theorem G191_2_step (k c : Nat) (b : List Int) (w i : Nat) (hi : i < 8) (hb : b.length ≤ 1000) : G191_2 k (c + 1) (b, (w : Int), (i : Int), ()) = G191_2 k c (b ++ [((w / 2 ^ (56 - 8 * i) % 256 : Nat) : Int)], (w : Int), ((i + 1 : Nat) : Int), ()) := by
  rw [G191_2_eq, sel_pos (by omega), wrap64 (n := (i : Int) + 1) (by omega) (by omega), wrap64 (n := 8 * ((i : Int) + 1)) (by omega) (by omega), wrap64 (by omega) (by omega), sel_pos (by omega), sel_pos (by omega),
    show (64 - 8 * ((i : Int) + 1)).toNat = 56 - 8 * i by omega, Nat.min_eq_left (by omega), fdiv_shift]
  rfl
theorem G191_is (k : Nat) (hk : 20 < k) (b : List Int) (hb : b.length ≤ 900) (w : Nat) : G191 k (b, (w : Int), ()) = some (b ++ be8 w, ()) := by
  obtain ⟨c, rfl⟩ : ∃ c, k = c + 9 := ⟨k - 9, by omega⟩
  rw [G191_eq]
  have s0 := G191_2_step (c + 9) (c + 8) b w 0 (by omega) (by omega)
  rw [Int.natCast_zero] at s0
  rw [s0, G191_2_step (c + 9) (c + 7) _ w 1 (by omega) (by simp; omega), G191_2_step (c + 9) (c + 6) _ w 2 (by omega) (by simp; omega), G191_2_step (c + 9) (c + 5) _ w 3 (by omega) (by simp; omega),
    G191_2_step (c + 9) (c + 4) _ w 4 (by omega) (by simp; omega), G191_2_step (c + 9) (c + 3) _ w 5 (by omega) (by simp; omega), G191_2_step (c + 9) (c + 2) _ w 6 (by omega) (by simp; omega),
    G191_2_step (c + 9) (c + 1) _ w 7 (by omega) (by simp; omega), G191_2_eq, sel_neg (by omega), ocall_some]
  simp [be8, List.append_assoc]
def bytesB (m : BM) : List Int := if m.2.1 = 0 then be8 m.1.toNat else be8 m.1.toNat ++ be8 m.2.1.toNat
theorem G141_is (k : Nat) (hk : 20 < k) (m : BM) (hg : goodB m) : G141 k (m, ()) = some (if rightB m = true then (bytesB m, 0, ()) else ([], 1, ())) := by
  have hR := G190_is k m hg
  obtain ⟨hi, lo, ⟨⟩⟩ := m
  rw [G141_eq, hR, ocall_some]
  cases rightB (hi, lo, ()) with
  | false => rw [if_neg (by simp)]; rfl
  | true =>
  rw [if_pos rfl]
  obtain ⟨hi, rfl, hh⟩ := nat_of hg.1
  obtain ⟨lo, rfl, hl⟩ := nat_of hg.2
  simp only [Bool.not_true, sel_false]
  rw [G191_is k hk [] (by simp) hi, ocall_some]
  unfold bytesB
  simp only [Int.toNat_natCast, List.nil_append]
  by_cases hz : (lo : Int) = 0
  · rw [sel_not, sel_pos hz, if_pos hz]
  · rw [sel_not, sel_neg hz, if_neg hz, G191_is k hk _ (by simp [be8]) lo, ocall_some]
theorem take_lt (l : List Int) (hb : ∀ c ∈ l, byteOK c) : ∀ i : Nat, i ≤ l.length → (l.take i).foldl (fun a c => 256 * a + c.toNat) 0 < 256 ^ i := by
  intro i
  induction i with
  | zero => intro _; simp
  | succ i ih =>
    intro hi
    have := ih (by omega)
    rw [List.take_succ_eq_append_getElem (by omega), List.foldl_append]
    have hc := hb l[i] (List.getElem_mem _)
    simp only [List.foldl_cons, List.foldl_nil]
    unfold byteOK at hc
    rw [Nat.pow_succ]
    omega
theorem G215_3_is (k : Nat) (l : List Int) (hl : l.length = 8) (hb : ∀ c ∈ l, byteOK c) : ∀ (j i : Nat), i + j = 8 → ∀ n, j < n →
    G215_3 k n ((((l.take i).foldl (fun a c => 256 * a + c.toNat) 0 : Nat) : Int), l, 8, (i : Int), ()) = some (((num8 l : Nat) : Int), ()) := by
  intro j
  induction j with
  | zero =>
    intro i hij n hn
    obtain ⟨n, rfl⟩ : ∃ m, n = m + 1 := ⟨n - 1, by omega⟩
    rw [G215_3_eq, sel_neg (by omega), List.take_of_length_le (by omega)]
    rfl
  | succ j ih =>
    intro i hij n hn
    obtain ⟨n, rfl⟩ : ∃ m, n = m + 1 := ⟨n - 1, by omega⟩
    have hlt : i < l.length := by omega
    have ht := take_lt l hb i (by omega)
    have hp : 256 ^ i ≤ 256 ^ 7 := Nat.pow_le_pow_right (by omega) (by omega)
    have hc := hb l[i] (List.getElem_mem _)
    unfold byteOK at hc
    rw [G215_3_eq, sel_pos (by omega), sel_pos (by omega), sel_pos (by simp only [ofNat_len]; omega), Int.toNat_natCast, getD_of hlt, wrap64 (by omega) (by omega)]
    have e8 : (2 : Int) ^ min (Int.toNat 8) 64 = 256 := by rfl
    obtain ⟨c, hce⟩ := Int.eq_ofNat_of_zero_le hc.1
    have h7 : (256 : Nat) ^ 7 = 72057594037927936 := by rfl
    rw [e8, hce, shl_or (by omega) (by omega)]
    have := ih (i + 1) (by omega) n (by omega)
    rw [List.take_succ_eq_append_getElem (by omega), List.foldl_append] at this
    simp only [List.foldl_cons, List.foldl_nil, hce, Int.toNat_natCast, Int.natCast_add, Int.natCast_one, Int.natCast_mul] at this ⊢
    exact this
theorem G215_is (k : Nat) (hk : 20 < k) (l : List Int) (hl : 8 ≤ l.length) (hb : ∀ c ∈ l, byteOK c) : G215 k (l, ()) = some (((num8 (l.take 8) : Nat) : Int), ()) := by
  have h := G215_3_is k (l.take 8) (by rw [List.length_take]; omega) (fun c hc => hb c (List.mem_of_mem_take hc)) 8 0 (by omega) k (by omega)
  rw [G215_eq, sel_pos (by simp only [ofNat_len]; omega), sel_pos (by simp)]
  have e : List.drop (Int.ofNat 0).toNat (List.take (Int.toNat 8) l) = l.take 8 := rfl
  have e2 : (l.take 8).length = 8 := by rw [List.length_take]; omega
  rw [e, e2]
  simp only [List.take_zero, List.foldl_nil, Int.natCast_zero] at h
  have e3 : Int.ofNat 8 = 8 := rfl
  rw [e3, h, ocall_some]
def readB (b : List Int) : BM × Int × Int :=
  if b.length < 8 then ((0, 0, ()), 0, 2)
  else if (num8 (b.take 8)).testBit 63 = true then
    if b.length < 16 then ((0, 0, ()), 0, 2)
    else if rightB (((num8 (b.take 8) : Nat) : Int), ((num8 ((b.drop 8).take 8) : Nat) : Int), ()) = true then ((((num8 (b.take 8) : Nat) : Int), ((num8 ((b.drop 8).take 8) : Nat) : Int), ()), 16, 0) else ((0, 0, ()), 0, 3)
  else if rightB (((num8 (b.take 8) : Nat) : Int), 0, ()) = true then ((((num8 (b.take 8) : Nat) : Int), 0, ()), 8, 0) else ((0, 0, ()), 0, 3)
theorem num8_good {l : List Int} (h : 8 ≤ l.length) (hb : ∀ c ∈ l, byteOK c) : num8 (l.take 8) < 18446744073709551616 := num8_lt (by rw [List.length_take]; omega) fun c hc => hb c (List.mem_of_mem_take hc)
theorem G193_is (k : Nat) (hk : 20 < k) (b : List Int) (hb : ∀ c ∈ b, byteOK c) : G193 k (b, ()) = some ((readB b).1, (readB b).2.1, (readB b).2.2, ()) := by
  rw [G193_eq]
  unfold readB
  by_cases c8 : b.length < 8
  · rw [sel_pos (by simp only [ofNat_len]; omega), if_pos c8]
  rw [sel_neg (by simp only [ofNat_len]; omega), if_neg c8, G215_is k hk b (by omega) hb, ocall_some]
  have n1 := num8_good (l := b) (by omega) hb
  have g0 : goodB (((num8 (b.take 8) : Nat) : Int), 0, ()) := ⟨⟨by (try simp only []); omega, by (try simp only []); omega⟩, Int.le_refl 0, by show (0 : Int) < _; decide⟩
  rw [G214_is k _ g0 1 (by omega) (by omega), ocall_some]
  have e1 : bitB (((num8 (b.take 8) : Nat) : Int), 0, ()) (Int.toNat 1) = (num8 (b.take 8)).testBit 63 := by simp [bitB]
  rw [e1]
  cases ht : (num8 (b.take 8)).testBit 63 with
  | false =>
    rw [if_neg (by simp), sel_false, G190_is k _ g0, ocall_some]
    cases rightB (((num8 (b.take 8) : Nat) : Int), 0, ()) with
    | false => rw [if_neg (by simp)]; rfl
    | true => rw [if_pos rfl]; rfl
  | true =>
    rw [if_pos rfl, sel_true]
    by_cases c16 : b.length < 16
    · rw [sel_pos (by simp only [ofNat_len]; omega), if_pos c16]
    rw [sel_neg (by simp only [ofNat_len]; omega), if_neg c16, sel_pos (by simp only [ofNat_len]; omega), sel_pos (by simp), sel_pos (by simp)]
    have e : List.drop (Int.toNat 8) (List.take (Int.ofNat b.length).toNat b) = b.drop 8 := by
      rw [show (Int.ofNat b.length).toNat = b.length from rfl, List.take_of_length_le (Nat.le_refl _)]; rfl
    have hb2 : ∀ c ∈ b.drop 8, byteOK c := fun c hc => hb c (List.mem_of_mem_drop hc)
    have hl2 : 8 ≤ (b.drop 8).length := by rw [List.length_drop]; omega
    have n2 := num8_good hl2 hb2
    have g1 : goodB (((num8 (b.take 8) : Nat) : Int), ((num8 ((b.drop 8).take 8) : Nat) : Int), ()) := ⟨⟨by (try simp only []); omega, by (try simp only []); omega⟩, by (try simp only []); omega, by (try simp only []); omega⟩
    rw [e, G215_is k hk _ hl2 hb2, ocall_some]
    (try simp only [])
    rw [G190_is k _ g1, ocall_some]
    cases rightB (((num8 (b.take 8) : Nat) : Int), ((num8 ((b.drop 8).take 8) : Nat) : Int), ()) with
    | false => rw [if_neg (by simp)]; rfl
    | true => rw [if_pos rfl]; rfl
end Go.Proofs.YtjgnpmdbkgeakaaDoor.G
end
section
set_option linter.unusedVariables false
set_option linter.unusedSimpArgs false
set_option maxRecDepth 100000
namespace Go.Proofs.YtjgnpmdbkgeakaaDoor.G
open Go Go.Proofs.YtjgnpmdbkgeakaaDoor Th Bits
theorem sorted_ext : ∀ (a b : List Int), a.Pairwise (· < ·) → b.Pairwise (· < ·) → (∀ x, x ∈ a ↔ x ∈ b) → a = b := by
  intro a
  induction a with
  | nil =>
    intro b _ _ h
    cases b with
    | nil => rfl
    | cons y b => exact absurd ((h y).2 (List.mem_cons_self ..)) (by simp)
  | cons x a ih =>
    intro b ha hb h
    cases b with
    | nil => exact absurd ((h x).1 (List.mem_cons_self ..)) (by simp)
    | cons y b =>
      rw [List.pairwise_cons] at ha hb
      have hxy : x = y := by
        have h1 := (h x).1 (List.mem_cons_self ..)
        have h2 := (h y).2 (List.mem_cons_self ..)
        rcases List.mem_cons.1 h1 with e | e
        · exact e
        · rcases List.mem_cons.1 h2 with e2 | e2
          · exact e2.symm
          · have := hb.1 x e; have := ha.1 y e2; omega
      subst hxy
      rw [ih b ha.2 hb.2 fun z => ?_]
      constructor
      · intro hz
        have hlt := ha.1 z hz
        rcases List.mem_cons.1 ((h z).1 (List.mem_cons_of_mem _ hz)) with e | e
        · omega
        · exact e
      · intro hz
        have hlt := hb.1 z hz
        rcases List.mem_cons.1 ((h z).2 (List.mem_cons_of_mem _ hz)) with e | e
        · omega
        · exact e
theorem nat_ext {x y : Nat} (hx : x < 18446744073709551616) (hy : y < 18446744073709551616) (h : ∀ i, i < 64 → x.testBit i = y.testBit i) : x = y := by
  apply Nat.eq_of_testBit_eq
  intro i
  by_cases c : i < 64
  · exact h i c
  · rw [high_zero hx (by omega), high_zero hy (by omega)]
theorem bit_ext {a b : BM} (ga : goodB a) (gb : goodB b) (h : ∀ n : Nat, 1 ≤ n → n ≤ 128 → bitB a n = bitB b n) : a = b := by
  obtain ⟨ha, la, ⟨⟩⟩ := a
  obtain ⟨hb, lb, ⟨⟩⟩ := b
  obtain ⟨ha, rfl, ha'⟩ := nat_of ga.1
  obtain ⟨la, rfl, la'⟩ := nat_of ga.2
  obtain ⟨hb, rfl, hb'⟩ := nat_of gb.1
  obtain ⟨lb, rfl, lb'⟩ := nat_of gb.2
  have e1 : ha = hb := nat_ext ha' hb' fun i hi => by
    have := h (64 - i) (by omega) (by omega)
    unfold bitB at this
    rw [if_pos (by omega), if_pos (by omega)] at this
    simpa [show 64 - (64 - i) = i by omega] using this
  have e2 : la = lb := nat_ext la' lb' fun i hi => by
    have := h (128 - i) (by omega) (by omega)
    unfold bitB at this
    rw [if_neg (by omega), if_neg (by omega)] at this
    simpa [show 128 - (128 - i) = i by omega] using this
  rw [e1, e2]
theorem low_bits {m : BM} (gm : goodB m) : m.2.1 ≠ 0 ↔ ∃ n : Nat, 65 ≤ n ∧ n ≤ 128 ∧ bitB m n = true := by
  obtain ⟨hi, lo, ⟨⟩⟩ := m
  obtain ⟨lo, rfl, hl⟩ := nat_of gm.2
  constructor
  · intro hz
    have hz' : ¬ lo = 0 := fun e => hz (by rw [e]; rfl)
    apply Classical.byContradiction
    intro hn
    apply hz'
    apply nat_ext hl (by decide)
    intro i hi
    cases ht : lo.testBit i with
    | false => rw [Nat.zero_testBit]
    | true =>
      exfalso
      refine hn ⟨128 - i, by omega, by omega, ?_⟩
      unfold bitB
      rw [if_neg (by omega)]
      simpa [show 128 - (128 - i) = i by omega] using ht
  · rintro ⟨n, h1, h2, h3⟩ hz
    have hz' : lo = 0 := by
      have : (lo : Int) = 0 := hz
      omega
    subst hz'
    unfold bitB at h3
    rw [if_neg (by omega)] at h3
    simp at h3
theorem field_nat {n : Nat} (h1 : 2 ≤ n) (h2 : n ≤ 128) (h3 : n ≠ 65) : fieldB (n : Int) = true := fieldB_iff.2 ⟨by omega, by omega, by omega⟩
theorem has_nat {m : BM} {n : Nat} (h1 : 2 ≤ n) (h2 : n ≤ 128) (h3 : n ≠ 65) : hasB m (n : Int) = bitB m n := by
  unfold hasB
  rw [field_nat h1 h2 h3, Bool.true_and, Int.toNat_natCast]
theorem right_ext {a b : BM} (ga : goodB a) (gb : goodB b) (ra : rightB a = true) (rb : rightB b = true) (h : ∀ x, hasB a x = hasB b x) : a = b := by
  obtain ⟨a1, a2⟩ := rightB_iff.1 ra
  obtain ⟨b1, b2⟩ := rightB_iff.1 rb
  have hbit : ∀ n : Nat, 2 ≤ n → n ≤ 128 → bitB a n = bitB b n := by
    intro n h1 h2
    by_cases c : n = 65
    · subst c; rw [a1, b1]
    · rw [← has_nat h1 h2 c, ← has_nat h1 h2 c, h]
  refine bit_ext ga gb fun n h1 h2 => ?_
  by_cases c : n = 1
  · subst c
    have key : a.2.1 ≠ 0 ↔ b.2.1 ≠ 0 := by
      rw [low_bits ga, low_bits gb]
      exact ⟨fun ⟨n, h1, h2, h3⟩ => ⟨n, h1, h2, by rw [← hbit n (by omega) h2]; exact h3⟩, fun ⟨n, h1, h2, h3⟩ => ⟨n, h1, h2, by rw [hbit n (by omega) h2]; exact h3⟩⟩
    have : bitB a 1 = true ↔ bitB b 1 = true := by rw [a2, b2]; exact key
    cases ha : bitB a 1 <;> cases hb : bitB b 1 <;> simp [ha, hb] at this ⊢
  · exact hbit n (by omega) h2
theorem hasB_set {m : BM} {n : Nat} (h1 : 2 ≤ n) (h2 : n ≤ 128) (h3 : n ≠ 65) (x : Int) : hasB (setB m n) x = (hasB m x || decide (x = n)) := by
  by_cases hf : fieldB x = true
  · obtain ⟨f1, f2, f3⟩ := fieldB_iff.1 hf
    obtain ⟨x, rfl⟩ : ∃ y : Nat, x = y := ⟨x.toNat, by omega⟩
    rw [has_nat (by omega) (by omega) (by omega), has_nat (by omega) (by omega) (by omega), setB_bit (by omega) h2 (by omega) (by omega), decide_eq_false (show ¬ (64 < n ∧ x = 1) by omega), Bool.or_false]
    congr 1
    exact decide_eq_decide.2 (by omega)
  · have hx : ¬ x = n := fun e => hf (by rw [e]; exact field_nat h1 h2 h3)
    unfold hasB
    rw [Bool.eq_false_iff.2 hf, decide_eq_false hx]; rfl
theorem ofB_ok : ∀ (l : List Int) (m : BM), goodB m → rightB m = true → (∀ x ∈ l, fieldB x = true) → (ofB m l).2 = 0 ∧ goodB (ofB m l).1 ∧ rightB (ofB m l).1 = true ∧ ∀ x, hasB (ofB m l).1 x = (hasB m x || decide (x ∈ l)) := by
  intro l
  induction l with
  | nil => intro m gm rm _; exact ⟨rfl, gm, rm, fun x => by simp [ofB]⟩
  | cons n l ih =>
    intro m gm rm hf
    have hn := hf n (List.mem_cons_self ..)
    obtain ⟨f1, f2, f3⟩ := fieldB_iff.1 hn
    obtain ⟨n, rfl⟩ : ∃ m : Nat, n = m := ⟨n.toNat, by omega⟩
    have hp : putB m (n : Int) = (setB m n, 0) := by unfold putB; rw [if_pos ⟨rm, hn⟩]; rfl
    have ho : ofB m ((n : Int) :: l) = ofB (setB m n) l := by
      show (if (putB m (n : Int)).2 = 0 then ofB (putB m (n : Int)).1 l else _) = _
      rw [hp]; rfl
    rw [ho]
    obtain ⟨h1, h2, h3, h4⟩ := ih (setB m n) (setB_good gm (by omega) (by omega)) (setB_right rm (by omega) (by omega) (by omega)) fun x hx => hf x (List.mem_cons_of_mem _ hx)
    refine ⟨h1, h2, h3, fun x => ?_⟩
    rw [h4, hasB_set (by omega) (by omega) (by omega), Bool.or_assoc]
    congr 1
    by_cases c : x = n
    · simp [c]
    · simp [c]
def zeroB : BM := (0, 0, ())
theorem zeroB_good : goodB zeroB := ⟨⟨by decide, by decide⟩, by decide, by decide⟩
theorem zeroB_right : rightB zeroB = true := by rfl
theorem zeroB_has (x : Int) : hasB zeroB x = false := by
  unfold hasB
  have : bitB zeroB x.toNat = false := by unfold bitB zeroB; split <;> simp
  rw [this, Bool.and_false]
theorem hasB_field {m : BM} {x : Int} (h : hasB m x = true) : fieldB x = true := by unfold hasB at h; simp only [Bool.and_eq_true] at h; exact h.1
theorem of_fields {m : BM} (gm : goodB m) (rm : rightB m = true) : ofB zeroB (fieldsB m) = (m, 0) := by
  obtain ⟨h1, h2, h3, h4⟩ := ofB_ok (fieldsB m) zeroB zeroB_good zeroB_right fun x hx => hasB_field ((fieldsB_mem m x).1 hx)
  have : (ofB zeroB (fieldsB m)).1 = m := by
    refine right_ext h2 gm h3 rm fun x => ?_
    rw [h4, zeroB_has, Bool.false_or]
    cases hx : hasB m x with
    | true => exact decide_eq_true ((fieldsB_mem m x).2 hx)
    | false => exact decide_eq_false fun h => by rw [(fieldsB_mem m x).1 h] at hx; cases hx
  exact Prod.ext this h1
theorem fields_of {l : List Int} (hs : l.Pairwise (· < ·)) (hf : ∀ x ∈ l, fieldB x = true) : fieldsB (ofB zeroB l).1 = l := by
  obtain ⟨h1, h2, h3, h4⟩ := ofB_ok l zeroB zeroB_good zeroB_right hf
  refine sorted_ext _ _ (fieldsFrom_sorted _ _ _) hs fun x => ?_
  rw [fieldsB_mem, h4, zeroB_has, Bool.false_or, decide_eq_true_eq]
theorem bytesB_len (m : BM) : (bytesB m).length = if m.2.1 = 0 then 8 else 16 := by unfold bytesB; split <;> simp [be8]
theorem bytesB_bytes (m : BM) : ∀ c ∈ bytesB m, byteOK c := by
  unfold bytesB
  split
  · exact be8_bytes _
  · intro c hc
    rcases List.mem_append.1 hc with h | h
    · exact be8_bytes _ c h
    · exact be8_bytes _ c h
theorem bit_one (hi lo : Nat) : bitB ((hi : Int), (lo : Int), ()) 1 = hi.testBit 63 := by simp [bitB]
theorem take8 (w : Nat) (t : List Int) : (be8 w ++ t).take 8 = be8 w := rfl
theorem read_bytes {m : BM} (gm : goodB m) (rm : rightB m = true) (t : List Int) : readB (bytesB m ++ t) = (m, ((bytesB m).length : Int), 0) := by
  obtain ⟨r1, r2⟩ := rightB_iff.1 rm
  obtain ⟨hi, lo, ⟨⟩⟩ := m
  obtain ⟨hi, rfl, hh⟩ := nat_of gm.1
  obtain ⟨lo, rfl, hl⟩ := nat_of gm.2
  rw [bit_one] at r2
  have r2 : hi.testBit 63 = true ↔ ¬ (lo : Int) = 0 := r2
  have hlen := bytesB_len ((hi : Int), (lo : Int), ())
  unfold readB
  by_cases hz : (lo : Int) = 0
  · have hb : bytesB ((hi : Int), (lo : Int), ()) = be8 hi := if_pos hz
    have ht : (be8 hi ++ t).take 8 = be8 hi := take8 _ _
    have h63 : ¬ hi.testBit 63 = true := fun h => r2.1 h hz
    rw [hb, ht, num8_be8 hh, if_neg (by rw [List.length_append, be8_len]; omega), if_neg h63]
    have e0 : lo = 0 := by omega
    subst e0
    have rm' : rightB ((hi : Int), 0, ()) = true := rm
    rw [if_pos rm']; rfl
  · have hb : bytesB ((hi : Int), (lo : Int), ()) = be8 hi ++ be8 lo := if_neg hz
    have ht : ((be8 hi ++ be8 lo) ++ t).take 8 = be8 hi := by rw [List.append_assoc, take8]
    have hd : (((be8 hi ++ be8 lo) ++ t).drop 8).take 8 = be8 lo := by
      rw [List.append_assoc, show (be8 hi ++ (be8 lo ++ t)).drop 8 = be8 lo ++ t from rfl, take8]
    rw [hb, ht, hd, num8_be8 hh, num8_be8 hl, if_neg (by simp only [List.length_append, be8_len]; omega), if_pos (r2.2 hz), if_neg (by simp only [List.length_append, be8_len]; omega), if_pos rm]
    rfl
theorem bytes_read {b : List Int} (hb : ∀ c ∈ b, byteOK c) (h : (readB b).2.2 = 0) : ∃ n : Nat, (readB b).2.1 = n ∧ n ≤ b.length ∧ 8 ≤ n ∧ goodB (readB b).1 ∧ rightB (readB b).1 = true ∧ bytesB (readB b).1 = b.take n := by
  unfold readB at h ⊢
  by_cases c8 : b.length < 8
  · rw [if_pos c8] at h; exact absurd h (by decide)
  rw [if_neg c8] at h ⊢
  have n1 := num8_good (l := b) (by omega) hb
  have hbt : ∀ c ∈ b.take 8, byteOK c := fun c hc => hb c (List.mem_of_mem_take hc)
  have hl1 : (b.take 8).length = 8 := by rw [List.length_take]; omega
  by_cases ht : (num8 (b.take 8)).testBit 63 = true
  · rw [if_pos ht] at h ⊢
    by_cases c16 : b.length < 16
    · rw [if_pos c16] at h; exact absurd h (by decide)
    rw [if_neg c16] at h ⊢
    by_cases hr : rightB (((num8 (b.take 8) : Nat) : Int), ((num8 ((b.drop 8).take 8) : Nat) : Int), ()) = true
    · rw [if_pos hr]
      have hb2 : ∀ c ∈ b.drop 8, byteOK c := fun c hc => hb c (List.mem_of_mem_drop hc)
      have hl2 : 8 ≤ (b.drop 8).length := by rw [List.length_drop]; omega
      have n2 := num8_good hl2 hb2
      refine ⟨16, rfl, by omega, by omega, ⟨⟨by (try simp only []); omega, by (try simp only []); omega⟩, by (try simp only []); omega, by (try simp only []); omega⟩, hr, ?_⟩
      have hz := (rightB_iff.1 hr).2.1 (by rw [bit_one]; exact ht)
      unfold bytesB
      rw [if_neg hz]
      simp only [Int.toNat_natCast]
      rw [be8_num8 hl1 hbt, be8_num8 (by rw [List.length_take]; omega) (fun c hc => hb2 c (List.mem_of_mem_take hc)), ← List.take_add]
    · rw [if_neg hr] at h; exact absurd h (by decide)
  · rw [if_neg ht] at h ⊢
    by_cases hr : rightB (((num8 (b.take 8) : Nat) : Int), 0, ()) = true
    · rw [if_pos hr]
      refine ⟨8, rfl, by omega, by omega, ⟨⟨by (try simp only []); omega, by (try simp only []); omega⟩, Int.le_refl 0, by show (0 : Int) < _; decide⟩, hr, ?_⟩
      unfold bytesB
      rw [if_pos rfl]
      simp only [Int.toNat_natCast]
      exact be8_num8 hl1 hbt
    · rw [if_neg hr] at h; exact absurd h (by decide)
end Go.Proofs.YtjgnpmdbkgeakaaDoor.G
end
section
set_option linter.unusedVariables false
set_option linter.unusedSimpArgs false
set_option maxRecDepth 100000
namespace Go.Proofs.YtjgnpmdbkgeakaaDoor.G
open Go Go.Proofs.YtjgnpmdbkgeakaaDoor Th Bits
def fieldW (x : Item) : List UInt8 := match defOf x.1 with
  | some d => writeF d x.2.1
  | none => []
def tailM : List Item → List UInt8
  | [] => []
  | x :: l => fieldW x ++ tailM l
def bmM (l : List Item) : BM := (ofB zeroB (l.map (·.1))).1
def writeM (m : Msg) : List Int := toBytes m.1 ++ (bytesB (bmM m.2.1) ++ toBytes (tailM m.2.1))
theorem right_def {n : Int} {s : Txt} (h : rightF n s = true) : ∃ d, defOf n = some d ∧ sized d s.length = true ∧ signs d s = true := by
  cases hd : defOf n with
  | none => unfold rightF at h; rw [hd] at h; cases h
  | some d => rw [rightF_some hd] at h; simp only [Bool.and_eq_true] at h; exact ⟨d, rfl, h⟩
theorem def_field {n : Int} {d : Def} (h : defOf n = some d) : fieldB n = true := by
  obtain ⟨hm, he⟩ := defOf_mem h
  have h1 := D_all d hm
  have h2 : ∀ d ∈ D, d.1 ≠ 65 := by decide
  exact fieldB_iff.2 ⟨by omega, by omega, fun e => h2 d hm (by omega)⟩
theorem fieldW_some {x : Item} {d : Def} (h : defOf x.1 = some d) : fieldW x = writeF d x.2.1 := by unfold fieldW; rw [h]
theorem fieldW_len {x : Item} (h : rightF x.1 x.2.1 = true) : 1 ≤ (fieldW x).length ∧ (fieldW x).length ≤ 1002 := by
  obtain ⟨d, hd, hs, _⟩ := right_def h
  rw [fieldW_some hd, writeF_len]
  have := sized_le (defOf_mem hd).1 hs
  rcases ahead_cases (kind := d.2.1) with e | e | e <;> omega
theorem items_ok : ∀ (l : List Item) (last : Int), itemsOK last l = true → (∀ x ∈ l, rightF x.1 x.2.1 = true) ∧ (l.map (·.1)).Pairwise (· < ·) ∧ ∀ x ∈ l, last < x.1 := by
  intro l
  induction l with
  | nil => intro last _; exact ⟨fun x hx => absurd hx (by simp), by simp, fun x hx => absurd hx (by simp)⟩
  | cons y l ih =>
    intro last h
    simp only [itemsOK, Bool.and_eq_true, decide_eq_true_eq] at h
    obtain ⟨⟨h1, h2⟩, h3⟩ := h
    obtain ⟨i1, i2, i3⟩ := ih y.1 h3
    refine ⟨fun x hx => ?_, ?_, fun x hx => ?_⟩
    · rcases List.mem_cons.1 hx with rfl | hx
      · exact h2
      · exact i1 x hx
    · rw [List.map_cons, List.pairwise_cons]
      refine ⟨fun a ha => ?_, i2⟩
      obtain ⟨x, hx, rfl⟩ := List.mem_map.1 ha
      exact i3 x hx
    · rcases List.mem_cons.1 hx with rfl | hx
      · exact h1
      · have := i3 x hx; omega
theorem items_back : ∀ (l : List Item) (last : Int), (∀ x ∈ l, rightF x.1 x.2.1 = true) → (l.map (·.1)).Pairwise (· < ·) → (∀ x ∈ l, last < x.1) → itemsOK last l = true := by
  intro l
  induction l with
  | nil => intro last _ _ _; rfl
  | cons y l ih =>
    intro last h1 h2 h3
    rw [List.map_cons, List.pairwise_cons] at h2
    simp only [itemsOK, Bool.and_eq_true, decide_eq_true_eq]
    exact ⟨⟨h3 y (List.mem_cons_self ..), h1 y (List.mem_cons_self ..)⟩, ih y.1 (fun x hx => h1 x (List.mem_cons_of_mem _ hx)) h2.2 fun x hx => h2.1 x.1 (List.mem_map.2 ⟨x, hx, rfl⟩)⟩
theorem msg_parts {m : Msg} : msgRight m = true ↔ itemsOK 0 m.2.1 = true ∧ knownT m.1 = true ∧ 0 < m.2.1.length := by
  unfold msgRight; simp [and_assoc]
theorem known_len {s : Txt} (h : knownT s = true) : s.length = 4 := by
  unfold knownT KT at h
  simp only [List.contains_cons, List.contains_nil, Bool.or_false, Bool.or_eq_true, beq_iff_eq] at h
  rcases h with h | h | h | h | h | h | h <;> rw [h] <;> rfl
theorem tailM_len : ∀ (l : List Item), (∀ x ∈ l, rightF x.1 x.2.1 = true) → (tailM l).length ≤ l.length * 1002 := by
  intro l
  induction l with
  | nil => intro _; simp [tailM]
  | cons y l ih =>
    intro h
    have := ih fun x hx => h x (List.mem_cons_of_mem _ hx)
    have := fieldW_len (h y (List.mem_cons_self ..))
    simp only [tailM, List.length_append, List.length_cons]; omega
theorem G79_6_is (k : Nat) (hk : 1200 < k) (typ : Txt) (l0 l : List Item) (hl : l.length ≤ 1000) (hr : ∀ x ∈ l, rightF x.1 x.2.1 = true) : ∀ (j i : Nat), i + j = l.length → ∀ (fs tl : List Int), fs.length ≤ i → tl.length ≤ i * 1002 → ∀ n, j < n →
    G79_6 k n (fs, tl, l, (l.length : Int), (i : Int), typ, l0, ()) = some (fs ++ (l.drop i).map (·.1), tl ++ toBytes (tailM (l.drop i)), typ, l0, ()) := by
  intro j
  induction j with
  | zero =>
    intro i hij fs tl h1 h2 n hn
    obtain ⟨n, rfl⟩ : ∃ m, n = m + 1 := ⟨n - 1, by omega⟩
    rw [G79_6_eq, sel_neg (by omega), List.drop_eq_nil_of_le (by omega)]
    simp [tailM, toBytes]
  | succ j ih =>
    intro i hij fs tl h1 h2 n hn
    obtain ⟨n, rfl⟩ : ∃ m, n = m + 1 := ⟨n - 1, by omega⟩
    have hlt : i < l.length := by omega
    have hx := hr l[i] (List.getElem_mem _)
    obtain ⟨d, hd, hs, _⟩ := right_def hx
    have hz := sized_le (defOf_mem hd).1 hs
    have hw := fieldW_len hx
    have next := fun fs tl a b => ih (i + 1) (by omega) fs tl a b n (by omega)
    rw [G79_6_eq, sel_pos (by omega), sel_pos (by omega), sel_pos (by simp only [ofNat_len]; omega)]
    simp only [Int.toNat_natCast, getD_of hlt]
    rw [G139_is k (by omega) l[i].1 d hd l[i].2.1 (by omega) (by omega), if_pos hx, ocall_some, ← fieldW_some hd]
    simp only [toBytes_len]
    rw [sel_pos (by omega), sel_pos (by omega), wrap64 (by omega) (by omega), show (i : Int) + 1 = ((i + 1 : Nat) : Int) by omega,
      next _ _ (by simp only [List.length_append, List.length_cons, List.length_nil]; omega) (by simp only [List.length_append, toBytes_len]; omega), List.drop_eq_getElem_cons hlt]
    simp only [List.map_cons, tailM, toBytes, List.map_append, List.append_assoc, List.cons_append, List.nil_append]
theorem bm_ok {l : List Item} (h : itemsOK 0 l = true) : ofB zeroB (l.map (·.1)) = (bmM l, 0) ∧ goodB (bmM l) ∧ rightB (bmM l) = true ∧ fieldsB (bmM l) = l.map (·.1) := by
  obtain ⟨h1, h2, _⟩ := items_ok l 0 h
  have hf : ∀ x ∈ l.map (·.1), fieldB x = true := by
    intro a ha
    obtain ⟨x, hx, rfl⟩ := List.mem_map.1 ha
    obtain ⟨d, hd, _⟩ := right_def (h1 x hx)
    exact def_field hd
  obtain ⟨o1, o2, o3, _⟩ := ofB_ok (l.map (·.1)) zeroB zeroB_good zeroB_right hf
  exact ⟨Prod.ext rfl o1, o2, o3, fields_of h2 hf⟩
theorem bytesB_le (m : BM) : (bytesB m).length ≤ 16 := by rw [bytesB_len]; split <;> omega
theorem G79_is (k : Nat) (hk : 1200 < k) (typ : Txt) (l : List Item) (hl : l.length ≤ 1000) (hx : ∀ x ∈ l, x.2.1.length ≤ maxLen ∧ x.2.1.length < k) :
    G79 k ((typ, l, ()), ()) = some (if msgRight (typ, l, ()) = true then (writeM (typ, l, ()), 0, ()) else ([], 1, ())) := by
  rw [G79_eq, G44_is k (by omega) typ l (by omega) (by omega) hx, ocall_some]
  by_cases hr : msgRight (typ, l, ()) = true
  case neg => rw [if_neg hr, Bool.eq_false_iff.2 hr]; rfl
  rw [if_pos hr, hr]
  simp only [Bool.not_true, sel_false, ofNat_len]
  obtain ⟨h1, h2, h3⟩ := msg_parts.1 hr
  obtain ⟨i1, _, _⟩ := items_ok l 0 h1
  obtain ⟨o1, o2, o3, _⟩ := bm_ok h1
  have hw := G79_6_is k hk typ l l hl i1 l.length 0 (by omega) [] [] (by simp) (by simp) k (by omega)
  rw [List.drop_zero, Int.natCast_zero, List.nil_append, List.nil_append] at hw
  rw [hw, ocall_some]
  (try simp only [])
  have hO := G140_is k (l.map (·.1)) (by simp; omega) (by simp; omega)
  have ez : ((0, 0, ()) : BM) = zeroB := rfl
  rw [ez, o1] at hO
  rw [hO, ocall_some]
  (try simp only [])
  have hB := G141_is k (by omega) (bmM l) o2
  rw [if_pos o3] at hB
  have eb : (((bmM l).1, (bmM l).2.1, ()) : BM) = bmM l := rfl
  rw [eb, hB, ocall_some]
  (try simp only [])
  have ht := tailM_len l i1
  have hk4 : typ.length = 4 := known_len h2
  rw [G142_is k _ (by simp) (by simp; omega) (by
    simp only [lenSum, toBytes_len]
    have := bytesB_le (bmM l)
    omega), ocall_some]
  simp [writeM]
end Go.Proofs.YtjgnpmdbkgeakaaDoor.G
end
section
set_option linter.unusedVariables false
set_option linter.unusedSimpArgs false
set_option maxRecDepth 100000
namespace Go.Proofs.YtjgnpmdbkgeakaaDoor.G
open Go Go.Proofs.YtjgnpmdbkgeakaaDoor Th Bits
def zeroM : Msg := ([], [], ())
def rdF (n : Int) (b : List Int) : List UInt8 × Int × Int := match defOf n with
  | some d => readF d (ofBytes b)
  | none => ([], 0, 5)
def readI : List Int → List Int → List Item × List Int × Int
  | [], b => ([], b, 0)
  | n :: l, b => if (rdF n b).2.2 = 0 then
      (if (readI l (b.drop (rdF n b).2.1.toNat)).2.2 = 0 then ((n, (rdF n b).1, ()) :: (readI l (b.drop (rdF n b).2.1.toNat)).1, (readI l (b.drop (rdF n b).2.1.toNat)).2.1, 0) else ([], [], (readI l (b.drop (rdF n b).2.1.toNat)).2.2))
    else ([], [], (rdF n b).2.2)
def readM (b : List Int) : Msg × Int :=
  if b.length < 4 then (zeroM, 2)
  else if knownT (ofBytes (b.take 4)) = true then
    (if (readB (b.drop 4)).2.2 = 0 then
      (if fieldsB (readB (b.drop 4)).1 = [] then (zeroM, 3)
       else if (readI (fieldsB (readB (b.drop 4)).1) (b.drop (4 + (readB (b.drop 4)).2.1.toNat))).2.2 = 0 then
         (if (readI (fieldsB (readB (b.drop 4)).1) (b.drop (4 + (readB (b.drop 4)).2.1.toNat))).2.1 = [] then ((ofBytes (b.take 4), (readI (fieldsB (readB (b.drop 4)).1) (b.drop (4 + (readB (b.drop 4)).2.1.toNat))).1, ()), 0) else (zeroM, 4))
       else (zeroM, (readI (fieldsB (readB (b.drop 4)).1) (b.drop (4 + (readB (b.drop 4)).2.1.toNat))).2.2))
     else (zeroM, (readB (b.drop 4)).2.2))
  else (zeroM, 3)
theorem G144_rd (k : Nat) (hk : 1100 < k) (n : Int) (b : List Int) (hb : b.length ≤ 9223372036854775807) : G144 k (n, b, ()) = some ((rdF n b).1, (rdF n b).2.1, (rdF n b).2.2, ()) := by
  unfold rdF
  cases hd : defOf n with
  | none => exact G144_none k (by omega) n b hd
  | some d => exact G144_is k hk n d hd b hb
theorem rd_ok {n : Int} {b : List Int} (h : (rdF n b).2.2 = 0) : ∃ (d : Def) (j : Nat), defOf n = some d ∧ (rdF n b).2.1 = j ∧ 0 < j ∧ j ≤ b.length ∧ rightF n (rdF n b).1 = true ∧ fieldW (n, (rdF n b).1, ()) = (ofBytes b).take j := by
  unfold rdF at h ⊢
  cases hd : defOf n with
  | none => rw [hd] at h; exact absurd h (by simp)
  | some d =>
    rw [hd] at h
    obtain ⟨j, e1, e2, e3, e4, e5, e6⟩ := read_back (defOf_mem hd).1 (ofBytes b) h
    refine ⟨d, j, rfl, e1, e2, by rw [ofBytes_len] at e3; exact e3, by rw [rightF_some hd]; simp [e4, e5], ?_⟩
    exact (fieldW_some (x := (n, _, ())) hd).trans e6
theorem G80_8_is (k : Nat) (hk : 1200 < k) (a : Txt) (b0 : List Item) (typ : Txt) (fs : List Int) (hf : fs.length ≤ 200) : ∀ (j i : Nat), i + j = fs.length → ∀ (b : List Int) (acc : List Item), b.length ≤ 1000000000 → acc.length ≤ i → ∀ n, j < n →
    G80_8 k n (b, fs, (fs.length : Int), (i : Int), a, b0, typ, acc, ()) =
      some (if (readI (fs.drop i) b).2.2 = 0 then .inl ((readI (fs.drop i) b).2.1, a, b0, typ, acc ++ (readI (fs.drop i) b).1, ()) else .inr ((readI (fs.drop i) b).2.2, [], [], ())) := by
  intro j
  induction j with
  | zero =>
    intro i hij b acc hb ha n hn
    obtain ⟨n, rfl⟩ : ∃ m, n = m + 1 := ⟨n - 1, by omega⟩
    rw [G80_8_eq, sel_neg (by omega), List.drop_eq_nil_of_le (by omega)]
    simp [readI]
  | succ j ih =>
    intro i hij b acc hb ha n hn
    obtain ⟨n, rfl⟩ : ∃ m, n = m + 1 := ⟨n - 1, by omega⟩
    have hlt : i < fs.length := by omega
    rw [G80_8_eq, sel_pos (by omega), sel_pos (by omega), sel_pos (by simp only [ofNat_len]; omega)]
    simp only [Int.toNat_natCast, getD_of hlt]
    rw [sel_pos hlt, G144_rd k (by omega) _ _ (by omega), ocall_some]
    have hcons := List.drop_eq_getElem_cons hlt
    by_cases he : (rdF fs[i] b).2.2 = 0
    · rw [sel_not, sel_pos he]
      obtain ⟨d, j', e1, e2, e3, e4, _⟩ := rd_ok he
      simp only [ofNat_len, Int.toNat_natCast, List.take_length]
      rw [sel_pos (by omega), sel_pos (by omega), sel_pos (by omega), sel_pos (Int.le_refl _), sel_pos (Int.le_refl _), wrap64 (by omega) (by omega), show (i : Int) + 1 = ((i + 1 : Nat) : Int) by omega,
        ih (i + 1) (by omega) (b.drop (rdF fs[i] b).2.1.toNat) (acc ++ [(fs[i], (rdF fs[i] b).1, ())]) (by rw [List.length_drop]; omega) (by simp; omega) n (by omega)]
      by_cases h2 : (readI (fs.drop (i + 1)) (b.drop (rdF fs[i] b).2.1.toNat)).2.2 = 0
      · have hv : readI (fs.drop i) b = ((fs[i], (rdF fs[i] b).1, ()) :: (readI (fs.drop (i + 1)) (b.drop (rdF fs[i] b).2.1.toNat)).1, (readI (fs.drop (i + 1)) (b.drop (rdF fs[i] b).2.1.toNat)).2.1, 0) := by
          rw [hcons]; show (if _ then _ else _) = _; rw [if_pos he, if_pos h2]
        rw [hv, if_pos h2, if_pos rfl]; simp
      · have hv : readI (fs.drop i) b = ([], [], (readI (fs.drop (i + 1)) (b.drop (rdF fs[i] b).2.1.toNat)).2.2) := by
          rw [hcons]; show (if _ then _ else _) = _; rw [if_pos he, if_neg h2]
        rw [hv, if_neg h2, if_neg h2]
    · have hv : readI (fs.drop i) b = ([], [], (rdF fs[i] b).2.2) := by
        rw [hcons]; show (if _ then _ else _) = _; rw [if_neg he]
      rw [sel_not, sel_neg he, hv, if_neg he]
theorem readB_size (b : List Int) : (readB b).2.1 = 0 ∨ ((readB b).2.1 = 8 ∧ 8 ≤ b.length) ∨ ((readB b).2.1 = 16 ∧ 16 ≤ b.length) := by
  unfold readB
  by_cases c8 : b.length < 8
  · rw [if_pos c8]; exact .inl rfl
  rw [if_neg c8]
  split
  · by_cases c16 : b.length < 16
    · rw [if_pos c16]; exact .inl rfl
    rw [if_neg c16]
    split
    · exact .inr (.inr ⟨rfl, by omega⟩)
    · exact .inl rfl
  · split
    · exact .inr (.inl ⟨rfl, by omega⟩)
    · exact .inl rfl
theorem readB_bad {b : List Int} (h : (readB b).2.2 ≠ 0) : (readB b).1 = zeroB := by
  unfold readB at h ⊢
  split
  · rfl
  rename_i c8
  rw [if_neg c8] at h
  split
  · rename_i c1
    rw [if_pos c1] at h
    split
    · rfl
    rename_i c16
    rw [if_neg c16] at h
    split
    · rename_i c2; rw [if_pos c2] at h; exact absurd rfl h
    · rfl
  · rename_i c1
    rw [if_neg c1] at h
    split
    · rename_i c2; rw [if_pos c2] at h; exact absurd rfl h
    · rfl
theorem readB_good {b : List Int} (hb : ∀ c ∈ b, byteOK c) : goodB (readB b).1 := by
  by_cases h : (readB b).2.2 = 0
  · obtain ⟨n, _, _, _, hg, _⟩ := bytes_read hb h; exact hg
  · rw [readB_bad h]; exact zeroB_good
theorem fieldsB_len (m : BM) : (fieldsB m).length ≤ 127 := fieldsFrom_len m 127 2
theorem start4 (b : List Int) : List.drop (Int.ofNat 0).toNat (List.take (Int.toNat 4) b) = b.take 4 := rfl
theorem all_of_b (b : List Int) : List.take (Int.ofNat b.length).toNat b = b := by rw [show (Int.ofNat b.length).toNat = b.length from rfl, List.take_of_length_le (Nat.le_refl _)]
theorem G143_is (k : Nat) (hk : 1200 < k) (b : List Int) (hb : ∀ c ∈ b, byteOK c) (hl : b.length ≤ 1000000000) : G143 k (b, ()) =
    some (if b.length < 4 then ([], [], [], 2, ()) else if knownT (ofBytes (b.take 4)) = true then (ofBytes (b.take 4), fieldsB (readB (b.drop 4)).1, b.drop (4 + (readB (b.drop 4)).2.1.toNat), (readB (b.drop 4)).2.2, ()) else ([], [], [], 3, ())) := by
  rw [G143_eq]
  by_cases c4 : b.length < 4
  · rw [sel_pos (by simp only [ofNat_len]; omega), if_pos c4]
  rw [sel_neg (by simp only [ofNat_len]; omega), if_neg c4]
  have p4 : (4 : Int) ≤ Int.ofNat b.length := by simp only [ofNat_len]; omega
  rw [sel_pos p4, sel_pos (Int.le_refl _), start4, G121_is, ocall_some]
  cases hkn : knownT (ofBytes (b.take 4)) with
  | false => rw [if_neg (by simp)]; rfl
  | true =>
  rw [if_pos rfl]
  simp only [Bool.not_true, sel_false]
  have hb4 : ∀ c ∈ b.drop 4, byteOK c := fun c hc => hb c (List.mem_of_mem_drop hc)
  rw [sel_pos p4, sel_pos (Int.le_refl _), sel_pos (Int.le_refl _), all_of_b, show Int.toNat 4 = 4 from rfl, G193_is k (by omega) _ hb4, ocall_some, sel_pos p4, sel_pos (Int.le_refl _)]
  have hF := G194_is k (by omega) (readB (b.drop 4)).1 (readB_good hb4)
  have er : (((readB (b.drop 4)).1.1, (readB (b.drop 4)).1.2.1, ()) : BM) = (readB (b.drop 4)).1 := rfl
  (try simp only [])
  rw [er, hF, ocall_some]
  have hs := readB_size (b.drop 4)
  rw [List.length_drop] at hs
  have hw : IntKind.i64.wrap (4 + (readB (b.drop 4)).2.1) = 4 + (readB (b.drop 4)).2.1 := wrap64 (by omega) (by omega)
  have ht : (4 + (readB (b.drop 4)).2.1).toNat = 4 + (readB (b.drop 4)).2.1.toNat := by omega
  rw [hw, ht, sel_pos (by omega), sel_pos (by simp only [ofNat_len]; omega), sel_pos (Int.le_refl _), sel_pos (Int.le_refl _)]
theorem G80_is (k : Nat) (hk : 1200 < k) (b : List Int) (hb : ∀ c ∈ b, byteOK c) (hl : b.length ≤ 1000000000) : G80 k (b, ()) = some ((readM b).1, (readM b).2, ()) := by
  rw [G80_eq, G143_is k hk b hb hl, ocall_some]
  unfold readM
  by_cases c4 : b.length < 4
  · rw [if_pos c4, if_pos c4]; rfl
  rw [if_neg c4, if_neg c4]
  cases hkn : knownT (ofBytes (b.take 4)) with
  | false => rw [if_neg (by simp), if_neg (by simp)]; rfl
  | true =>
  rw [if_pos rfl, if_pos rfl]
  (try simp only [])
  by_cases he : (readB (b.drop 4)).2.2 = 0
  case neg => rw [if_neg he, sel_not, sel_neg he]; rfl
  rw [if_pos he, sel_not, sel_pos he]
  have hfl := fieldsB_len (readB (b.drop 4)).1
  generalize fieldsB (readB (b.drop 4)).1 = fs at hfl
  by_cases hz : fs = []
  · rw [if_pos hz, sel_pos (by rw [hz]; rfl)]; rfl
  have hpos : 0 < fs.length := List.length_pos_iff.2 hz
  rw [if_neg hz, sel_neg (by simp only [ofNat_len]; omega)]
  have h8 := G80_8_is k hk [] [] (ofBytes (b.take 4)) fs (by omega) fs.length 0 (by omega) (b.drop (4 + (readB (b.drop 4)).2.1.toNat)) [] (by rw [List.length_drop]; omega) (by simp) k (by omega)
  rw [List.drop_zero, Int.natCast_zero, List.nil_append] at h8
  simp only [ofNat_len]
  rw [h8, ocall_some]
  generalize readI fs (b.drop (4 + (readB (b.drop 4)).2.1.toNat)) = r
  obtain ⟨its, rest, e⟩ := r
  (try simp only [])
  by_cases hr : e = 0
  · rw [if_pos hr, if_pos hr, esel_inl]
    by_cases hz2 : rest = []
    · rw [if_pos hz2, sel_neg (by rw [hz2]; simp)]
    · have : 0 < rest.length := List.length_pos_iff.2 hz2
      rw [if_neg hz2, sel_pos (show (0 : Int) < rest.length by omega)]; rfl
  · rw [if_neg hr, if_neg hr, esel_inr]; rfl
end Go.Proofs.YtjgnpmdbkgeakaaDoor.G
end
section
set_option linter.unusedVariables false
set_option linter.unusedSimpArgs false
set_option maxRecDepth 100000
namespace Go.Proofs.YtjgnpmdbkgeakaaDoor.G
open Go Go.Proofs.YtjgnpmdbkgeakaaDoor Th Bits
theorem readI_cons (n : Int) (l : List Int) (b : List Int) : readI (n :: l) b = if (rdF n b).2.2 = 0 then
      (if (readI l (b.drop (rdF n b).2.1.toNat)).2.2 = 0 then ((n, (rdF n b).1, ()) :: (readI l (b.drop (rdF n b).2.1.toNat)).1, (readI l (b.drop (rdF n b).2.1.toNat)).2.1, 0) else ([], [], (readI l (b.drop (rdF n b).2.1.toNat)).2.2))
    else ([], [], (rdF n b).2.2) := rfl
end Go.Proofs.YtjgnpmdbkgeakaaDoor.G
end
section
set_option linter.unusedVariables false
set_option linter.unusedSimpArgs false
set_option maxRecDepth 100000
namespace Go.Proofs.YtjgnpmdbkgeakaaDoor.G
open Go Go.Proofs.YtjgnpmdbkgeakaaDoor Th Bits
theorem toBytes_ofBytes : ∀ (b : List Int), (∀ c ∈ b, byteOK c) → toBytes (ofBytes b) = b := by
  intro b
  induction b with
  | nil => intro _; rfl
  | cons c b ih =>
    intro h
    have h1 := h c (List.mem_cons_self ..)
    have h2 := ih fun c hc => h c (List.mem_cons_of_mem _ hc)
    unfold byteOK at h1
    simp only [ofBytes, toBytes, List.map_cons, List.map_map] at h2 ⊢
    rw [h2]
    congr 1
    simp
    omega
theorem toBytes_ok (s : List UInt8) : ∀ c ∈ toBytes s, byteOK c := by
  intro c hc
  obtain ⟨x, _, rfl⟩ := List.mem_map.1 hc
  have := x.toNat_lt
  unfold byteOK; omega
theorem toBytes_app (s t : List UInt8) : toBytes (s ++ t) = toBytes s ++ toBytes t := by simp [toBytes]
theorem toBytes_inj {s t : List UInt8} (h : toBytes s = toBytes t) : s = t := by rw [← ofBytes_toBytes s, h, ofBytes_toBytes]
theorem writeM_ok (m : Msg) : ∀ c ∈ writeM m, byteOK c := by
  intro c hc
  unfold writeM at hc
  rcases List.mem_append.1 hc with h | h
  · exact toBytes_ok _ c h
  rcases List.mem_append.1 h with h | h
  · exact bytesB_bytes _ c h
  · exact toBytes_ok _ c h
theorem rdF_write {x : Item} (h : rightF x.1 x.2.1 = true) (t : List UInt8) : rdF x.1 (toBytes (fieldW x ++ t)) = (x.2.1, ((fieldW x).length : Int), 0) := by
  obtain ⟨d, hd, hs, hg⟩ := right_def h
  unfold rdF
  rw [hd, fieldW_some hd]
  simp only [ofBytes_toBytes]
  exact read_write (defOf_mem hd).1 _ t hs hg
theorem readI_ok {n : Int} {l b : List Int} (h1 : (rdF n b).2.2 = 0) (h2 : (readI l (b.drop (rdF n b).2.1.toNat)).2.2 = 0) :
    readI (n :: l) b = ((n, (rdF n b).1, ()) :: (readI l (b.drop (rdF n b).2.1.toNat)).1, (readI l (b.drop (rdF n b).2.1.toNat)).2.1, 0) := by rw [readI_cons, if_pos h1, if_pos h2]
theorem drop_field (x : Item) (t : List UInt8) : (toBytes (fieldW x ++ t)).drop (((fieldW x).length : Int)).toNat = toBytes t := by
  rw [Int.toNat_natCast, toBytes_drop, List.drop_left]
theorem readI_tail : ∀ (l : List Item), (∀ x ∈ l, rightF x.1 x.2.1 = true) → ∀ t, readI (l.map (·.1)) (toBytes (tailM l ++ t)) = (l, toBytes t, 0) := by
  intro l
  induction l with
  | nil => intro _ t; rfl
  | cons x l ih =>
    intro h t
    have e := rdF_write (h x (List.mem_cons_self ..)) (tailM l ++ t)
    have i := ih (fun x hx => h x (List.mem_cons_of_mem _ hx)) t
    have eb : tailM (x :: l) ++ t = fieldW x ++ (tailM l ++ t) := by simp [tailM]
    have hd : (toBytes (fieldW x ++ (tailM l ++ t))).drop (rdF x.1 (toBytes (fieldW x ++ (tailM l ++ t)))).2.1.toNat = toBytes (tailM l ++ t) := by rw [e]; exact drop_field x _
    rw [eb, List.map_cons, readI_ok (by rw [e]) (by rw [hd, i]), hd, i, e]
theorem write_parts {m : Msg} (h : msgRight m = true) (t : List UInt8) : (writeM m ++ toBytes t).take 4 = toBytes m.1 ∧ (writeM m ++ toBytes t).drop 4 = bytesB (bmM m.2.1) ++ toBytes (tailM m.2.1 ++ t) ∧ 4 ≤ (writeM m ++ toBytes t).length := by
  obtain ⟨_, h2, _⟩ := msg_parts.1 h
  have h4 : (toBytes m.1).length = 4 := by rw [toBytes_len]; exact known_len h2
  unfold writeM
  refine ⟨?_, ?_, by simp only [List.length_append]; omega⟩
  · rw [List.append_assoc, List.take_append_of_le_length (by omega), List.take_of_length_le (by omega)]
  · rw [List.append_assoc, List.drop_append, List.drop_of_length_le (by omega), h4]
    simp [toBytes_app]
theorem read_write_more {m : Msg} (h : msgRight m = true) (t : List UInt8) : readM (writeM m ++ toBytes t) = if t = [] then (m, 0) else (zeroM, 4) := by
  obtain ⟨w1, w2, w3⟩ := write_parts h t
  obtain ⟨h1, h2, h3⟩ := msg_parts.1 h
  obtain ⟨i1, _, _⟩ := items_ok m.2.1 0 h1
  obtain ⟨o1, o2, o3, o4⟩ := bm_ok h1
  have hrb := read_bytes o2 o3 (toBytes (tailM m.2.1 ++ t))
  unfold readM
  rw [if_neg (by omega), w1, w2, ofBytes_toBytes, if_pos h2, hrb]
  (try simp only [])
  rw [if_pos trivial, o4, if_neg (fun e => by
    have : m.2.1.length = 0 := by have := congrArg List.length e; simpa using this
    omega)]
  have hd : (writeM m ++ toBytes t).drop (4 + (((bytesB (bmM m.2.1)).length : Int)).toNat) = toBytes (tailM m.2.1 ++ t) := by
    rw [← List.drop_drop, w2, Int.toNat_natCast, List.drop_left]
  rw [hd, readI_tail m.2.1 i1 t, if_pos rfl]
  obtain ⟨typ, l, ⟨⟩⟩ := m
  by_cases ht : t = []
  · rw [if_pos ht, ht]; exact if_pos rfl
  · have hne : ¬ toBytes t = [] := fun e => ht (toBytes_inj (t := []) e)
    rw [if_neg ht]; exact if_neg hne
theorem read_write_msg {m : Msg} (h : msgRight m = true) : readM (writeM m) = (m, 0) := by
  have := read_write_more h []
  rw [if_pos rfl] at this
  simpa [toBytes] using this
theorem writeM_len (m : Msg) : (writeM m).length = m.1.length + ((bytesB (bmM m.2.1)).length + (tailM m.2.1).length) := by
  unfold writeM; simp only [List.length_append, toBytes_len]
theorem readI_back : ∀ (fs b : List Int), (∀ c ∈ b, byteOK c) → (readI fs b).2.2 = 0 →
    (readI fs b).1.map (·.1) = fs ∧ (∀ x ∈ (readI fs b).1, rightF x.1 x.2.1 = true) ∧ toBytes (tailM (readI fs b).1) ++ (readI fs b).2.1 = b := by
  intro fs
  induction fs with
  | nil => intro b _ _; exact ⟨rfl, fun x hx => absurd hx (by simp [readI]), rfl⟩
  | cons n fs ih =>
    intro b hb h
    rw [readI_cons] at h ⊢
    by_cases he : (rdF n b).2.2 = 0
    · rw [if_pos he] at h ⊢
      by_cases h2 : (readI fs (b.drop (rdF n b).2.1.toNat)).2.2 = 0
      · rw [if_pos h2]
        obtain ⟨d, j, e1, e2, e3, e4, e5, e6⟩ := rd_ok he
        obtain ⟨k1, k2, k3⟩ := ih _ (fun c hc => hb c (List.mem_of_mem_drop hc)) h2
        refine ⟨by simp only [List.map_cons, k1], fun x hx => ?_, ?_⟩
        · rcases List.mem_cons.1 hx with rfl | hx
          · exact e5
          · exact k2 x hx
        · simp only [tailM, toBytes_app, List.append_assoc]
          rw [k3, e6, e2, Int.toNat_natCast, ← ofBytes_take, toBytes_ofBytes _ (fun c hc => hb c (List.mem_of_mem_take hc)), List.take_append_drop]
      · rw [if_neg h2] at h; exact absurd h h2
    · rw [if_neg he] at h; exact absurd h he
theorem write_read_msg {b : List Int} (hb : ∀ c ∈ b, byteOK c) (h : (readM b).2 = 0) : msgRight (readM b).1 = true ∧ writeM (readM b).1 = b ∧ (readM b).1.2.1.length ≤ 127 := by
  unfold readM at h ⊢
  by_cases c4 : b.length < 4
  · rw [if_pos c4] at h; exact absurd h (by decide)
  rw [if_neg c4] at h ⊢
  by_cases ck : knownT (ofBytes (b.take 4)) = true
  case neg => rw [if_neg ck] at h; exact absurd h (by decide)
  rw [if_pos ck] at h ⊢
  by_cases cb : (readB (b.drop 4)).2.2 = 0
  case neg => rw [if_neg cb] at h; exact absurd h cb
  rw [if_pos cb] at h ⊢
  by_cases cf : fieldsB (readB (b.drop 4)).1 = []
  · rw [if_pos cf] at h; exact absurd h (by decide)
  rw [if_neg cf] at h ⊢
  have hb4 : ∀ c ∈ b.drop 4, byteOK c := fun c hc => hb c (List.mem_of_mem_drop hc)
  obtain ⟨n, n1, n2, n3, n4, n5, n6⟩ := bytes_read hb4 cb
  have hbi : ∀ c ∈ b.drop (4 + (readB (b.drop 4)).2.1.toNat), byteOK c := fun c hc => hb c (List.mem_of_mem_drop hc)
  have hback := readI_back (fieldsB (readB (b.drop 4)).1) _ hbi
  by_cases ci : (readI (fieldsB (readB (b.drop 4)).1) (b.drop (4 + (readB (b.drop 4)).2.1.toNat))).2.2 = 0
  case neg => rw [if_neg ci] at h; exact absurd h ci
  rw [if_pos ci] at h ⊢
  obtain ⟨k1, k2, k3⟩ := hback ci
  generalize readI (fieldsB (readB (b.drop 4)).1) (b.drop (4 + (readB (b.drop 4)).2.1.toNat)) = r at h k1 k2 k3 ⊢
  obtain ⟨its, rest, e⟩ := r
  (try simp only [] at h k1 k2 k3 ⊢)
  by_cases cr : rest = []
  case neg => rw [if_neg cr] at h; exact absurd h (by decide)
  rw [if_pos cr]
  subst cr
  have hfl := fieldsB_len (readB (b.drop 4)).1
  have hlen : its.length = (fieldsB (readB (b.drop 4)).1).length := by rw [← k1, List.length_map]
  have hpos : 0 < (fieldsB (readB (b.drop 4)).1).length := List.length_pos_iff.2 cf
  have hio : itemsOK 0 its = true := items_back its 0 k2 (by rw [k1]; exact fieldsFrom_sorted _ _ _) fun x hx => by
    obtain ⟨d, hd, _⟩ := right_def (k2 x hx)
    have := fieldB_iff.1 (def_field hd)
    omega
  refine ⟨msg_parts.2 ⟨hio, ck, by (try simp only []); omega⟩, ?_, by (try simp only []); omega⟩
  have hbm : bmM its = (readB (b.drop 4)).1 := by
    unfold bmM
    rw [k1, of_fields n4 n5]
  unfold writeM
  (try simp only [])
  rw [hbm, n6, toBytes_ofBytes _ (fun c hc => hb c (List.mem_of_mem_take hc))]
  rw [List.append_nil] at k3
  rw [k3, n1, Int.toNat_natCast, ← List.drop_drop, List.take_append_drop, List.take_append_drop]
end Go.Proofs.YtjgnpmdbkgeakaaDoor.G
end
section
set_option linter.unusedVariables false
set_option linter.unusedSimpArgs false
set_option maxRecDepth 100000
namespace Go.Proofs.YtjgnpmdbkgeakaaDoor.G
open Go Go.Proofs.YtjgnpmdbkgeakaaDoor Th Bits
theorem shortS (k : Nat) (d : Deal) : G24 k (d, ()) = some (decide (lens 300 d), ()) := by
  obtain ⟨kind, pan, amt, stan, rrn, code, ⟨⟩⟩ := d
  rw [G24_eq]
  simp only [ofNat_len]
  by_cases h : lens 300 (kind, pan, amt, stan, rrn, code, ())
  · have h1 : pan.length ≤ 300 := h.1
    have h2 : rrn.length ≤ 300 := h.2.1
    have h3 : code.length ≤ 300 := h.2.2
    rw [sel_pos (by omega), sel_pos (by omega), decide_eq_true h, decide_eq_true (show (code.length : Int) ≤ 300 by omega)]
  · rw [decide_eq_false h]
    by_cases h1 : pan.length ≤ 300
    · rw [sel_pos (by omega)]
      by_cases h2 : rrn.length ≤ 300
      · have h3 : ¬ code.length ≤ 300 := fun e => h ⟨h1, h2, e⟩
        rw [sel_pos (by omega), decide_eq_false (show ¬ (code.length : Int) ≤ 300 by omega)]
      · rw [sel_neg (by omega)]
    · rw [sel_neg (by omega)]
theorem fw_le {n kind size : Int} {s : Txt} (hd : defOf n = some (n, kind, size, ())) (h : rightF n s = true) : ((fieldW (n, s, ())).length : Int) ≤ 3 + size := by
  obtain ⟨d, hd', hs, _⟩ := right_def h
  rw [hd] at hd'
  cases hd'
  have hw := fieldW_some (x := (n, s, ())) hd
  have hl := writeF_len (n, kind, size, ()) s
  have hz : (s.length : Int) ≤ size := by
    unfold sized at hs
    split at hs
    · have := of_decide_eq_true hs; (try simp only [] at this); omega
    · simp only [Bool.and_eq_true, decide_eq_true_eq] at hs; exact hs.2
  rw [hw, hl]
  rcases ahead_cases (kind := kind) with e | e | e <;> rw [show G.ahead (n, kind, size, ()).2.1 = G.ahead kind from rfl, e] <;> omega
theorem deal_size {d : Deal} (hg : goodD d) (h : dealOK d = true) : (writeM (typeK d.1, itemsK d, ())).length ≤ 200 := by
  have hm := ok_right hg h
  obtain ⟨h1, h2, h3⟩ := msg_parts.1 hm
  have hi : ∀ x ∈ itemsK d, rightF x.1 x.2.1 = true := (items_ok _ 0 h1).1
  have h4 : (typeK d.1).length = 4 := known_len h2
  have hb := bytesB_le (bmM (itemsK d))
  have ht : (tailM (itemsK d)).length ≤ 150 := by
    obtain ⟨kind, pan, amt, stan, rrn, code, ⟨⟩⟩ := d
    unfold itemsK at hi ⊢
    (try simp only [] at hi ⊢)
    by_cases ca : asksK kind = true
    · rw [if_pos ca] at hi ⊢
      have a1 : ((fieldW (2, pan, ())).length : Int) ≤ 3 + 19 := fw_le (n := 2) (kind := 3) (size := 19) rfl (hi (2, pan, ()) (by simp))
      have a2 : ((fieldW (4, amtT amt, ())).length : Int) ≤ 3 + 12 := fw_le (n := 4) (kind := 1) (size := 12) rfl (hi (4, amtT amt, ()) (by simp))
      have a3 : ((fieldW (11, stanT stan, ())).length : Int) ≤ 3 + 6 := fw_le (n := 11) (kind := 1) (size := 6) rfl (hi (11, stanT stan, ()) (by simp))
      have a4 : ((fieldW (37, rrn, ())).length : Int) ≤ 3 + 12 := fw_le (n := 37) (kind := 2) (size := 12) rfl (hi (37, rrn, ()) (by simp))
      by_cases c5 : 5 ≤ kind
      · rw [if_pos c5] at hi ⊢
        have a5 : ((fieldW (90, originT stan, ())).length : Int) ≤ 3 + 42 := fw_le (n := 90) (kind := 1) (size := 42) rfl (hi (90, originT stan, ()) (by simp))
        simp only [List.cons_append, List.nil_append, tailM, List.length_append, List.length_nil]; omega
      · rw [if_neg c5]
        simp only [List.append_nil, tailM, List.length_append, List.length_nil]; omega
    · rw [if_neg ca] at hi ⊢
      have a3 : ((fieldW (11, stanT stan, ())).length : Int) ≤ 3 + 6 := fw_le (n := 11) (kind := 1) (size := 6) rfl (hi (11, stanT stan, ()) (by simp))
      have a4 : ((fieldW (37, rrn, ())).length : Int) ≤ 3 + 12 := fw_le (n := 37) (kind := 2) (size := 12) rfl (hi (37, rrn, ()) (by simp))
      have a5 : ((fieldW (39, code, ())).length : Int) ≤ 3 + 2 := fw_le (n := 39) (kind := 2) (size := 2) rfl (hi (39, code, ()) (by simp))
      simp only [tailM, List.length_append, List.length_nil]; omega
  rw [writeM_len]
  (try simp only [])
  omega
theorem readD_val {m : Msg} (h : (readD m).2 = 0) : (readD m).1 = deM m := by
  unfold readD at h ⊢
  split
  · rename_i h1
    rw [if_pos h1] at h
    split
    · rename_i h2
      rw [if_pos h2] at h
      split
      · rename_i h3; rw [if_pos h3] at h; exact absurd h (by decide)
      · rename_i h3
        rw [if_neg h3] at h
        split
        · rename_i h4; rw [if_pos h4] at h; exact absurd h (by decide)
        · rfl
    · rename_i h2; rw [if_neg h2] at h; exact absurd h (by decide)
  · rename_i h1; rw [if_neg h1] at h; exact absurd h (by decide)
theorem right_len {m : Msg} (h : msgRight m = true) : ∀ x ∈ m.2.1, x.2.1.length ≤ 999 := by
  intro x hx
  obtain ⟨d, hd, hs, _⟩ := right_def ((items_ok m.2.1 0 (msg_parts.1 h).1).1 x hx)
  exact (sized_le (defOf_mem hd).1 hs).2
theorem readDeal (k : Nat) (hk : 2000 < k) (m : Msg) (h : msgRight m = true) (hl : m.2.1.length ≤ 200) : G40 k (m, ()) = some ((readD m).1, (readD m).2, ()) := by
  obtain ⟨typ, l, ⟨⟩⟩ := m
  have hl' : l.length ≤ 200 := hl
  exact G40_is k hk typ l (by omega) fun x hx => by have := right_len h x hx; omega
theorem deM_lens {m : Msg} (h : msgRight m = true) : lens 1000 (deM m) := by
  have hx : ∀ x ∈ m.2.1, x.2.1.length ≤ 1000 := fun x hx => by have := right_len h x hx; omega
  exact ⟨getM_len 2 1000 _ hx, getM_len 37 1000 _ hx, getM_len 39 1000 _ hx⟩
def sendM (d : Deal) : Msg := (typeK d.1, itemsK d, ())
def sendB (d : Deal) : List Int := writeM (sendM d)
theorem send_right {d : Deal} (gd : goodD d) (h : dealOK d = true) : msgRight (sendM d) = true := ok_right gd h
theorem send_bytes (d : Deal) : ∀ c ∈ sendB d, byteOK c := writeM_ok _
theorem send_size {d : Deal} (gd : goodD d) (h : dealOK d = true) : (sendB d).length ≤ 200 := deal_size gd h
theorem sendMsg (k : Nat) (hk : 2000 < k) {d : Deal} (gd : goodD d) (h : dealOK d = true) : G79 k (sendM d, ()) = some (sendB d, 0, ()) := by
  have hxl := right_len (send_right gd h)
  have hil := itemsK_len d
  have hW := G79_is k (by omega) (typeK d.1) (itemsK d) (by omega) (fun x hx => by have := hxl x hx; rw [maxLen_eq]; omega)
  rw [if_pos (show msgRight (typeK d.1, itemsK d, ()) = true from send_right gd h)] at hW
  exact hW
theorem sendDealL (k L : Nat) (hL : L ≤ 1000000) (hk : L + 100 < k) (d : Deal) (gd : goodD d) (hl : lens L d) : G37 k (d, ()) = some (if dealOK d = true then (sendM d, 0, ()) else (([], [], ()), 1, ())) := G37_is k L hL hk d hl gd
theorem send_read {d : Deal} (gd : goodD d) (h : dealOK d = true) : readM (sendB d) = (sendM d, 0) ∧ readD (sendM d) = (d, 0) := ⟨read_write_msg (send_right gd h), read_write_deal gd h⟩
theorem send_inj {d e : Deal} (gd : goodD d) (ge : goodD e) (h : dealOK d = true) (h' : dealOK e = true) : sendB d = sendB e ↔ d = e := by
  refine ⟨fun x => ?_, fun x => by rw [x]⟩
  obtain ⟨a1, a2⟩ := send_read gd h
  obtain ⟨b1, b2⟩ := send_read ge h'
  rw [x, b1] at a1
  rw [← (Prod.mk.inj a1).1, b2] at a2
  exact (Prod.mk.inj a2).1.symm
theorem send_pos {d : Deal} (gd : goodD d) (h : dealOK d = true) : 1 ≤ (sendB d).length := by
  unfold sendB
  rw [writeM_len, show (sendM d).1.length = 4 from known_len (msg_parts.1 (send_right gd h)).2.1]
  omega
theorem readD_err (m : Msg) : (readD m).2 = 0 ∨ (readD m).1 = zeroD := by
  unfold readD
  repeat' split
  all_goals first | exact .inl rfl | exact .inr rfl
end Go.Proofs.YtjgnpmdbkgeakaaDoor.G
end
section
set_option maxRecDepth 1000000
set_option linter.unusedVariables false
set_option linter.unusedSimpArgs false
namespace Go.Proofs.YtjgnpmdbkgeakaaDoor.G
open Go Go.Proofs.YtjgnpmdbkgeakaaDoor Th
noncomputable def G150 (k : Nat) (v : List Int × Unit) : Option (Int × Unit) := F150 k v
theorem G150_eq (k : Nat) (v0 : List Int) : G150 k (v0, ()) = sel (decide (Int.ofNat v0.length < 2)) (some (0, ())) (sel (decide (0 < Int.ofNat v0.length)) (sel (decide (1 < Int.ofNat v0.length)) (sel (decide (bits BinOp.or IntKind.i64 (IntKind.i64.wrap (IntKind.i64.wrap (v0.getD
 (Int.toNat 0) 0) * 2 ^ min (Int.toNat 8) 64)) (IntKind.i64.wrap (v0.getD (Int.toNat 1) 0)) = 0)) (sel (decide (bits BinOp.or IntKind.i64 (IntKind.i64.wrap (IntKind.i64.wrap (v0.getD (Int.toNat 0) 0) * 2 ^ min (Int.toNat 8) 64)) (IntKind.i64.wrap (v0.getD (Int.toNat 1) 0)) = 0)) (some ((-1 : Int),
 ())) (sel (decide (Int.ofNat v0.length < IntKind.i64.wrap (2 + bits BinOp.or IntKind.i64 (IntKind.i64.wrap (IntKind.i64.wrap (v0.getD (Int.toNat 0) 0) * 2 ^ min (Int.toNat 8) 64)) (IntKind.i64.wrap (v0.getD (Int.toNat 1) 0))))) (some (0, ())) (some (IntKind.i64.wrap (2 + bits
 BinOp.or IntKind.i64 (IntKind.i64.wrap (IntKind.i64.wrap (v0.getD (Int.toNat 0) 0) * 2 ^ min (Int.toNat 8) 64)) (IntKind.i64.wrap (v0.getD (Int.toNat 1) 0))), ())))) (sel (decide (2048 < bits BinOp.or IntKind.i64 (IntKind.i64.wrap (IntKind.i64.wrap (v0.getD (Int.toNat 0) 0) * 2 ^ min
 (Int.toNat 8) 64)) (IntKind.i64.wrap (v0.getD (Int.toNat 1) 0)))) (some ((-1 : Int), ())) (sel (decide (Int.ofNat v0.length < IntKind.i64.wrap (2 + bits BinOp.or IntKind.i64 (IntKind.i64.wrap (IntKind.i64.wrap (v0.getD (Int.toNat 0) 0) * 2 ^ min (Int.toNat 8) 64)) (IntKind.i64.wrap (v0.getD
 (Int.toNat 1) 0))))) (some (0, ())) (some (IntKind.i64.wrap (2 + bits BinOp.or IntKind.i64 (IntKind.i64.wrap (IntKind.i64.wrap (v0.getD (Int.toNat 0) 0) * 2 ^ min (Int.toNat 8) 64)) (IntKind.i64.wrap (v0.getD (Int.toNat 1) 0))), ()))))) none) none) := by kernel_rfl
noncomputable def G87 (k : Nat) (v : (List Int × Bool × Unit) × Unit) : Option (Bool × Unit) := F87 k v
theorem G87_eq (k : Nat) (v0 : List Int) (v1 : Bool) : G87 k ((v0, v1, ()), ()) = sel v1 (some (decide (Int.ofNat v0.length = 0), ())) (ocall (G150 k (v0, ())) fun r => some (decide (r.1 = 0), ())) := by kernel_rfl
noncomputable def G147 (k : Nat) (v : List Int) : Option (List Int × Unit) := F147 k v
theorem G147_eq (k : Nat) (v0 : List Int) : G147 k v0 = sel (decide ((0 + v0.length) * 1 ≤ 140737488355328)) (some (v0, ())) none := by kernel_rfl
noncomputable def G88_g0 (k : Nat) (j : Nat) (v : List Int × List (List Int) × List Int × Bool × Unit) : Option (List (List Int) × Int × List Int × Bool × Unit) := F88_g0 k j v
theorem G88_g0_eq (k : Nat) (j : Nat) (v0 : List Int) (v1 : List (List Int)) (v2 : List Int) (v3 : Bool) : G88_g0 k (j + 1) (v0, v1, v2, v3, ()) = ocall (G150 k (v0, ())) fun r => sel (decide (0 < r.1)) (sel (decide (2 ≤ r.1)) (sel (decide (r.1 ≤ r.1)) (sel (decide (r.1 ≤ Int.ofNat
 v0.length)) (sel (decide ((v1.length + 1) * 24 ≤ 140737488355328)) (sel (decide (0 ≤ r.1)) (sel (decide (r.1 ≤ Int.ofNat v0.length)) (sel (decide (Int.ofNat v0.length ≤ Int.ofNat v0.length)) (sel (decide (Int.ofNat v0.length ≤ Int.ofNat v0.length)) (G88_g0 k j (List.drop r.1.toNat (List.take
 (Int.ofNat v0.length).toNat v0), v1 ++ [List.drop (Int.toNat 2) (List.take r.1.toNat v0)], v2, v3, ())) none) none) none) none) none) none) none) none) (sel (decide (r.1 < 0)) (some (v1, 12, [], true, ())) (ocall (G147 k v0) fun r => some (v1, 0, r.1, false, ()))) := by
 kernel_rfl
noncomputable def G88 (k : Nat) (v : (List Int × Bool × Unit) × List Int × Unit) : Option ((List Int × Bool × Unit) × List (List Int) × Int × Unit) := F88 k v
theorem G88_eq (k : Nat) (v0 : List Int) (v1 : Bool) (v2 : List Int) : G88 k ((v0, v1, ()), v2, ()) = ocall (G87 k ((v0, v1, ()), ())) fun r => sel (!r.1) (some ((v0, v1, ()), [], 1, ())) (sel v1 (some ((v0, v1, ()), [], 12, ())) (ocall
 (G142 k ([v0, v2], ())) fun r => ocall (G150 k (r.1, ())) fun r_1 => sel (decide (0 < r_1.1)) (sel (decide (2 ≤ r_1.1)) (sel (decide (r_1.1 ≤ r_1.1)) (sel (decide (r_1.1 ≤ Int.ofNat r.1.length)) (sel (decide (0 ≤ r_1.1)) (sel (decide (r_1.1 ≤ Int.ofNat r.1.length)) (sel (decide
 (Int.ofNat r.1.length ≤ Int.ofNat r.1.length)) (sel (decide (Int.ofNat r.1.length ≤ Int.ofNat r.1.length)) (ocall (G88_g0 k k (List.drop r_1.1.toNat (List.take (Int.ofNat r.1.length).toNat r.1), [List.drop (Int.toNat 2) (List.take r_1.1.toNat r.1)], [], false, ())) fun e => some ((e.2.2.1,
 e.2.2.2.1, ()), e.1, e.2.1, ())) none) none) none) none) none) none) none) (sel (decide (r_1.1 < 0)) (some (([], true, ()), [], 12, ())) (ocall (G147 k r.1) fun r => some ((r.1, false, ()), [], 0, ()))))) := by kernel_rfl
end Go.Proofs.YtjgnpmdbkgeakaaDoor.G
end
section
set_option linter.unusedVariables false
set_option linter.unusedSimpArgs false
set_option maxRecDepth 100000
namespace Go.Proofs.YtjgnpmdbkgeakaaDoor.G
open Go Go.Proofs.YtjgnpmdbkgeakaaDoor Th Bits
abbrev Reader := List Int × Bool × Unit
def hdrN (b : List Int) : Int := 256 * b.getD 0 0 + b.getD 1 0
def firstF (b : List Int) : Int := if b.length < 2 then 0 else if hdrN b = 0 ∨ 2048 < hdrN b then -1 else if (b.length : Int) < 2 + hdrN b then 0 else 2 + hdrN b
def rightR (r : Reader) : Bool := if r.2.1 = true then decide (r.1.length = 0) else decide (firstF r.1 = 0)
theorem hdrN_ok {b : List Int} (hb : ∀ c ∈ b, byteOK c) (h2 : 2 ≤ b.length) : ∃ x y : Nat, b.getD 0 0 = x ∧ b.getD 1 0 = y ∧ x < 256 ∧ y < 256 ∧ hdrN b = ((256 * x + y : Nat) : Int) := by
  have h0 : b.getD 0 0 = b[0] := getD_of (show 0 < b.length by omega) 0
  have h1 : b.getD 1 0 = b[1] := getD_of (show 1 < b.length by omega) 0
  have b0 := hb b[0] (List.getElem_mem _)
  have b1 := hb b[1] (List.getElem_mem _)
  unfold byteOK at b0 b1
  obtain ⟨x, hx⟩ := Int.eq_ofNat_of_zero_le b0.1
  obtain ⟨y, hy⟩ := Int.eq_ofNat_of_zero_le b1.1
  refine ⟨x, y, by rw [h0, hx], by rw [h1, hy], by omega, by omega, ?_⟩
  unfold hdrN
  rw [h0, h1, hx, hy]; omega
theorem or_hdr {x y : Nat} (hx : x < 256) (hy : y < 256) : bits .or .i64 (IntKind.i64.wrap (IntKind.i64.wrap (x : Int) * 256)) (IntKind.i64.wrap (y : Int)) = ((256 * x + y : Nat) : Int) := by
  rw [wrap64 (n := (x : Int)) (by omega) (by omega), show (x : Int) * 256 = ((x * 256 : Nat) : Int) by omega, wrap64 (by omega) (by omega), wrap64 (by omega) (by omega)]
  have hb : (x * 256 ||| y) < 2 ^ 64 := Nat.or_lt_two_pow (by omega) (by omega)
  have e : (BitVec.ofInt 64 ((x * 256 : Nat) : Int) ||| BitVec.ofInt 64 (y : Int)).toNat = (x * 256 ||| y) := by
    rw [BitVec.toNat_or, BitVec.ofInt_natCast, BitVec.ofInt_natCast, BitVec.toNat_ofNat, BitVec.toNat_ofNat, Nat.mod_eq_of_lt (by omega), Nat.mod_eq_of_lt (by omega)]
  have h8 := Nat.shiftLeft_add_eq_or_of_lt (b := y) (i := 8) (by omega) x
  rw [Nat.shiftLeft_eq] at h8
  show IntKind.i64.wrap (((BitVec.ofInt 64 ((x * 256 : Nat) : Int) ||| BitVec.ofInt 64 (y : Int)).toNat : Nat) : Int) = _
  rw [e, ← h8, wrap64 (by omega) (by omega)]
  omega
theorem G150_is (k : Nat) (b : List Int) (hb : ∀ c ∈ b, byteOK c) (hl : b.length ≤ 1000000000000) : G150 k (b, ()) = some (firstF b, ()) := by
  rw [G150_eq]
  unfold firstF
  simp only [ofNat_len]
  by_cases c2 : b.length < 2
  · rw [sel_pos (by omega), if_pos c2]
  obtain ⟨x, y, e0, e1, hx, hy, hh⟩ := hdrN_ok hb (by omega)
  have e8 : (2 : Int) ^ min (Int.toNat 8) 64 = 256 := by rfl
  have ez : Int.toNat 0 = 0 := rfl
  have eo : Int.toNat 1 = 1 := rfl
  rw [sel_neg (by omega), if_neg c2, sel_pos (by omega), sel_pos (by omega), hh]
  simp only [e8, ez, eo, e0, e1, or_hdr hx hy]
  rw [wrap64 (n := 2 + _) (by omega) (by omega)]
  by_cases h0 : ((256 * x + y : Nat) : Int) = 0
  · rw [sel_pos h0, sel_pos h0, if_pos (.inl h0)]
  rw [sel_neg h0]
  by_cases h1 : 2048 < ((256 * x + y : Nat) : Int)
  · rw [sel_pos h1, if_pos (.inr h1)]
  rw [sel_neg h1, if_neg (by omega)]
  by_cases h3 : (b.length : Int) < 2 + ((256 * x + y : Nat) : Int)
  · rw [sel_pos h3, if_pos h3]
  · rw [sel_neg h3, if_neg h3]
theorem G87_is (k : Nat) (r : Reader) (hb : ∀ c ∈ r.1, byteOK c) (hl : r.1.length ≤ 1000000000000) : G87 k (r, ()) = some (rightR r, ()) := by
  obtain ⟨rest, br, ⟨⟩⟩ := r
  rw [G87_eq]
  unfold rightR
  cases br with
  | true =>
    rw [sel_true, if_pos rfl]
    simp only [ofNat_len]
    rw [show decide (((rest.length : Nat) : Int) = 0) = decide (rest.length = 0) from decide_eq_decide.2 (by omega)]
  | false => rw [sel_false, if_neg (by simp), G150_is k rest hb hl, ocall_some]
def feedF : Nat → List Int → List (List Int) × List Int × Bool
  | 0, all => ([], all, false)
  | k + 1, all => if 0 < firstF all then ((all.take (firstF all).toNat).drop 2 :: (feedF k (all.drop (firstF all).toNat)).1, (feedF k (all.drop (firstF all).toNat)).2)
    else if firstF all < 0 then ([], [], true) else ([], all, false)
def feedA (all : List Int) : List (List Int) × List Int × Bool := feedF (all.length + 1) all
theorem first_pos {b : List Int} (hb : ∀ c ∈ b, byteOK c) (h : 0 < firstF b) : 3 ≤ (firstF b).toNat ∧ (firstF b).toNat ≤ b.length ∧ firstF b = 2 + hdrN b ∧ 1 ≤ hdrN b ∧ hdrN b ≤ 2048 ∧ 2 ≤ b.length := by
  unfold firstF at h ⊢
  by_cases c2 : b.length < 2
  · rw [if_pos c2] at h; omega
  obtain ⟨x, y, e0, e1, hx, hy, hh⟩ := hdrN_ok hb (by omega)
  rw [if_neg c2] at h ⊢
  by_cases c3 : hdrN b = 0 ∨ 2048 < hdrN b
  · rw [if_pos c3] at h; omega
  rw [if_neg c3] at h ⊢
  by_cases c4 : (b.length : Int) < 2 + hdrN b
  · rw [if_pos c4] at h; omega
  rw [if_neg c4]
  omega
theorem bytes_drop {b : List Int} (hb : ∀ c ∈ b, byteOK c) (n : Nat) : ∀ c ∈ b.drop n, byteOK c := fun c hc => hb c (List.mem_of_mem_drop hc)
theorem bytes_app {a b : List Int} (ha : ∀ c ∈ a, byteOK c) (hb : ∀ c ∈ b, byteOK c) : ∀ c ∈ a ++ b, byteOK c := fun c hc => (List.mem_append.1 hc).elim (ha c) (hb c)
theorem feedF_same : ∀ (n : Nat) (all : List Int), (∀ c ∈ all, byteOK c) → all.length ≤ n → ∀ k k', all.length < k → all.length < k' → feedF k all = feedF k' all := by
  intro n
  induction n with
  | zero =>
    intro all hb h k k' hk hk'
    have : all = [] := List.eq_nil_of_length_eq_zero (by omega)
    subst this
    obtain ⟨k, rfl⟩ : ∃ m, k = m + 1 := ⟨k - 1, by omega⟩
    obtain ⟨k', rfl⟩ : ∃ m, k' = m + 1 := ⟨k' - 1, by omega⟩
    rfl
  | succ n ih =>
    intro all hb h k k' hk hk'
    obtain ⟨k, rfl⟩ : ∃ m, k = m + 1 := ⟨k - 1, by omega⟩
    obtain ⟨k', rfl⟩ : ∃ m, k' = m + 1 := ⟨k' - 1, by omega⟩
    by_cases c : 0 < firstF all
    · have hf := first_pos hb c
      have := ih (all.drop (firstF all).toNat) (bytes_drop hb _) (by rw [List.length_drop]; omega) k k' (by rw [List.length_drop]; omega) (by rw [List.length_drop]; omega)
      show (if 0 < firstF all then _ else _) = (if 0 < firstF all then _ else _)
      rw [if_pos c, if_pos c, this]
    · show (if 0 < firstF all then _ else _) = (if 0 < firstF all then _ else _)
      rw [if_neg c, if_neg c]
theorem feedA_eq {all : List Int} (hb : ∀ c ∈ all, byteOK c) : feedA all = if 0 < firstF all then ((all.take (firstF all).toNat).drop 2 :: (feedA (all.drop (firstF all).toNat)).1, (feedA (all.drop (firstF all).toNat)).2)
    else if firstF all < 0 then ([], [], true) else ([], all, false) := by
  unfold feedA
  show (if 0 < firstF all then _ else _) = _
  by_cases c : 0 < firstF all
  · have hf := first_pos hb c
    rw [if_pos c, if_pos c, feedF_same all.length (all.drop (firstF all).toNat) (bytes_drop hb _) (by rw [List.length_drop]; omega) all.length ((all.drop (firstF all).toNat).length + 1) (by rw [List.length_drop]; omega) (by omega)]
  · rw [if_neg c, if_neg c]
theorem feedA_pos {all : List Int} (hb : ∀ c ∈ all, byteOK c) (h : 0 < firstF all) : feedA all = ((all.take (firstF all).toNat).drop 2 :: (feedA (all.drop (firstF all).toNat)).1, (feedA (all.drop (firstF all).toNat)).2) := by rw [feedA_eq hb, if_pos h]
theorem feedA_neg {all : List Int} (hb : ∀ c ∈ all, byteOK c) (h : firstF all < 0) : feedA all = ([], [], true) := by rw [feedA_eq hb, if_neg (by omega), if_pos h]
theorem feedA_zero {all : List Int} (hb : ∀ c ∈ all, byteOK c) (h : firstF all = 0) : feedA all = ([], all, false) := by rw [feedA_eq hb, if_neg (by omega), if_neg (by omega)]
theorem first_cases (b : List Int) (hb : ∀ c ∈ b, byteOK c) : firstF b = 0 ∨ firstF b = -1 ∨ 0 < firstF b := by
  unfold firstF
  by_cases c2 : b.length < 2
  · rw [if_pos c2]; exact .inl rfl
  obtain ⟨x, y, e0, e1, hx, hy, hh⟩ := hdrN_ok hb (by omega)
  rw [if_neg c2]
  split
  · exact .inr (.inl rfl)
  split
  · exact .inl rfl
  · right; right; omega
def feedR (r : Reader) (b : List Int) : Reader × List (List Int) × Int :=
  if rightR r = true then
    (if r.2.1 = true then (r, [], 12)
     else if (feedA (r.1 ++ b)).2.2 = true then (([], true, ()), (feedA (r.1 ++ b)).1, 12) else (((feedA (r.1 ++ b)).2.1, false, ()), (feedA (r.1 ++ b)).1, 0))
  else (r, [], 1)
theorem cloneB (k : Nat) (l : List Int) (hl : l.length ≤ 1000000000000) : G147 k l = some (l, ()) := by
  rw [G147_eq, sel_pos (by omega)]
theorem G88_g0_is (k : Nat) : ∀ (n : Nat) (all : List Int), all.length ≤ n → (∀ c ∈ all, byteOK c) → all.length ≤ 1000000000 → ∀ (out : List (List Int)), out.length + all.length ≤ 1000000000 → ∀ c, n < c →
    G88_g0 k c (all, out, [], false, ()) = some (if (feedA all).2.2 = true then (out ++ (feedA all).1, 12, [], true, ()) else (out ++ (feedA all).1, 0, (feedA all).2.1, false, ())) := by
  intro n
  induction n with
  | zero =>
    intro all hn hb hl out ho c hc
    obtain ⟨c, rfl⟩ : ∃ m, c = m + 1 := ⟨c - 1, by omega⟩
    have : all = [] := List.eq_nil_of_length_eq_zero (by omega)
    subst this
    have h0 : firstF [] = 0 := rfl
    rw [G88_g0_eq, G150_is k [] hb (by omega), ocall_some, feedA_zero hb h0, if_neg (by simp)]
    simp only [h0]
    rw [sel_neg (by omega), sel_neg (by omega), cloneB k [] (by simp), ocall_some, List.append_nil]
  | succ n ih =>
    intro all hn hb hl out ho c hc
    obtain ⟨c, rfl⟩ : ∃ m, c = m + 1 := ⟨c - 1, by omega⟩
    rw [G88_g0_eq, G150_is k all hb (by omega), ocall_some]
    simp only [ofNat_len]
    rcases first_cases all hb with h | h | h
    · rw [feedA_zero hb h, if_neg (by simp), sel_neg (by omega), sel_neg (by omega), cloneB k all (by omega), ocall_some, List.append_nil]
    · rw [feedA_neg hb (by omega), if_pos rfl, sel_neg (by omega), sel_pos (by omega), List.append_nil]
    · have hf := first_pos hb h
      rw [sel_pos h, sel_pos (by omega), sel_pos (Int.le_refl _), sel_pos (by omega), sel_pos (by omega), sel_pos (by omega), sel_pos (by omega), sel_pos (Int.le_refl _), sel_pos (Int.le_refl _), Int.toNat_natCast, List.take_of_length_le (Nat.le_refl all.length),
        ih _ (by rw [List.length_drop]; omega) (bytes_drop hb _) (by rw [List.length_drop]; omega) _ (by rw [List.length_append, List.length_drop]; simp; omega) c (by omega), feedA_pos hb h]
      have e2 : Int.toNat 2 = 2 := rfl
      rw [e2]
      by_cases hq : (feedA (all.drop (firstF all).toNat)).2.2 = true
      · rw [if_pos hq, if_pos hq]; simp
      · rw [if_neg hq, if_neg hq]; simp
theorem G88_is (k : Nat) (r : Reader) (b : List Int) (hr : ∀ c ∈ r.1, byteOK c) (hb : ∀ c ∈ b, byteOK c) (hl : r.1.length + b.length ≤ 100000000) (hk : r.1.length + b.length + 10 < k) : G88 k (r, b, ()) = some ((feedR r b).1, (feedR r b).2.1, (feedR r b).2.2, ()) := by
  have hR := G87_is k r hr (by omega)
  obtain ⟨rest, br, ⟨⟩⟩ := r
  have hl : rest.length + b.length ≤ 100000000 := hl
  have hk : rest.length + b.length + 10 < k := hk
  have hr : ∀ c ∈ rest, byteOK c := hr
  rw [G88_eq, hR, ocall_some]
  unfold feedR
  cases hrr : rightR (rest, br, ()) with
  | false => rw [if_neg (by simp)]; rfl
  | true =>
  rw [if_pos rfl]
  simp only [Bool.not_true, sel_false]
  cases br with
  | true => rw [sel_true, if_pos rfl]
  | false =>
  rw [sel_false, if_neg (by simp), G142_is k [rest, b] (by simp) (by simp; omega) (by simp only [lenSum]; omega), ocall_some]
  have ef : [rest, b].flatten = rest ++ b := by simp
  have hab := bytes_app hr hb
  have hlen : (rest ++ b).length = rest.length + b.length := List.length_append
  simp only [ef, ofNat_len]
  rw [G150_is k (rest ++ b) hab (by omega), ocall_some]
  (try simp only [])
  generalize rest ++ b = all at hab hlen
  rcases first_cases all hab with h | h | h
  · rw [feedA_zero hab h, if_neg (by simp), sel_neg (by omega), sel_neg (by omega), cloneB k all (by omega), ocall_some]
  · rw [feedA_neg hab (by omega), if_pos rfl, sel_neg (by omega), sel_pos (by omega)]
  · have hf := first_pos hab h
    rw [sel_pos h, sel_pos (by omega), sel_pos (Int.le_refl _), sel_pos (by omega), sel_pos (by omega), sel_pos (by omega), sel_pos (Int.le_refl _), sel_pos (Int.le_refl _), Int.toNat_natCast, List.take_of_length_le (Nat.le_refl all.length),
      G88_g0_is k all.length _ (by rw [List.length_drop]; omega) (bytes_drop hab _) (by rw [List.length_drop]; omega) _ (by rw [List.length_drop]; simp; omega) k (by omega), ocall_some, feedA_pos hab h]
    have e2 : Int.toNat 2 = 2 := rfl
    rw [e2]
    by_cases hq : (feedA (all.drop (firstF all).toNat)).2.2 = true
    · rw [if_pos hq, if_pos hq]; simp
    · rw [if_neg hq, if_neg hq]; simp
end Go.Proofs.YtjgnpmdbkgeakaaDoor.G
end
section
set_option linter.unusedVariables false
set_option linter.unusedSimpArgs false
set_option maxRecDepth 100000
namespace Go.Proofs.YtjgnpmdbkgeakaaDoor.G
open Go Go.Proofs.YtjgnpmdbkgeakaaDoor Th Bits
theorem feedA_nil : feedA [] = ([], [], false) := rfl
theorem toBytes_ofB : ∀ (b : List Int), (∀ c ∈ b, byteOK c) → toBytes (ofBytes b) = b := by
  intro b
  induction b with
  | nil => intro _; rfl
  | cons c b ih =>
    intro h
    have h1 := h c (List.mem_cons_self ..)
    have h2 := ih fun c hc => h c (List.mem_cons_of_mem _ hc)
    unfold byteOK at h1
    simp only [ofBytes, toBytes, List.map_cons, List.map_map] at h2 ⊢
    rw [h2]
    congr 1
    simp
    omega
theorem ofBytes_inj {a b : List Int} (ha : ∀ c ∈ a, byteOK c) (hb : ∀ c ∈ b, byteOK c) : decide (ofBytes a = ofBytes b) = decide (a = b) := by
  refine decide_eq_decide.2 ⟨fun h => ?_, fun h => by rw [h]⟩
  rw [← toBytes_ofB a ha, h, toBytes_ofB b hb]
end Go.Proofs.YtjgnpmdbkgeakaaDoor.G
end
section
set_option maxRecDepth 1000000
set_option linter.unusedVariables false
set_option linter.unusedSimpArgs false
namespace Go.Proofs.YtjgnpmdbkgeakaaDoor.G
open Go Go.Proofs.YtjgnpmdbkgeakaaDoor Th
noncomputable def G151 (k : Nat) (v : List Int × Unit) : Option (List Int × Int × Unit) := F151 k v
theorem G151_eq (k : Nat) (v0 : List Int) : G151 k (v0, ()) = sel (decide (v0.length = 0)) (some ([], 2, ())) (sel (decide (2048 < v0.length)) (some ([], 4, ())) (some (Int.ofNat ((v0.length.div 256).mod 256) :: Int.ofNat (v0.length.mod 256) :: v0, 0, ()))) := by
 kernel_rfl
noncomputable def G92 (k : Nat) (v : (Int × List UInt8 × Int × Int × List UInt8 × List UInt8 × Unit) × Unit) : Option (List Int × Int × Unit) := F92 k v
theorem G92_eq (k : Nat) (v0 : Int) (v1 : List UInt8) (v2 v3 : Int) (v4 v5 : List UInt8) : G92 k ((v0, v1, v2, v3, v4, v5, ()), ()) = ocall (G37 k ((v0, v1, v2, v3, v4, v5, ()), ())) fun r => sel (!decide (r.2.1 = 0)) (some ([], r.2.1, ())) (ocall (G79 k
 ((r.1.1, r.1.2.1, ()), ())) fun r => ocall (G151 k (r.1, ())) fun r => some (r.1, r.2.1, ())) := by kernel_rfl
noncomputable def G93 (k : Nat) (v : List Int × Unit) : Option ((Int × List UInt8 × Int × Int × List UInt8 × List UInt8 × Unit) × Int × Unit) := F93 k v
theorem G93_eq (k : Nat) (v0 : List Int) : G93 k (v0, ()) = ocall (G88 k (([], false, ()), v0, ())) fun r => sel (!decide (r.2.2.1 = 0)) (some ((0, [], 0, 0, [], [], ()), 3, ())) (sel (!decide (Int.ofNat r.2.1.length = 1)) (some ((0, [], 0, 0, [], [],
 ()), 3, ())) (sel (decide (0 < Int.ofNat r.1.1.length)) (some ((0, [], 0, 0, [], [], ()), 3, ())) (sel (decide (0 < Int.ofNat r.2.1.length)) (sel (decide (Int.toNat 0 < r.2.1.length)) (ocall (G80 k (r.2.1.getD (Int.toNat 0) [], ())) fun r => sel (!decide
 (r.2.1 = 0)) (some ((0, [], 0, 0, [], [], ()), r.2.1, ())) (ocall (G40 k ((r.1.1, r.1.2.1, ()), ())) fun r => some ((r.1.1, r.1.2.1, r.1.2.2.1, r.1.2.2.2.1, r.1.2.2.2.2.1, r.1.2.2.2.2.2.1, ()), r.2.1, ()))) none) none))) := by kernel_rfl
noncomputable def G153 (k : Nat) (v : (Int × List (List Int) × Unit) × Unit) : Option (Bool × Unit) := F153 k v
theorem G153_eq (k : Nat) (v0 : Int) (v1 : List (List Int)) : G153 k ((v0, v1, ()), ()) = sel (decide (1 ≤ v0)) (sel (decide (v0 ≤ 64)) (some (decide (Int.ofNat v1.length ≤ v0), ())) (some (false, ()))) (some (false, ())) := by kernel_rfl
noncomputable def G200 (k : Nat) (v : (Int × List (List Int) × Unit) × Unit) : Option (Int × Unit) := F200 k v
theorem G200_eq (k : Nat) (v0 : Int) (v1 : List (List Int)) : G200 k ((v0, v1, ()), ()) = ocall (G153 k ((v0, v1, ()), ())) fun r => sel (!r.1) (some (0, ())) (some (IntKind.i64.wrap (v0 - Int.ofNat v1.length), ())) := by kernel_rfl
noncomputable def G154 (k : Nat) (v : List (List Int)) : Option (List (List Int) × Unit) := F154 k v
theorem G154_eq (k : Nat) (v0 : List (List Int)) : G154 k v0 = sel (decide ((0 + v0.length) * 24 ≤ 140737488355328)) (some (v0, ())) none := by kernel_rfl
noncomputable def G152_7 (k : Nat) (j : Nat) (v : List (List Int) × Int × Int × Int × List (List Int) × Int × List (List Int) × Unit) : Option (Int × List (List Int) × Int × List (List Int) × Unit) := F152_7 k j v
theorem G152_7_eq (k : Nat) (j : Nat) (v0 : List (List Int)) (v1 v2 v3 : Int) (v4 : List (List Int)) (v5 : Int) (v6 : List (List Int)) : G152_7 k (j + 1) (v0, v1, v2, v3, v4, v5, v6, ()) = sel (decide (v2 < v1)) (sel (decide (0 ≤ v2)) (sel (decide (v2 < Int.ofNat v0.length)) (ocall (G147 k
 (v0.getD v2.toNat [])) fun r => sel (decide ((v4.length + 1) * 24 ≤ 140737488355328)) (G152_7 k j (v0, v1, IntKind.i64.wrap (v2 + 1), v3, v4 ++ [r.1], v5, v6, ())) none) none) none) (some (v3, v4, v5, v6, ())) := by kernel_rfl
noncomputable def G152 (k : Nat) (v : (Int × List (List Int) × Unit) × List (List Int) × Unit) : Option ((Int × List (List Int) × Unit) × Int × Unit) := F152 k v
theorem G152_eq (k : Nat) (v0 : Int) (v1 v2 : List (List Int)) : G152 k ((v0, v1, ()), v2, ()) = ocall (G153 k ((v0, v1, ()), ())) fun r => sel (!r.1) (some ((v0, v1, ()), 1, ())) (ocall (G200 k ((v0, v1, ()), ())) fun r => sel (decide
 (r.1 < Int.ofNat v2.length)) (some ((v0, v1, ()), 7, ())) (ocall (G154 k v1) fun r => ocall (G152_7 k k (v2, Int.ofNat v2.length, 0, v0, r.1, 0, [], ())) fun e => some ((e.1, e.2.1, ()), 0, ()))) := by kernel_rfl
noncomputable def G94_g0 (k : Nat) (j : Nat) (v : List (Int × List UInt8 × Int × Int × List UInt8 × List UInt8 × Unit) × List (List Int) × Int × Int × List (List Int) × Int × List (List Int) × Unit) : Option (Int × Int × List (List Int) × Unit) := F94_g0 k j v
theorem G94_g0_eq (k : Nat) (j : Nat) (v0 : List (Int × List UInt8 × Int × Int × List UInt8 × List UInt8 × Unit)) (v1 : List (List Int)) (v2 v3 : Int) (v4 : List (List Int)) (v5 : Int) (v6 : List (List Int)) : G94_g0 k (j + 1) (v0, v1, v2, v3, v4, v5, v6, ()) = sel (decide (v2 < Int.ofNat
 v0.length)) (sel (decide (0 ≤ v2)) (sel (decide (v2 < Int.ofNat v0.length)) (ocall (G92 k (((v0.getD v2.toNat (0, [], 0, 0, [], [], ())).1, (v0.getD v2.toNat (0, [], 0, 0, [], [], ())).2.1, (v0.getD v2.toNat (0, [], 0, 0, [], [], ())).2.2.1, (v0.getD v2.toNat (0, [], 0, 0,
 [], [], ())).2.2.2.1, (v0.getD v2.toNat (0, [], 0, 0, [], [], ())).2.2.2.2.1, (v0.getD v2.toNat (0, [], 0, 0, [], [], ())).2.2.2.2.2.1, ()), ())) fun r => sel (!decide (r.2.1 = 0)) (some (r.2.1, v3, v4, ())) (sel (decide ((v1.length + 1) * 24 ≤
 140737488355328)) (G94_g0 k j (v0, v1 ++ [r.1], IntKind.i64.wrap (v2 + 1), v3, v4, v5, v6, ())) none)) none) none) (ocall (G152 k ((v3, v4, ()), v1, ())) fun r => some (r.2.1, r.1.1, r.1.2.1, ())) := by kernel_rfl
noncomputable def G94 (k : Nat) (v : (Int × List (List Int) × Unit) × List (Int × List UInt8 × Int × Int × List UInt8 × List UInt8 × Unit) × Unit) : Option ((Int × List (List Int) × Unit) × Int × Unit) := F94 k v
theorem G94_eq (k : Nat) (v0 : Int) (v1 : List (List Int)) (v2 : List (Int × List UInt8 × Int × Int × List UInt8 × List UInt8 × Unit)) : G94 k ((v0, v1, ()), v2, ()) = sel (decide (0 < Int.ofNat v2.length)) (sel (decide (0 < Int.ofNat v2.length)) (ocall (G92 k (((v2.getD (Int.toNat
 0) (0, [], 0, 0, [], [], ())).1, (v2.getD (Int.toNat 0) (0, [], 0, 0, [], [], ())).2.1, (v2.getD (Int.toNat 0) (0, [], 0, 0, [], [], ())).2.2.1, (v2.getD (Int.toNat 0) (0, [], 0, 0, [], [], ())).2.2.2.1, (v2.getD (Int.toNat 0) (0, [], 0, 0, [], [],
 ())).2.2.2.2.1, (v2.getD (Int.toNat 0) (0, [], 0, 0, [], [], ())).2.2.2.2.2.1, ()), ())) fun r => sel (!decide (r.2.1 = 0)) (some ((v0, v1, ()), r.2.1, ())) (ocall (G94_g0 k k (v2, [r.1], IntKind.i64.wrap (0 + 1), v0, v1, 0, [], ())) fun e =>
 some ((e.2.1, e.2.2.1, ()), e.1, ()))) none) (ocall (G152 k ((v0, v1, ()), [], ())) fun r => some ((r.1.1, r.1.2.1, ()), r.2.1, ())) := by kernel_rfl
noncomputable def G90 (k : Nat) (v : Unit) : Option (Bool × Unit) := F90 k v
theorem G90_eq (k : Nat) : G90 k () = ocall (G92 k ((7, [], 0, 1, [82, 82, 78, 48, 48, 48, 48, 48, 48, 48, 48, 49], [48, 48], ()), ())) fun r => ocall (G93 k (r.1, ())) fun r_1 => ocall (G94 k ((1, [], ()), [(7, [], 0, 1, [82, 82, 78, 48, 48, 48, 48, 48, 48,
 48, 48, 49], [48, 48], ())], ())) fun r_2 => ocall (G94 k ((r_2.1.1, r_2.1.2.1, ()), [(7, [], 0, 1, [82, 82, 78, 48, 48, 48, 48, 48, 48, 48, 48, 49], [48, 48], ())], ())) fun r_3 => ocall (G93 k ([0, 1], ())) fun r_4 => sel (decide (r.2.1 = 0)) (sel
 (decide (r_1.2.1 = 0)) (sel (decide (r_2.2.1 = 0)) (sel (decide (r_3.2.1 = 7)) (sel (decide (r_4.2.1 = 3)) (sel (decide (Int.ofNat r.1.length = 34)) (sel (decide (1 < Int.ofNat r.1.length)) (sel (decide (r.1.getD (Int.toNat 1) 0 = 32)) (sel (sameI r_1.1.1 7 && (sameS r_1.1.2.1 [] && (sameI
 r_1.1.2.2.1 0 && (sameI r_1.1.2.2.2.1 1 && (sameS r_1.1.2.2.2.2.1 [82, 82, 78, 48, 48, 48, 48, 48, 48, 48, 48, 49] && (sameS r_1.1.2.2.2.2.2.1 [48, 48] && true)))))) (sel (decide (Int.ofNat r_2.1.2.1.length = 1)) (sel (decide (0 < Int.ofNat r_2.1.2.1.length)) (some (decide (ofBytes (r_2.1.2.1.getD
 (Int.toNat 0) []) = ofBytes r.1), ())) none) (some (false, ()))) (some (false, ()))) (some (false, ()))) none) (some (false, ()))) (some (false, ()))) (some (false, ()))) (some (false, ()))) (some (false, ()))) (some (false,
 ())) := by kernel_rfl
noncomputable def G91_2 (k : Nat) (j : Nat) (v : List (Int × List UInt8 × Int × Int × List UInt8 × List UInt8 × Unit) × Int × Int × Unit) : Option (List (Int × List UInt8 × Int × Int × List UInt8 × List UInt8 × Unit) × Int × Unit ⊕ Bool × Unit) := F91_2 k j v
theorem G91_2_eq (k : Nat) (j : Nat) (v0 : List (Int × List UInt8 × Int × Int × List UInt8 × List UInt8 × Unit)) (v1 v2 : Int) : G91_2 k (j + 1) (v0, v1, v2, ()) = sel (decide (v2 < Int.ofNat v0.length)) (sel (decide (v2 ≤ v1)) (sel (decide (0 ≤ v2)) (sel (decide (v2 < Int.ofNat v0.length))
 (ocall (G24 k (((v0.getD v2.toNat (0, [], 0, 0, [], [], ())).1, (v0.getD v2.toNat (0, [], 0, 0, [], [], ())).2.1, (v0.getD v2.toNat (0, [], 0, 0, [], [], ())).2.2.1, (v0.getD v2.toNat (0, [], 0, 0, [], [], ())).2.2.2.1, (v0.getD v2.toNat (0, [], 0, 0, [], [],
 ())).2.2.2.2.1, (v0.getD v2.toNat (0, [], 0, 0, [], [], ())).2.2.2.2.2.1, ()), ())) fun r => sel (!r.1) (some (Sum.inr (false, ()))) (G91_2 k j (v0, v1, IntKind.i64.wrap (v2 + 1), ()))) none) none) (some (Sum.inl (v0, v1, ())))) (some (Sum.inl
 (v0, v1, ()))) := by kernel_rfl
noncomputable def G91 (k : Nat) (v : List (Int × List UInt8 × Int × Int × List UInt8 × List UInt8 × Unit) × Int × Unit) : Option (Bool × Unit) := F91 k v
theorem G91_eq (k : Nat) (v0 : List (Int × List UInt8 × Int × Int × List UInt8 × List UInt8 × Unit)) (v1 : Int) : G91 k (v0, v1, ()) = ocall (G91_2 k k (v0, v1, 0, ())) fun e => esel e (fun v => some (decide (Int.ofNat v.1.length ≤ v.2.1), ())) fun e => some (e.1,
 ()) := by kernel_rfl
noncomputable def G95 (k : Nat) (v : (Int × List (List Int) × Unit) × Unit) : Option ((Int × List (List Int) × Unit) × List Int × Int × Unit) := F95 k v
theorem G95_eq (k : Nat) (v0 : Int) (v1 : List (List Int)) : G95 k ((v0, v1, ()), ()) = ocall (G153 k ((v0, v1, ()), ())) fun r => sel (!r.1) (some ((v0, v1, ()), [], 1, ())) (sel (decide (Int.ofNat v1.length = 0)) (some ((v0, v1, ()), [], 5,
 ())) (sel (decide (0 < Int.ofNat v1.length)) (ocall (G147 k (v1.getD (Int.toNat 0) [])) fun r => sel (decide (1 ≤ Int.ofNat v1.length)) (sel (decide (Int.ofNat v1.length ≤ Int.ofNat v1.length)) (sel (decide (Int.ofNat v1.length ≤ Int.ofNat v1.length)) (ocall (G154 k (List.drop (Int.toNat 1)
 (List.take (Int.ofNat v1.length).toNat v1))) fun r_1 => some ((v0, r_1.1, ()), r.1, 0, ())) none) none) none) none)) := by kernel_rfl
noncomputable def G21_22 (k : Nat) (j : Nat) (v : List (Int × List UInt8 × Int × Int × List UInt8 × List UInt8 × Unit) × Int × Int × List (List Int) × Unit) : Option (Int × List (List Int) × Unit ⊕ Bool × Unit) := F21_22 k j v
theorem G21_22_eq (k : Nat) (j : Nat) (v0 : List (Int × List UInt8 × Int × Int × List UInt8 × List UInt8 × Unit)) (v1 v2 : Int) (v3 : List (List Int)) : G21_22 k (j + 1) (v0, v1, v2, v3, ()) = sel (decide (v1 < Int.ofNat v0.length)) (ocall (G95 k ((v2, v3, ()), ())) fun r =>
 ocall (G93 k (r.2.1, ())) fun r_1 => sel (!decide (r.2.2.1 = 0)) (some (Sum.inr (false, ()))) (sel (!decide (r_1.2.1 = 0)) (some (Sum.inr (false, ()))) (sel (decide (0 ≤ v1)) (sel (decide (v1 < Int.ofNat v0.length)) (sel (!(sameI r_1.1.1 (v0.getD v1.toNat (0, [], 0, 0, [],
 [], ())).1 && (sameS r_1.1.2.1 (v0.getD v1.toNat (0, [], 0, 0, [], [], ())).2.1 && (sameI r_1.1.2.2.1 (v0.getD v1.toNat (0, [], 0, 0, [], [], ())).2.2.1 && (sameI r_1.1.2.2.2.1 (v0.getD v1.toNat (0, [], 0, 0, [], [], ())).2.2.2.1 && (sameS r_1.1.2.2.2.2.1 (v0.getD
 v1.toNat (0, [], 0, 0, [], [], ())).2.2.2.2.1 && (sameS r_1.1.2.2.2.2.2.1 (v0.getD v1.toNat (0, [], 0, 0, [], [], ())).2.2.2.2.2.1 && true))))))) (some (Sum.inr (false, ()))) (G21_22 k j (v0, IntKind.i64.wrap (v1 + 1), r.1.1, r.1.2.1, ()))) none) none))) (some
 (Sum.inl (v2, v3, ()))) := by kernel_rfl
noncomputable def G21 (k : Nat) (v : (Int × List UInt8 × Int × Int × List UInt8 × List UInt8 × Unit) × (Int × List UInt8 × Int × Int × List UInt8 × List UInt8 × Unit) × List Int × List (Int × List UInt8 × Int × Int × List UInt8 × List UInt8 × Unit) × Unit) : Option (Bool × Unit) := F21 k v
theorem G21_eq (k : Nat) (v0 : Int) (v1 : List UInt8) (v2 v3 : Int) (v4 v5 : List UInt8) (v6 : Int) (v7 : List UInt8) (v8 v9 : Int) (v10 v11 : List UInt8) (v12 : List Int) (v13 : List (Int × List UInt8 × Int × Int × List UInt8 × List UInt8 × Unit)) : G21 k ((v0, v1, v2, v3, v4, v5, ()),
 (v6, v7, v8, v9, v10, v11, ()), v12, v13, ()) = ocall (G90 k ()) fun r => sel (!r.1) (some (false, ())) (ocall (G24 k ((v0, v1, v2, v3, v4, v5, ()), ())) fun r => sel (!r.1) (some (true, ())) (ocall (G24 k ((v6, v7, v8, v9, v10, v11,
 ()), ())) fun r => sel (!r.1) (some (true, ())) (sel (decide (3000 < Int.ofNat v12.length)) (some (true, ())) (ocall (G91 k (v13, 60, ())) fun r => sel (!r.1) (some (true, ())) (ocall (G92 k ((v0, v1, v2, v3, v4, v5, ()), ())) fun r =>
 ocall (G92 k ((v6, v7, v8, v9, v10, v11, ()), ())) fun r_1 => sel (decide (r.2.1 = 0)) (ocall (G93 k (r.1, ())) fun r_2 => sel (!decide (r_2.2.1 = 0)) (some (false, ())) (sel (!(sameI r_2.1.1 v0 && (sameS r_2.1.2.1 v1 && (sameI r_2.1.2.2.1 v2 && (sameI r_2.1.2.2.2.1
 v3 && (sameS r_2.1.2.2.2.2.1 v4 && (sameS r_2.1.2.2.2.2.2.1 v5 && true))))))) (some (false, ())) (sel (decide (r_1.2.1 = 0)) (sel (!decide (ofBytes r.1 = ofBytes r_1.1) == (sameI v0 v6 && (sameS v1 v7 && (sameI v2 v8 && (sameI v3 v9 && (sameS v4 v10 && (sameS v5 v11 && true))))))) (some
 (false, ())) (ocall (G93 k (v12, ())) fun r => sel (decide (r.2.1 = 0)) (ocall (G92 k ((r.1.1, r.1.2.1, r.1.2.2.1, r.1.2.2.2.1, r.1.2.2.2.2.1, r.1.2.2.2.2.2.1, ()), ())) fun r_3 => sel (!decide (r_3.2.1 = 0)) (some (false, ())) (ocall (G33 k ((r.1.1, r.1.2.1,
 r.1.2.2.1, r.1.2.2.2.1, r.1.2.2.2.2.1, r.1.2.2.2.2.2.1, ()), ())) fun r => sel (!r.1) (some (false, ())) (sel (!decide (ofBytes r_3.1 = ofBytes v12)) (some (false, ())) (ocall (G94 k ((64, [], ()), v13, ())) fun r => sel (!decide (r.2.1 = 0)) (sel
 (decide (r.2.1 = 1)) (some (decide (Int.ofNat r.1.2.1.length = 0), ())) (some (false, ()))) (ocall (G21_22 k k (v13, 0, r.1.1, r.1.2.1, ())) fun e => esel e (fun v => some (decide (Int.ofNat v.2.1.length = 0), ())) fun e => some (e.1, ())))))) (sel (!(sameI
 r.1.1 0 && (sameS r.1.2.1 [] && (sameI r.1.2.2.1 0 && (sameI r.1.2.2.2.1 0 && (sameS r.1.2.2.2.2.1 [] && (sameS r.1.2.2.2.2.2.1 [] && true))))))) (some (false, ())) (ocall (G94 k ((64, [], ()), v13, ())) fun r => sel (!decide (r.2.1 = 0)) (sel (decide (r.2.1 = 1)) (some
 (decide (Int.ofNat r.1.2.1.length = 0), ())) (some (false, ()))) (ocall (G21_22 k k (v13, 0, r.1.1, r.1.2.1, ())) fun e => esel e (fun v => some (decide (Int.ofNat v.2.1.length = 0), ())) fun e => some (e.1, ())))))) (ocall (G93 k (v12, ())) fun r =>
 sel (decide (r.2.1 = 0)) (ocall (G92 k ((r.1.1, r.1.2.1, r.1.2.2.1, r.1.2.2.2.1, r.1.2.2.2.2.1, r.1.2.2.2.2.2.1, ()), ())) fun r_3 => sel (!decide (r_3.2.1 = 0)) (some (false, ())) (ocall (G33 k ((r.1.1, r.1.2.1, r.1.2.2.1, r.1.2.2.2.1, r.1.2.2.2.2.1, r.1.2.2.2.2.2.1,
 ()), ())) fun r => sel (!r.1) (some (false, ())) (sel (!decide (ofBytes r_3.1 = ofBytes v12)) (some (false, ())) (ocall (G94 k ((64, [], ()), v13, ())) fun r => sel (!decide (r.2.1 = 0)) (sel (decide (r.2.1 = 1)) (some (decide (Int.ofNat r.1.2.1.length
 = 0), ())) (some (false, ()))) (ocall (G21_22 k k (v13, 0, r.1.1, r.1.2.1, ())) fun e => esel e (fun v => some (decide (Int.ofNat v.2.1.length = 0), ())) fun e => some (e.1, ())))))) (sel (!(sameI r.1.1 0 && (sameS r.1.2.1 [] && (sameI r.1.2.2.1 0 && (sameI
 r.1.2.2.2.1 0 && (sameS r.1.2.2.2.2.1 [] && (sameS r.1.2.2.2.2.2.1 [] && true))))))) (some (false, ())) (ocall (G94 k ((64, [], ()), v13, ())) fun r => sel (!decide (r.2.1 = 0)) (sel (decide (r.2.1 = 1)) (some (decide (Int.ofNat r.1.2.1.length = 0), ())) (some (false,
 ()))) (ocall (G21_22 k k (v13, 0, r.1.1, r.1.2.1, ())) fun e => esel e (fun v => some (decide (Int.ofNat v.2.1.length = 0), ())) fun e => some (e.1, ())))))))) (ocall (G93 k (v12, ())) fun r => sel (decide (r.2.1 = 0)) (ocall (G92 k ((r.1.1, r.1.2.1,
 r.1.2.2.1, r.1.2.2.2.1, r.1.2.2.2.2.1, r.1.2.2.2.2.2.1, ()), ())) fun r_2 => sel (!decide (r_2.2.1 = 0)) (some (false, ())) (ocall (G33 k ((r.1.1, r.1.2.1, r.1.2.2.1, r.1.2.2.2.1, r.1.2.2.2.2.1, r.1.2.2.2.2.2.1, ()), ())) fun r => sel (!r.1) (some (false,
 ())) (sel (!decide (ofBytes r_2.1 = ofBytes v12)) (some (false, ())) (ocall (G94 k ((64, [], ()), v13, ())) fun r => sel (!decide (r.2.1 = 0)) (sel (decide (r.2.1 = 1)) (some (decide (Int.ofNat r.1.2.1.length = 0), ())) (some (false, ()))) (ocall
 (G21_22 k k (v13, 0, r.1.1, r.1.2.1, ())) fun e => esel e (fun v => some (decide (Int.ofNat v.2.1.length = 0), ())) fun e => some (e.1, ())))))) (sel (!(sameI r.1.1 0 && (sameS r.1.2.1 [] && (sameI r.1.2.2.1 0 && (sameI r.1.2.2.2.1 0 && (sameS r.1.2.2.2.2.1 [] && (sameS
 r.1.2.2.2.2.2.1 [] && true))))))) (some (false, ())) (ocall (G94 k ((64, [], ()), v13, ())) fun r => sel (!decide (r.2.1 = 0)) (sel (decide (r.2.1 = 1)) (some (decide (Int.ofNat r.1.2.1.length = 0), ())) (some (false, ()))) (ocall (G21_22 k k (v13, 0, r.1.1,
 r.1.2.1, ())) fun e => esel e (fun v => some (decide (Int.ofNat v.2.1.length = 0), ())) fun e => some (e.1, ())))))))))) := by kernel_rfl
end Go.Proofs.YtjgnpmdbkgeakaaDoor.G
end
section
set_option linter.unusedVariables false
set_option linter.unusedSimpArgs false
set_option maxRecDepth 100000
namespace Go.Proofs.YtjgnpmdbkgeakaaDoor.G
open Go Go.Proofs.YtjgnpmdbkgeakaaDoor Th Bits
def frameW (b : List Int) : List Int := ((b.length / 256 % 256 : Nat) : Int) :: ((b.length % 256 : Nat) : Int) :: b
def putW (b : List Int) : List Int × Int := if b.length = 0 then ([], 2) else if 2048 < b.length then ([], 4) else (frameW b, 0)
theorem G151_is (k : Nat) (b : List Int) : G151 k (b, ()) = some ((putW b).1, (putW b).2, ()) := by
  rw [G151_eq]
  unfold putW
  by_cases h : b.length = 0
  · rw [sel_pos h, if_pos h]
  · rw [sel_neg h, if_neg h]
    by_cases h2 : 2048 < b.length
    · rw [sel_pos h2, if_pos h2]
    · rw [sel_neg h2, if_neg h2]; rfl
theorem frameW_bytes {b : List Int} (hb : ∀ c ∈ b, byteOK c) : ∀ c ∈ frameW b, byteOK c := by
  intro c hc
  unfold frameW at hc
  rcases List.mem_cons.1 hc with h | hc
  · rw [h]; unfold byteOK; omega
  rcases List.mem_cons.1 hc with h | hc
  · rw [h]; unfold byteOK; omega
  · exact hb c hc
theorem frameW_len (b : List Int) : (frameW b).length = b.length + 2 := by simp [frameW]
theorem frame_first {b : List Int} (hb : ∀ c ∈ b, byteOK c) (h1 : 1 ≤ b.length) (h2 : b.length ≤ 2048) (t : List Int) : firstF (frameW b ++ t) = ((b.length + 2 : Nat) : Int) := by
  have hh : hdrN (frameW b ++ t) = (b.length : Int) := by
    show 256 * (((b.length / 256 % 256 : Nat) : Int)) + (((b.length % 256 : Nat) : Int)) = _
    omega
  unfold firstF
  rw [if_neg (by rw [List.length_append, frameW_len]; omega), hh, if_neg (by omega), if_neg (by rw [List.length_append, frameW_len]; omega)]
  omega
theorem feed_frame {b : List Int} (hb : ∀ c ∈ b, byteOK c) (h1 : 1 ≤ b.length) (h2 : b.length ≤ 2048) {t : List Int} (ht : ∀ c ∈ t, byteOK c) : feedA (frameW b ++ t) = (b :: (feedA t).1, (feedA t).2) := by
  have hf := frame_first hb h1 h2 t
  rw [feedA_pos (bytes_app (frameW_bytes hb) ht) (by rw [hf]; omega), hf, Int.toNat_natCast, ← frameW_len, List.take_left, List.drop_left]
  rfl
end Go.Proofs.YtjgnpmdbkgeakaaDoor.G
end
section
set_option linter.unusedVariables false
set_option linter.unusedSimpArgs false
set_option maxRecDepth 100000
namespace Go.Proofs.YtjgnpmdbkgeakaaDoor.G
open Go Go.Proofs.YtjgnpmdbkgeakaaDoor Th
theorem qClone (k : Nat) (l : List Int) (h : l.length ≤ 140737488355328) : G147 k l = some (l, ()) := by
  rw [G147_eq, sel_pos (by omega)]
theorem qClones (k : Nat) (l : List (List Int)) (h : l.length * 24 ≤ 140737488355328) : G154 k l = some (l, ()) := by
  rw [G154_eq, sel_pos (by omega)]
end Go.Proofs.YtjgnpmdbkgeakaaDoor.G
end
section
set_option linter.unusedVariables false
set_option linter.unusedSimpArgs false
set_option maxRecDepth 100000
namespace Go.Proofs.YtjgnpmdbkgeakaaDoor.G
open Go Go.Proofs.YtjgnpmdbkgeakaaDoor Th
abbrev Queue := Int × List (List Int) × Unit
def qRight (q : Queue) : Bool := decide (1 ≤ q.1) && decide (q.1 ≤ 64) && decide ((q.2.1.length : Int) ≤ q.1)
theorem qRight_iff {q : Queue} : qRight q = true ↔ 1 ≤ q.1 ∧ q.1 ≤ 64 ∧ (q.2.1.length : Int) ≤ q.1 := by simp [qRight, and_assoc]
theorem G153_is (k : Nat) (q : Queue) : G153 k (q, ()) = some (qRight q, ()) := by
  obtain ⟨r, l, ⟨⟩⟩ := q
  rw [G153_eq]
  simp only [sel_dec, qRight, ofNat_len]
  split <;> (try split) <;> simp [*]
theorem G200_is (k : Nat) (q : Queue) (h : qRight q = true) : G200 k (q, ()) = some (q.1 - q.2.1.length, ()) := by
  have hR := G153_is k q
  have hq := qRight_iff.1 h
  obtain ⟨r, l, ⟨⟩⟩ := q
  (try simp only [] at hq ⊢)
  rw [G200_eq, hR, h, ocall_some]
  simp only [Bool.not_true, sel_false, ofNat_len]
  rw [wrap64 (by omega) (by omega)]
theorem G152_7_is (k : Nat) (l items xs : List (List Int)) (r y : Int) (hl : l.length ≤ 1000) (hi : items.length ≤ 1000) (hb : ∀ x ∈ l, x.length ≤ 140737488351232) : ∀ (j i : Nat), i + j = l.length →
    ∀ n, j < n → G152_7 k n (l, (l.length : Int), (i : Int), r, items ++ l.take i, y, xs, ()) = some (r, items ++ l, y, xs, ()) := by
  intro j
  induction j with
  | zero =>
    intro i hij n hn
    obtain ⟨n, rfl⟩ : ∃ m, n = m + 1 := ⟨n - 1, by omega⟩
    rw [G152_7_eq, sel_neg (by omega), List.take_of_length_le (by omega)]
  | succ j ih =>
    intro i hij n hn
    obtain ⟨n, rfl⟩ : ∃ m, n = m + 1 := ⟨n - 1, by omega⟩
    have hlt : i < l.length := by omega
    have hb' := hb l[i] (List.getElem_mem _)
    rw [G152_7_eq]
    simp only [Int.toNat_natCast, getD_of hlt, ofNat_len]
    rw [sel_pos (by omega), sel_pos (by omega), sel_pos (by omega), qClone k _ (by omega), ocall_some, sel_pos (by simp only [List.length_append, List.length_take]; omega), wrap64 (by omega) (by omega)]
    have := ih (i + 1) (by omega) n (by omega)
    rw [List.take_add_one, List.getElem?_eq_getElem hlt, ← List.append_assoc] at this
    exact this
def putQ (q : Queue) (m : List (List Int)) : Queue × Int := if qRight q = true then (if (q.2.1.length : Int) + m.length ≤ q.1 then ((q.1, q.2.1 ++ m, ()), 0) else (q, 7)) else (q, 1)
theorem G152_is (k : Nat) (q : Queue) (m : List (List Int)) (hm : m.length < k) (hm2 : m.length ≤ 1000000) (hb : ∀ x ∈ m, x.length ≤ 140737488351232) : G152 k (q, m, ()) = some ((putQ q m).1, (putQ q m).2, ()) := by
  have hR := G153_is k q
  have hL := G200_is k q
  have hq := @qRight_iff q
  obtain ⟨r, l, ⟨⟩⟩ := q
  (try simp only [] at hq hL)
  rw [G152_eq, hR, ocall_some]
  unfold putQ
  cases h : qRight (r, l, ()) with
  | false => rw [if_neg (by simp)]; rfl
  | true =>
    have hq := hq.1 h
    rw [if_pos rfl, hL h, ocall_some]
    simp only [Bool.not_true, sel_false, ofNat_len]
    by_cases c : (l.length : Int) + m.length ≤ r
    · rw [sel_neg (by omega), qClones k l (by omega), ocall_some, if_pos c]
      have := G152_7_is k m l [] r 0 (by omega) (by omega) hb m.length 0 (by omega) k hm
      simp only [List.take_zero, List.append_nil, Int.natCast_zero] at this
      rw [this, ocall_some]
    · rw [sel_pos (by omega), if_neg c]
theorem G95_is (k : Nat) (r : Int) (x : List Int) (l : List (List Int)) (h : qRight (r, x :: l, ()) = true) (hb : x.length ≤ 140737488351232) :
    G95 k ((r, x :: l, ()), ()) = some ((r, l, ()), x, 0, ()) := by
  have hq := qRight_iff.1 h
  simp only [List.length_cons] at hq
  rw [G95_eq, G153_is, h, ocall_some]
  simp only [Bool.not_true, sel_false, ofNat_len]
  have e : ((x :: l).length : Int) = (l.length : Int) + 1 := by simp
  simp only [e]
  rw [sel_neg (by omega), sel_pos (by omega)]
  simp only [show Int.toNat (0 : Int) = 0 from rfl, show Int.toNat (1 : Int) = 1 from rfl, List.getD_cons_zero]
  rw [qClone k x (by omega), ocall_some, sel_pos (by omega), sel_pos (by omega), sel_pos (by omega)]
  rw [List.take_of_length_le (by simp), List.drop_succ_cons, List.drop_zero, qClones k l (by omega), ocall_some]
end Go.Proofs.YtjgnpmdbkgeakaaDoor.G
end
section
set_option linter.unusedVariables false
set_option linter.unusedSimpArgs false
set_option maxRecDepth 100000
namespace Go.Proofs.YtjgnpmdbkgeakaaDoor.G
open Go Go.Proofs.YtjgnpmdbkgeakaaDoor Th Bits
def letterB (d : Deal) : List Int := frameW (sendB d)
theorem letter_len {d : Deal} (gd : goodD d) (h : dealOK d = true) : (letterB d).length ≤ 202 := by unfold letterB; rw [frameW_len]; have := send_size gd h; omega
theorem letter_bytes (d : Deal) : ∀ c ∈ letterB d, byteOK c := frameW_bytes (send_bytes d)
theorem frameW_inj {a b : List Int} : frameW a = frameW b ↔ a = b := ⟨fun h => by unfold frameW at h; exact (List.cons.inj (List.cons.inj h).2).2, fun h => by rw [h]⟩
theorem G92_is (k L : Nat) (hk : 2000 < k) (hL : L ≤ 1000000) (hkL : L + 100 < k) (d : Deal) (gd : goodD d) (hl : lens L d) : G92 k (d, ()) = some (if dealOK d = true then (letterB d, 0, ()) else ([], 1, ())) := by
  have hD := sendDealL k L hL hkL d gd hl
  have hM := sendMsg k hk gd
  have hs := send_size gd
  have hp := send_pos gd
  unfold letterB
  generalize sendB d = B at hM hs hp ⊢
  generalize sendM d = M at hD hM ⊢
  obtain ⟨k1, k2, k3, k4, k5, k6, ⟨⟩⟩ := d
  rw [G92_eq, hD]
  by_cases hok : dealOK (k1, k2, k3, k4, k5, k6, ()) = true
  · have hM' : G79 k ((M.1, M.2.1, ()), ()) = some (B, 0, ()) := hM hok
    have hs := hs hok
    have hp := hp hok
    have hP : putW B = (frameW B, 0) := by unfold putW; rw [if_neg (by omega), if_neg (by omega)]
    rw [if_pos hok, if_pos hok, ocall_some]
    simp only [decide_true, Bool.not_true, sel_false]
    rw [hM', ocall_some, G151_is, hP, ocall_some]
  · rw [if_neg hok, if_neg hok, ocall_some]
    rfl
def isOne (b : List Int) : Bool := decide ((feedR ([], false, ()) b).2.2 = 0) && (decide ((feedR ([], false, ()) b).2.1.length = 1) && decide ((feedR ([], false, ()) b).1.1.length = 0))
def openF (b : List Int) : Deal × Int := if isOne b = true then (if (readM (b.drop 2)).2 = 0 then readD (readM (b.drop 2)).1 else (zeroD, (readM (b.drop 2)).2)) else (zeroD, 3)
theorem feed0 (b : List Int) : feedR ([], false, ()) b = if (feedA b).2.2 = true then (([], true, ()), (feedA b).1, 12) else (((feedA b).2.1, false, ()), (feedA b).1, 0) := by
  unfold feedR
  rw [if_pos (show rightR ([], false, ()) = true from rfl), if_neg (by simp)]
  rfl
theorem one_frame {b : List Int} (hb : ∀ c ∈ b, byteOK c) : isOne b = true ↔ (b = frameW (b.drop 2) ∧ 3 ≤ b.length ∧ b.length ≤ 2050) := by
  unfold isOne
  rw [feed0]
  constructor
  · intro h
    by_cases c : (feedA b).2.2 = true
    · rw [if_pos c] at h; exact absurd h (by simp)
    rw [if_neg c] at h
    simp only [Bool.and_eq_true, decide_eq_true_eq, decide_true, true_and] at h
    obtain ⟨h1, h2⟩ := h
    rcases first_cases b hb with f | f | f
    · rw [feedA_zero hb f] at h1; exact absurd h1 (by simp)
    · rw [feedA_neg hb (by omega)] at c; exact absurd rfl c
    · have hp := first_pos hb f
      rw [feedA_pos hb f] at h1 h2 c
      simp only [List.length_cons] at h1
      have hd := bytes_drop hb (firstF b).toNat
      have he : b.drop (firstF b).toNat = [] := by
        generalize b.drop (firstF b).toNat = y at h1 h2 c hd
        rcases first_cases y hd with g | g | g
        · rw [feedA_zero hd g] at h2
          exact List.eq_nil_of_length_eq_zero h2
        · rw [feedA_neg hd (by omega)] at c; exact absurd rfl c
        · rw [feedA_pos hd g] at h1; simp at h1
      have hle : b.length ≤ (firstF b).toNat := by
        have := congrArg List.length he
        rw [List.length_drop] at this
        simp only [List.length_nil] at this
        omega
      obtain ⟨x, y, e0, e1, hx, hy, hh⟩ := hdrN_ok hb hp.2.2.2.2.2
      clear f h1 h2 c hd he
      match b, hb, hp, hle, e0, e1, hh with
      | u :: v :: t, hb, hp, hle, e0, e1, hh =>
        obtain rfl : u = (x : Int) := e0
        obtain rfl : v = (y : Int) := e1
        have hlen : ((x : Int) :: (y : Int) :: t).length = t.length + 2 := rfl
        have hl : t.length = 256 * x + y := by omega
        refine ⟨?_, by omega, by omega⟩
        show (x : Int) :: (y : Int) :: t = ((t.length / 256 % 256 : Nat) : Int) :: ((t.length % 256 : Nat) : Int) :: t
        have q1 : x = t.length / 256 % 256 := by omega
        have q2 : y = t.length % 256 := by omega
        rw [← q1, ← q2]
  · rintro ⟨h1, h2, h3⟩
    have hx : ∀ c ∈ b.drop 2, byteOK c := bytes_drop hb 2
    have hl : (b.drop 2).length = b.length - 2 := by rw [List.length_drop]
    have hf := feed_frame hx (by omega) (by omega) (t := []) (by simp)
    rw [List.append_nil, ← h1, feedA_nil] at hf
    rw [hf]
    rfl
theorem one_item {b : List Int} (hb : ∀ c ∈ b, byteOK c) (h : isOne b = true) : (feedR ([], false, ()) b).2.1 = [b.drop 2] := by
  obtain ⟨h1, h2, h3⟩ := (one_frame hb).1 h
  have hx : ∀ c ∈ b.drop 2, byteOK c := bytes_drop hb 2
  have hl : (b.drop 2).length = b.length - 2 := by rw [List.length_drop]
  have hf := feed_frame hx (by omega) (by omega) (t := []) (by simp)
  rw [List.append_nil, ← h1, feedA_nil] at hf
  rw [feed0, hf]
  rfl
theorem G93_is (k : Nat) (hk : 2000 < k) (b : List Int) (hb : ∀ c ∈ b, byteOK c) (hl : b.length ≤ 10000000) (hkl : b.length + 10 < k) : G93 k (b, ()) = some ((openF b).1, (openF b).2, ()) := by
  have hF := G88_is k ([], false, ()) b (by simp) hb (by simp; omega) (by simp; omega)
  rw [G93_eq, hF, ocall_some]
  unfold openF
  simp only [ofNat_len]
  by_cases ho : isOne b = true
  case neg =>
    rw [if_neg ho]
    unfold isOne at ho
    by_cases c1 : (feedR ([], false, ()) b).2.2 = 0
    case neg => rw [sel_not, sel_neg c1]; rfl
    rw [sel_not, sel_pos c1]
    by_cases c2 : (feedR ([], false, ()) b).2.1.length = 1
    case neg => rw [sel_not, sel_neg (by omega)]; rfl
    rw [sel_not, sel_pos (by omega)]
    by_cases c3 : (feedR ([], false, ()) b).1.1.length = 0
    · exact absurd (by rw [decide_eq_true c1, decide_eq_true c2, decide_eq_true c3]; rfl) ho
    · rw [sel_pos (by omega)]; rfl
  rw [if_pos ho]
  have hit := one_item hb ho
  have ho2 := ho
  unfold isOne at ho2
  simp only [Bool.and_eq_true, decide_eq_true_eq] at ho2
  have hx : ∀ c ∈ b.drop 2, byteOK c := bytes_drop hb 2
  have hxl : (b.drop 2).length ≤ b.length := by rw [List.length_drop]; omega
  rw [sel_not, sel_pos ho2.1, sel_not, sel_pos (by omega), sel_neg (by omega), hit, sel_pos (by simp), sel_pos (by simp)]
  rw [show ([b.drop 2] : List (List Int)).getD (Int.toNat 0) [] = b.drop 2 from rfl, G80_is k (by omega) _ hx (by omega), ocall_some]
  generalize b.drop 2 = x at hx
  by_cases he : (readM x).2 = 0
  case neg => rw [sel_not, sel_neg he, if_neg he]; rfl
  obtain ⟨w1, w2, w3⟩ := write_read_msg hx he
  have eR : ((((readM x).1.1, (readM x).1.2.1, ()) : Msg)) = (readM x).1 := rfl
  rw [sel_not, sel_pos he, if_pos he]
  (try simp only [])
  rw [eR, readDeal k hk _ w1 (by omega), ocall_some]
theorem open_letter {d : Deal} (gd : goodD d) (h : dealOK d = true) : openF (letterB d) = (d, 0) := by
  have h1 := send_size gd h
  have h2 := send_pos gd h
  have hd : (letterB d).drop 2 = sendB d := rfl
  have ho : isOne (letterB d) = true := (one_frame (letter_bytes d)).2 ⟨by rw [hd]; rfl, by unfold letterB; rw [frameW_len]; omega, by unfold letterB; rw [frameW_len]; omega⟩
  obtain ⟨r1, r2⟩ := send_read gd h
  unfold openF
  rw [if_pos ho, hd, r1, if_pos rfl, r2]
theorem open_right {b : List Int} (hb : ∀ c ∈ b, byteOK c) (h : (openF b).2 = 0) : dealOK (openF b).1 = true ∧ letterB (openF b).1 = b ∧ goodD (openF b).1 ∧ lens 1000 (openF b).1 := by
  unfold openF at h ⊢
  by_cases ho : isOne b = true
  case neg => rw [if_neg ho] at h; exact absurd h (by decide)
  rw [if_pos ho] at h ⊢
  by_cases he : (readM (b.drop 2)).2 = 0
  case neg => rw [if_neg he] at h; exact absurd h he
  rw [if_pos he] at h ⊢
  obtain ⟨w1, w2, w3⟩ := write_read_msg (bytes_drop hb 2) he
  obtain ⟨d1, d2⟩ := write_read_deal h
  have hv := readD_val h
  rw [hv]
  refine ⟨d2, ?_, good_deM _, deM_lens w1⟩
  unfold letterB sendB sendM
  rw [d1, w2]
  exact ((one_frame hb).1 ho).1.symm
theorem open_err (b : List Int) : (openF b).2 = 0 ∨ (openF b).1 = zeroD := by
  unfold openF
  split
  · split
    · exact readD_err _
    · exact .inr rfl
  · exact .inr rfl
def letters (l : List Deal) : List (List Int) := l.map letterB
def pushF (q : Queue) (l : List Deal) : Queue × Int := if l.all dealOK = true then putQ q (letters l) else (q, 1)
theorem pQ (k : Nat) (q : Queue) {l : List Deal} (gl : ∀ d ∈ l, goodD d) (ho : l.all dealOK = true) (hl : l.length ≤ 1000000) (hk : l.length < k) : G152 k (q, letters l, ()) = some ((putQ q (letters l)).1, (putQ q (letters l)).2, ()) :=
  G152_is k q (letters l) (by simp [letters]; omega) (by simp [letters]; omega) fun x hx => by
    obtain ⟨d, hd, rfl⟩ := List.mem_map.1 hx
    have := letter_len (gl d hd) (List.all_eq_true.1 ho d hd)
    omega
theorem push_loop (k : Nat) (hk : 2000 < k) (q : Queue) (l : List Deal) (hl : l.length ≤ 1000) (gl : ∀ d ∈ l, goodD d) (ll : ∀ d ∈ l, lens 300 d) (v4 v6 : List (List Int)) (v5 : Int) : ∀ (j i : Nat), i + j = l.length → (l.take i).all dealOK = true → ∀ n, j < n →
    G94_g0 k n (l, letters (l.take i), (i : Int), q.1, q.2.1, v5, v6, ()) = some ((pushF q l).2, (pushF q l).1.1, (pushF q l).1.2.1, ()) := by
  intro j
  induction j with
  | zero =>
    intro i hij ha n hn
    obtain ⟨n, rfl⟩ : ∃ m, n = m + 1 := ⟨n - 1, by omega⟩
    rw [List.take_of_length_le (by omega)] at ha ⊢
    have hP := pQ k q gl ha (by omega) (by omega)
    unfold pushF
    rw [if_pos ha, G94_g0_eq, sel_neg (by simp only [ofNat_len]; omega), show ((q.1, q.2.1, ()) : Queue) = q from rfl, hP, ocall_some]
  | succ j ih =>
    intro i hij ha n hn
    obtain ⟨n, rfl⟩ : ∃ m, n = m + 1 := ⟨n - 1, by omega⟩
    have hlt : i < l.length := by omega
    have hm := List.getElem_mem hlt
    have hL : G92 k (((l[i]).1, (l[i]).2.1, (l[i]).2.2.1, (l[i]).2.2.2.1, (l[i]).2.2.2.2.1, (l[i]).2.2.2.2.2.1, ()), ()) = _ := G92_is k 300 hk (by omega) (by omega) l[i] (gl _ hm) (ll _ hm)
    have hw : IntKind.i64.wrap ((i : Int) + 1) = ((i + 1 : Nat) : Int) := by rw [wrap64 (by omega) (by omega)]; omega
    rw [G94_g0_eq]
    simp only [ofNat_len, Int.toNat_natCast, getD_of hlt]
    rw [sel_pos (by omega), sel_pos (by omega), sel_pos (by omega), hL, ocall_some]
    by_cases ho : dealOK l[i] = true
    · rw [if_pos ho]
      simp only [decide_true, Bool.not_true, sel_false]
      have e : letters (l.take i) ++ [letterB l[i]] = letters (l.take (i + 1)) := by
        unfold letters; rw [List.take_add_one, List.getElem?_eq_getElem hlt, List.map_append]; rfl
      have hlen : (letters (l.take i)).length ≤ 1000 := by unfold letters; rw [List.length_map, List.length_take]; omega
      rw [sel_pos (by omega), hw, e]
      refine ih (i + 1) (by omega) ?_ n (by omega)
      rw [List.take_add_one, List.getElem?_eq_getElem hlt, List.all_append, ha]
      simp [ho]
    · rw [if_neg ho]
      have e : pushF q l = (q, 1) := by
        unfold pushF
        rw [if_neg fun h => ho (List.all_eq_true.1 h _ hm)]
      rw [e]
      rfl
theorem G94_is (k : Nat) (hk : 2000 < k) (q : Queue) (l : List Deal) (hl : l.length ≤ 1000) (gl : ∀ d ∈ l, goodD d) (ll : ∀ d ∈ l, lens 300 d) : G94 k (q, l, ()) = some ((pushF q l).1, (pushF q l).2, ()) := by
  have hlp := push_loop k hk q l hl gl ll
  have hQ := fun h => pQ k q gl h (by omega) (by omega)
  obtain ⟨r, items, ⟨⟩⟩ := q
  rw [G94_eq]
  simp only [ofNat_len]
  by_cases h0 : l.length = 0
  · have : l = [] := List.eq_nil_of_length_eq_zero h0
    subst this
    have hQ := hQ rfl
    rw [sel_neg (by simp), show ([] : List (List Int)) = letters [] from rfl, hQ, ocall_some]
    rfl
  have hlt : 0 < l.length := by omega
  have hm := List.getElem_mem hlt
  have hL : G92 k (((l[0]).1, (l[0]).2.1, (l[0]).2.2.1, (l[0]).2.2.2.1, (l[0]).2.2.2.2.1, (l[0]).2.2.2.2.2.1, ()), ()) = _ := G92_is k 300 hk (by omega) (by omega) l[0] (gl _ hm) (ll _ hm)
  have e0 : l.getD (Int.toNat 0) (0, [], 0, 0, [], [], ()) = l[0] := getD_of hlt _
  simp only [e0]
  rw [sel_pos (by omega), sel_pos (by omega), hL, ocall_some]
  by_cases ho : dealOK l[0] = true
  · rw [if_pos ho]
    simp only [decide_true, Bool.not_true, sel_false]
    have e : [letterB l[0]] = letters (l.take 1) := by
      unfold letters; rw [List.take_add_one, List.getElem?_eq_getElem hlt]; rfl
    have hw : IntKind.i64.wrap (0 + 1) = ((1 : Nat) : Int) := by rfl
    rw [hw, e, hlp [] [] 0 (l.length - 1) 1 (by omega) (by rw [List.take_add_one, List.getElem?_eq_getElem hlt]; simp [ho]) k (by omega), ocall_some]
  · rw [if_neg ho]
    have e : pushF (r, items, ()) l = ((r, items, ()), 1) := by
      unfold pushF
      rw [if_neg fun h => ho (List.all_eq_true.1 h _ hm)]
    rw [e]
    rfl
end Go.Proofs.YtjgnpmdbkgeakaaDoor.G
end
section
set_option linter.unusedVariables false
set_option linter.unusedSimpArgs false
set_option maxRecDepth 100000
namespace Go.Proofs.YtjgnpmdbkgeakaaDoor.G
open Go Go.Proofs.YtjgnpmdbkgeakaaDoor Th Bits
theorem deals_loop (k : Nat) (l : List Deal) (most : Nat) (hm : most ≤ 1000) : ∀ (j i : Nat), i + j = (l.take (most + 1)).length → ∀ n, j < n →
    G91_2 k n (l, (most : Int), (i : Int), ()) = some (if ((l.take (most + 1)).drop i).all (fun d => decide (lens 300 d)) = true then .inl (l, (most : Int), ()) else .inr (false, ())) := by
  intro j
  induction j with
  | zero =>
    intro i hij n hn
    obtain ⟨n, rfl⟩ : ∃ m, n = m + 1 := ⟨n - 1, by omega⟩
    rw [List.drop_eq_nil_of_le (by omega), G91_2_eq]
    rw [List.length_take] at hij
    simp only [ofNat_len]
    by_cases h : i < l.length
    · rw [sel_pos (by omega), sel_neg (by omega)]; rfl
    · rw [sel_neg (by omega)]; rfl
  | succ j ih =>
    intro i hij n hn
    obtain ⟨n, rfl⟩ : ∃ m, n = m + 1 := ⟨n - 1, by omega⟩
    have hlt' : i < (l.take (most + 1)).length := by omega
    have hij' := hij
    rw [List.length_take] at hij'
    have hlt : i < l.length := by omega
    have hS : G24 k (((l[i]).1, (l[i]).2.1, (l[i]).2.2.1, (l[i]).2.2.2.1, (l[i]).2.2.2.2.1, (l[i]).2.2.2.2.2.1, ()), ()) = _ := shortS k l[i]
    have hw : IntKind.i64.wrap ((i : Int) + 1) = ((i + 1 : Nat) : Int) := by rw [wrap64 (by omega) (by omega)]; omega
    have he : (l.take (most + 1))[i] = l[i] := List.getElem_take
    rw [G91_2_eq]
    simp only [ofNat_len, Int.toNat_natCast, getD_of hlt]
    rw [sel_pos (by omega), sel_pos (by omega), sel_pos (by omega), sel_pos (by omega), hS, ocall_some, List.drop_eq_getElem_cons hlt', he, List.all_cons]
    by_cases c : lens 300 l[i]
    · rw [decide_eq_true c, Bool.not_true, sel_false, hw, ih (i + 1) (by omega) n (by omega), Bool.true_and]
    · rw [decide_eq_false c, Bool.not_false, sel_true, Bool.false_and]; rfl
theorem G91_is (k : Nat) (l : List Deal) (most : Nat) (hm : most ≤ 1000) (hk : most + 1 < k) :
    ∃ b, G91 k (l, (most : Int), ()) = some (b, ()) ∧ (b = true → l.length ≤ most ∧ ∀ d ∈ l, lens 300 d) := by
  have h := deals_loop k l most hm (l.take (most + 1)).length 0 (by omega) k (by rw [List.length_take]; omega)
  rw [List.drop_zero, Int.natCast_zero] at h
  rw [G91_eq, h, ocall_some]
  by_cases c : (l.take (most + 1)).all (fun d => decide (lens 300 d)) = true
  · rw [if_pos c, esel_inl]
    refine ⟨_, rfl, fun h => ?_⟩
    have hle : l.length ≤ most := by have := of_decide_eq_true h; simp only [ofNat_len] at this; omega
    rw [List.take_of_length_le (by omega)] at c
    exact ⟨hle, fun d hd => by simpa using List.all_eq_true.1 c d hd⟩
  · rw [if_neg c, esel_inr]
    exact ⟨_, rfl, fun h => absurd h (by simp)⟩
def dP7 : Deal := (7, [], 0, 1, [82, 82, 78, 48, 48, 48, 48, 48, 48, 48, 48, 49], [48, 48], ())
theorem dP7_good : goodD dP7 := ⟨by decide, by decide⟩
theorem dP7_ok : dealOK dP7 = true := by decide
theorem dP7_lens : lens 300 dP7 := by unfold lens; decide
theorem dP7_len : (sendB dP7).length = 32 := by kernel_rfl
theorem G90_is (k : Nat) (hk : 4000 < k) : G90 k () = some (true, ()) := by
  have hL := G92_is k 300 (by omega) (by omega) (by omega) dP7 dP7_good dP7_lens
  rw [if_pos dP7_ok] at hL
  have hll := letter_len dP7_good dP7_ok
  have hO := G93_is k (by omega) (letterB dP7) (letter_bytes _) (by omega) (by omega)
  rw [open_letter dP7_good dP7_ok] at hO
  have hO2 := G93_is k (by omega) [0, 1] (by simp [byteOK]) (by simp) (by simp; omega)
  have e2 : openF [0, 1] = (zeroD, 3) := by kernel_rfl
  rw [e2] at hO2
  have g1 : ∀ d ∈ [dP7], goodD d := fun d hd => by rw [List.mem_singleton] at hd; rw [hd]; exact dP7_good
  have l1 : ∀ d ∈ [dP7], lens 300 d := fun d hd => by rw [List.mem_singleton] at hd; rw [hd]; exact dP7_lens
  have hP1 := G94_is k (by omega) (1, [], ()) [dP7] (by simp) g1 l1
  have p1 : pushF (1, [], ()) [dP7] = ((1, [letterB dP7], ()), 0) := by
    unfold pushF; rw [if_pos (by rw [List.all_cons, dP7_ok]; rfl)]; rfl
  rw [p1] at hP1
  have hP2 := G94_is k (by omega) (1, [letterB dP7], ()) [dP7] (by simp) g1 l1
  have p2 : pushF (1, [letterB dP7], ()) [dP7] = ((1, [letterB dP7], ()), 7) := by
    unfold pushF; rw [if_pos (by rw [List.all_cons, dP7_ok]; rfl)]; rfl
  rw [p2] at hP2
  have hlen : (letterB dP7).length = 34 := by unfold letterB; rw [frameW_len, dP7_len]
  have h1 : (letterB dP7).getD 1 0 = 32 := by
    show (((sendB dP7).length % 256 : Nat) : Int) = 32
    rw [dP7_len]; rfl
  generalize hB : letterB dP7 = B at hL hO hP1 hP2 hlen h1
  unfold dP7 at hL hO hP1 hP2
  unfold zeroD at hO2
  rw [G90_eq, hL, ocall_some]
  (try simp only [])
  rw [hO, ocall_some, hP1, ocall_some]
  (try simp only [])
  rw [hP2, ocall_some, hO2, ocall_some]
  simp only [ofNat_len, hlen, h1, decide_true, sel_true, show (Int.toNat 1) = 1 from rfl]
  rw [show ([B].getD (Int.toNat 0) []) = B from rfl, decide_eq_true (rfl : ofBytes B = ofBytes B)]
  rfl
end Go.Proofs.YtjgnpmdbkgeakaaDoor.G
end
section
set_option linter.unusedVariables false
set_option linter.unusedSimpArgs false
set_option maxRecDepth 100000
namespace Go.Proofs.YtjgnpmdbkgeakaaDoor.PurePostBack
open Go Go.Proofs.YtjgnpmdbkgeakaaDoor Th Bits G
theorem same_is (x d : G.Deal) : (sameI x.1 d.1 && (sameS x.2.1 d.2.1 && (sameI x.2.2.1 d.2.2.1 && (sameI x.2.2.2.1 d.2.2.2.1 && (sameS x.2.2.2.2.1 d.2.2.2.2.1 && (sameS x.2.2.2.2.2.1 d.2.2.2.2.2.1 && true)))))) = decide (x = d) := sameD x d
theorem take_loop (l : List G.Deal) (hl : l.length ≤ 60) (gl : ∀ d ∈ l, goodD d) (ho : l.all dealOK = true) : ∀ (j i : Nat), i + j = l.length → ∀ n, j < n →
    G21_22 6000 n (l, (i : Int), 64, letters (l.drop i), ()) = some (.inl (64, [], ())) := by
  intro j
  induction j with
  | zero =>
    intro i hij n hn
    obtain ⟨n, rfl⟩ : ∃ m, n = m + 1 := ⟨n - 1, by omega⟩
    rw [List.drop_eq_nil_of_le (by omega), G21_22_eq, sel_neg (by simp only [ofNat_len]; omega)]
    rfl
  | succ j ih =>
    intro i hij n hn
    obtain ⟨n, rfl⟩ : ∃ m, n = m + 1 := ⟨n - 1, by omega⟩
    have hlt : i < l.length := by omega
    have hm := List.getElem_mem hlt
    have g1 := gl _ hm
    have o1 := List.all_eq_true.1 ho _ hm
    have hll := letter_len g1 o1
    have hi := ih (i + 1) (by omega) n (by omega)
    have hw : IntKind.i64.wrap ((i : Int) + 1) = ((i + 1 : Nat) : Int) := by rw [wrap64 (by omega) (by omega)]; omega
    have hO := G93_is 6000 (by omega) (letterB l[i]) (letter_bytes _) (by omega) (by omega)
    rw [open_letter g1 o1] at hO
    have hT := G95_is 6000 64 (letterB l[i]) (letters (l.drop (i + 1))) (qRight_iff.2 ⟨by simp, by simp, by simp only [List.length_cons, letters, List.length_map, List.length_drop]; omega⟩) (by omega)
    rw [G21_22_eq]
    simp only [ofNat_len, Int.toNat_natCast, getD_of hlt]
    rw [sel_pos (by omega), List.drop_eq_getElem_cons hlt, show letters (l[i] :: l.drop (i + 1)) = letterB l[i] :: letters (l.drop (i + 1)) from rfl, hT, ocall_some, hO, ocall_some]
    simp only [decide_true, Bool.not_true, sel_false]
    rw [sel_pos (by omega), sel_pos (by omega), same_is, decide_eq_true rfl, Bool.not_true, sel_false, hw]
    exact hi
theorem push (l : List G.Deal) (hl : l.length ≤ 60) (gl : ∀ d ∈ l, goodD d) (ll : ∀ d ∈ l, lens 300 d) : (ocall (G94 6000 ((64, [], ()), l, ())) fun r => sel (!decide (r.2.1 = 0)) (sel (decide (r.2.1 = 1)) (some (decide (Int.ofNat r.1.2.1.length = 0), ())) (some (false, ())))
    (ocall (G21_22 6000 6000 (l, 0, r.1.1, r.1.2.1, ())) fun e => esel e (fun v => some (decide (Int.ofNat v.2.1.length = 0), ())) fun e => some (e.1, ()))) = some (true, ()) := by
  rw [G94_is 6000 (by omega) (64, [], ()) l (by omega) gl ll, ocall_some]
  unfold pushF
  by_cases ho : l.all dealOK = true
  · have hq : putQ (64, [], ()) (letters l) = ((64, letters l, ()), 0) := by
      unfold putQ
      rw [if_pos (by rfl), if_pos (by simp only [letters, List.length_map, List.length_nil]; omega)]
      rfl
    have ht := take_loop l hl gl ho l.length 0 (by omega) 6000 (by omega)
    rw [List.drop_zero, Int.natCast_zero] at ht
    rw [if_pos ho, hq]
    simp only [decide_true, Bool.not_true, sel_false]
    rw [ht, ocall_some, esel_inl]
    rfl
  · rw [if_neg ho]
    rfl
theorem tail (b : List Int) (hb : ∀ c ∈ b, byteOK c) (hbl : b.length ≤ 3000) {P : Option (Bool × Unit)} (hP : P = some (true, ())) : (ocall (G93 6000 (b, ())) fun r => sel (decide (r.2.1 = 0)) (ocall (G92 6000 ((r.1.1, r.1.2.1, r.1.2.2.1, r.1.2.2.2.1, r.1.2.2.2.2.1, r.1.2.2.2.2.2.1, ()), ()))
    fun r_3 => sel (!decide (r_3.2.1 = 0)) (some (false, ())) (ocall (G33 6000 ((r.1.1, r.1.2.1, r.1.2.2.1, r.1.2.2.2.1, r.1.2.2.2.2.1, r.1.2.2.2.2.2.1, ()), ())) fun r => sel (!r.1) (some (false, ())) (sel (!decide (ofBytes r_3.1 = ofBytes b)) (some (false, ())) P)))
    (sel (!(sameI r.1.1 0 && (sameS r.1.2.1 [] && (sameI r.1.2.2.1 0 && (sameI r.1.2.2.2.1 0 && (sameS r.1.2.2.2.2.1 [] && (sameS r.1.2.2.2.2.2.1 [] && true))))))) (some (false, ())) P)) = some (true, ()) := by
  rw [G93_is 6000 (by omega) b hb (by omega) (by omega), ocall_some]
  (try simp only [])
  by_cases h : (openF b).2 = 0
  · obtain ⟨h1, h2, h3, h4⟩ := open_right hb h
    generalize (openF b).1 = o at h1 h2 h3 h4
    have hL : G92 6000 ((o.1, o.2.1, o.2.2.1, o.2.2.2.1, o.2.2.2.2.1, o.2.2.2.2.2.1, ()), ()) = _ := G92_is 6000 1000 (by omega) (by omega) (by omega) o h3 h4
    have hR : G33 6000 ((o.1, o.2.1, o.2.2.1, o.2.2.2.1, o.2.2.2.2.1, o.2.2.2.2.2.1, ()), ()) = _ := G33_is 6000 1000 (by omega) (by omega) o h4 h3
    rw [sel_pos h, hL, if_pos h1, ocall_some]
    simp only [decide_true, Bool.not_true, sel_false]
    rw [hR, h1, ocall_some, h2]
    simp only [decide_true, Bool.not_true, sel_false]
    exact hP
  · rcases open_err b with e | e
    · exact absurd e h
    · rw [sel_neg h, e]
      exact hP
theorem main (d e : G.Deal) (b : List Int) (l : List G.Deal) (gd : goodD d) (ge : goodD e) (hb : ∀ c ∈ b, byteOK c) (gl : ∀ d ∈ l, goodD d) : G21 6000 (d, e, b, l, ()) = some (true, ()) := by
  have hsd := shortS 6000 d
  have hse := shortS 6000 e
  have hLd := fun hl => G92_is 6000 300 (by omega) (by omega) (by omega) d gd hl
  have hLe := fun hl => G92_is 6000 300 (by omega) (by omega) (by omega) e ge hl
  have hO := fun h : dealOK d = true => G93_is 6000 (by omega) (letterB d) (letter_bytes _) (by have := letter_len gd h; omega) (by have := letter_len gd h; omega)
  have hol := fun h : dealOK d = true => open_letter gd h
  have hinj := fun (h : dealOK d = true) (h' : dealOK e = true) => (send_inj gd ge h h')
  have hlj : dealOK d = true → dealOK e = true → decide (ofBytes (letterB d) = ofBytes (letterB e)) = decide (d = e) := fun h h' => by
    rw [G.ofBytes_inj (letter_bytes _) (letter_bytes _)]
    exact decide_eq_decide.2 ((frameW_inj).trans (hinj h h'))
  have hdd := same_is d d
  have hde := same_is d e
  obtain ⟨bb, hD, hDl⟩ := G91_is 6000 l 60 (by omega) (by omega)
  have hD : G91 6000 (l, 60, ()) = some (bb, ()) := hD
  obtain ⟨d1, d2, d3, d4, d5, d6, ⟨⟩⟩ := d
  obtain ⟨e1, e2, e3, e4, e5, e6, ⟨⟩⟩ := e
  (try simp only [] at hdd hde)
  rw [G21_eq, G90_is 6000 (by omega), ocall_some]
  simp only [Bool.not_true, sel_false]
  rw [hsd, ocall_some]
  by_cases ld : lens 300 (d1, d2, d3, d4, d5, d6, ())
  case neg => rw [decide_eq_false ld]; rfl
  rw [decide_eq_true ld]
  simp only [Bool.not_true, sel_false]
  rw [hse, ocall_some]
  by_cases le : lens 300 (e1, e2, e3, e4, e5, e6, ())
  case neg => rw [decide_eq_false le]; rfl
  rw [decide_eq_true le]
  simp only [Bool.not_true, sel_false, ofNat_len]
  by_cases c : (3000 : Int) < b.length
  · rw [sel_pos c]
  rw [sel_neg c, hD, ocall_some]
  cases bb with
  | false => rfl
  | true =>
  obtain ⟨hl, ll⟩ := hDl rfl
  have ht := tail b hb (by omega) (push l hl gl ll)
  simp only [ofNat_len] at ht
  simp only [Bool.not_true, sel_false]
  rw [hLd ld, ocall_some, hLe le, ocall_some]
  by_cases od : dealOK (d1, d2, d3, d4, d5, d6, ()) = true
  · rw [if_pos od]
    simp only [decide_true, sel_true]
    rw [hO od, hol od, ocall_some]
    simp only [decide_true, Bool.not_true, sel_false]
    rw [hdd]
    simp only [decide_true, Bool.not_true, sel_false]
    by_cases oe : dealOK (e1, e2, e3, e4, e5, e6, ()) = true
    · rw [if_pos oe]
      simp only [decide_true, sel_true]
      rw [hlj od oe, hde]
      simp only [beq_self_eq_true, Bool.not_true, sel_false]
      exact ht
    · rw [if_neg oe]
      rw [sel_neg (by decide)]
      exact ht
  · rw [if_neg od]
    rw [sel_neg (by decide)]
    exact ht
theorem pure (x0 : Ty.den (.st (.cons (.int .i64) (.cons .str (.cons (.int .u64) (.cons (.int .u32) (.cons .str (.cons .str .nil)))))))) (x1 : Ty.den (.st (.cons (.int .i64) (.cons .str (.cons (.int .u64) (.cons (.int .u32) (.cons .str (.cons .str .nil)))))))) (x2 : Ty.den (.slice (.int .u8))) (x3 : Ty.den (.slice (.st (.cons (.int .i64) (.cons .str (.cons (.int .u64) (.cons (.int .u32) (.cons .str (.cons .str .nil))))))))) (g0 : Ty.Good (.st (.cons (.int .i64) (.cons .str (.cons (.int .u64) (.cons (.int .u32) (.cons .str (.cons .str .nil))))))) x0) (g1 : Ty.Good (.st (.cons (.int .i64) (.cons .str (.cons (.int .u64) (.cons (.int .u32) (.cons .str (.cons .str .nil))))))) x1) (g2 : Ty.Good (.slice (.int .u8)) x2) (g3 : Ty.Good (.slice (.st (.cons (.int .i64) (.cons .str (.cons (.int .u64) (.cons (.int .u32) (.cons .str (.cons .str .nil)))))))) x3) : ∃ k, F21 k (x0, (x1, (x2, (x3, PUnit.unit)))) = some (true, PUnit.unit) :=
  ⟨6000, main x0 x1 x2 x3 ⟨good_u64 g0.2.2.1, good_u32 g0.2.2.2.1⟩ ⟨good_u64 g1.2.2.1, good_u32 g1.2.2.2.1⟩ (fun c hc => good_u8 (g2.2.2 c hc)) (fun d hd => have h := g3.2.2 d hd; ⟨good_u64 h.2.2.1, good_u32 h.2.2.2.1⟩)⟩
end Go.Proofs.YtjgnpmdbkgeakaaDoor.PurePostBack
end
section
set_option linter.unusedVariables false
set_option linter.unusedSimpArgs false
namespace Go.Proofs.YtjgnpmdbkgeakaaDoor
open Go Go.ChangeShapes Go.WideShapes Go.ChangeAt Go.RowKit Th
theorem own : ownKnob Tryd.prog.godebug = none := by kernel_rfl
theorem laidOut : laidOutB Tryd.prog = true := by kernel_rfl
theorem gTypes : Tryd.prog.globalNamed "paydesk/deal.types" = some 0 := by kernel_rfl
theorem tTypes : (Tryd.prog.globals[0]?).map (·.type) = some 229 := by kernel_rfl
theorem mapsRowed' : mapsRowed Tryd.prog = true := by kernel_rfl
theorem stopsHeard' : Tryd.prog.stopsHeard = true := by kernel_rfl
theorem stops' : Tryd.prog.stops = [] := by kernel_rfl
theorem stopKnobs' : Tryd.prog.stopKnobs = [] := by kernel_rfl
theorem plainKeys' : Tryd.prog.plainKeys = Rows.keyRightRow.plainKeys := by kernel_rfl
def ioL : List Char := [Char.ofNat 104, Char.ofNat 97, Char.ofNat 114, Char.ofNat 110, Char.ofNat 101, Char.ofNat 115, Char.ofNat 115, Char.ofNat 32, Char.ofNat 52, Char.ofNat 98, Char.ofNat 55, Char.ofNat 54, Char.ofNat 48, Char.ofNat 97, Char.ofNat 99, Char.ofNat 102, Char.ofNat 49, Char.ofNat 97, Char.ofNat 100, Char.ofNat 99, Char.ofNat 54, Char.ofNat 100, Char.ofNat 51, Char.ofNat 54, Char.ofNat 49, Char.ofNat 50, Char.ofNat 51, Char.ofNat 50, Char.ofNat 57, Char.ofNat 97, Char.ofNat 98, Char.ofNat 51, Char.ofNat 99, Char.ofNat 50, Char.ofNat 48, Char.ofNat 101, Char.ofNat 99, Char.ofNat 48, Char.ofNat 49, Char.ofNat 52, Char.ofNat 53, Char.ofNat 53, Char.ofNat 56, Char.ofNat 101, Char.ofNat 50, Char.ofNat 54, Char.ofNat 55, Char.ofNat 99, Char.ofNat 52, Char.ofNat 57, Char.ofNat 52, Char.ofNat 101, Char.ofNat 54, Char.ofNat 53, Char.ofNat 52, Char.ofNat 48, Char.ofNat 49, Char.ofNat 57, Char.ofNat 99, Char.ofNat 97, Char.ofNat 98, Char.ofNat 49, Char.ofNat 57, Char.ofNat 50, Char.ofNat 49, Char.ofNat 49, Char.ofNat 98, Char.ofNat 102, Char.ofNat 49, Char.ofNat 57, Char.ofNat 54, Char.ofNat 49, Char.ofNat 32, Char.ofNat 99, Char.ofNat 117, Char.ofNat 116, Char.ofNat 32, Char.ofNat 97, Char.ofNat 116, Char.ofNat 32, Char.ofNat 112, Char.ofNat 97, Char.ofNat 121, Char.ofNat 100, Char.ofNat 101, Char.ofNat 115, Char.ofNat 107, Char.ofNat 47, Char.ofNat 112, Char.ofNat 97, Char.ofNat 121, Char.ofNat 100, Char.ofNat 101, Char.ofNat 115, Char.ofNat 107, Char.ofNat 108, Char.ofNat 97, Char.ofNat 119, Char.ofNat 48, Char.ofNat 55, Char.ofNat 46, Char.ofNat 75, Char.ofNat 101, Char.ofNat 121, Char.ofNat 82, Char.ofNat 105, Char.ofNat 103, Char.ofNat 104, Char.ofNat 116, Char.ofNat 32, Char.ofNat 112, Char.ofNat 97, Char.ofNat 121, Char.ofNat 100, Char.ofNat 101, Char.ofNat 115, Char.ofNat 107, Char.ofNat 47, Char.ofNat 112, Char.ofNat 97, Char.ofNat 121, Char.ofNat 100, Char.ofNat 101, Char.ofNat 115, Char.ofNat 107, Char.ofNat 108, Char.ofNat 97, Char.ofNat 119, Char.ofNat 48, Char.ofNat 55, Char.ofNat 46, Char.ofNat 75, Char.ofNat 101, Char.ofNat 121, Char.ofNat 79, Char.ofNat 114, Char.ofNat 100, Char.ofNat 101, Char.ofNat 114, Char.ofNat 32, Char.ofNat 112, Char.ofNat 97, Char.ofNat 121, Char.ofNat 100, Char.ofNat 101, Char.ofNat 115, Char.ofNat 107, Char.ofNat 47, Char.ofNat 112, Char.ofNat 97, Char.ofNat 121, Char.ofNat 100, Char.ofNat 101, Char.ofNat 115, Char.ofNat 107, Char.ofNat 108, Char.ofNat 97, Char.ofNat 119, Char.ofNat 48, Char.ofNat 55, Char.ofNat 46, Char.ofNat 75, Char.ofNat 101, Char.ofNat 121, Char.ofNat 83, Char.ofNat 104, Char.ofNat 97, Char.ofNat 114, Char.ofNat 100, Char.ofNat 115, Char.ofNat 32, Char.ofNat 112, Char.ofNat 97, Char.ofNat 121, Char.ofNat 100, Char.ofNat 101, Char.ofNat 115, Char.ofNat 107, Char.ofNat 47, Char.ofNat 112, Char.ofNat 97, Char.ofNat 121, Char.ofNat 100, Char.ofNat 101, Char.ofNat 115, Char.ofNat 107, Char.ofNat 108, Char.ofNat 97, Char.ofNat 119, Char.ofNat 48, Char.ofNat 54, Char.ofNat 46, Char.ofNat 68, Char.ofNat 101, Char.ofNat 97, Char.ofNat 108, Char.ofNat 82, Char.ofNat 105, Char.ofNat 103, Char.ofNat 104, Char.ofNat 116, Char.ofNat 32, Char.ofNat 112, Char.ofNat 97, Char.ofNat 121, Char.ofNat 100, Char.ofNat 101, Char.ofNat 115, Char.ofNat 107, Char.ofNat 47, Char.ofNat 112, Char.ofNat 97, Char.ofNat 121, Char.ofNat 100, Char.ofNat 101, Char.ofNat 115, Char.ofNat 107, Char.ofNat 108, Char.ofNat 97, Char.ofNat 119, Char.ofNat 48, Char.ofNat 54, Char.ofNat 46, Char.ofNat 68, Char.ofNat 101, Char.ofNat 97, Char.ofNat 108, Char.ofNat 66, Char.ofNat 97, Char.ofNat 99, Char.ofNat 107, Char.ofNat 32, Char.ofNat 112, Char.ofNat 97, Char.ofNat 121, Char.ofNat 100, Char.ofNat 101, Char.ofNat 115, Char.ofNat 107, Char.ofNat 47, Char.ofNat 112, Char.ofNat 97, Char.ofNat 121, Char.ofNat 100, Char.ofNat 101, Char.ofNat 115, Char.ofNat 107, Char.ofNat 108, Char.ofNat 97, Char.ofNat 119, Char.ofNat 49, Char.ofNat 50, Char.ofNat 46, Char.ofNat 67, Char.ofNat 111, Char.ofNat 114, Char.ofNat 101, Char.ofNat 82, Char.ofNat 105, Char.ofNat 103, Char.ofNat 104, Char.ofNat 116, Char.ofNat 32, Char.ofNat 112, Char.ofNat 97, Char.ofNat 121, Char.ofNat 100, Char.ofNat 101, Char.ofNat 115, Char.ofNat 107, Char.ofNat 47, Char.ofNat 112, Char.ofNat 97, Char.ofNat 121, Char.ofNat 100, Char.ofNat 101, Char.ofNat 115, Char.ofNat 107, Char.ofNat 108, Char.ofNat 97, Char.ofNat 119, Char.ofNat 49, Char.ofNat 50, Char.ofNat 46, Char.ofNat 67, Char.ofNat 111, Char.ofNat 114, Char.ofNat 101, Char.ofNat 83, Char.ofNat 116, Char.ofNat 101, Char.ofNat 112, Char.ofNat 115, Char.ofNat 32, Char.ofNat 112, Char.ofNat 97, Char.ofNat 121, Char.ofNat 100, Char.ofNat 101, Char.ofNat 115, Char.ofNat 107, Char.ofNat 47, Char.ofNat 112, Char.ofNat 97, Char.ofNat 121, Char.ofNat 100, Char.ofNat 101, Char.ofNat 115, Char.ofNat 107, Char.ofNat 108, Char.ofNat 97, Char.ofNat 119, Char.ofNat 49, Char.ofNat 50, Char.ofNat 46, Char.ofNat 67, Char.ofNat 111, Char.ofNat 114, Char.ofNat 101, Char.ofNat 79, Char.ofNat 110, Char.ofNat 99, Char.ofNat 101, Char.ofNat 32, Char.ofNat 112, Char.ofNat 97, Char.ofNat 121, Char.ofNat 100, Char.ofNat 101, Char.ofNat 115, Char.ofNat 107, Char.ofNat 47, Char.ofNat 112, Char.ofNat 97, Char.ofNat 121, Char.ofNat 100, Char.ofNat 101, Char.ofNat 115, Char.ofNat 107, Char.ofNat 108, Char.ofNat 97, Char.ofNat 119, Char.ofNat 49, Char.ofNat 50, Char.ofNat 46, Char.ofNat 67, Char.ofNat 111, Char.ofNat 114, Char.ofNat 101, Char.ofNat 82, Char.ofNat 101, Char.ofNat 115, Char.ofNat 116, Char.ofNat 115, Char.ofNat 32, Char.ofNat 112, Char.ofNat 97, Char.ofNat 121, Char.ofNat 100, Char.ofNat 101, Char.ofNat 115, Char.ofNat 107, Char.ofNat 47, Char.ofNat 112, Char.ofNat 97, Char.ofNat 121, Char.ofNat 100, Char.ofNat 101, Char.ofNat 115, Char.ofNat 107, Char.ofNat 108, Char.ofNat 97, Char.ofNat 119, Char.ofNat 49, Char.ofNat 48, Char.ofNat 46, Char.ofNat 83, Char.ofNat 104, Char.ofNat 97, Char.ofNat 114, Char.ofNat 100, Char.ofNat 82, Char.ofNat 105, Char.ofNat 103, Char.ofNat 104, Char.ofNat 116, Char.ofNat 32, Char.ofNat 112, Char.ofNat 97, Char.ofNat 121, Char.ofNat 100, Char.ofNat 101, Char.ofNat 115, Char.ofNat 107, Char.ofNat 47, Char.ofNat 112, Char.ofNat 97, Char.ofNat 121, Char.ofNat 100, Char.ofNat 101, Char.ofNat 115, Char.ofNat 107, Char.ofNat 108, Char.ofNat 97, Char.ofNat 119, Char.ofNat 49, Char.ofNat 48, Char.ofNat 46, Char.ofNat 83, Char.ofNat 104, Char.ofNat 97, Char.ofNat 114, Char.ofNat 100, Char.ofNat 83, Char.ofNat 119, Char.ofNat 97, Char.ofNat 112, Char.ofNat 115, Char.ofNat 32, Char.ofNat 112, Char.ofNat 97, Char.ofNat 121, Char.ofNat 100, Char.ofNat 101, Char.ofNat 115, Char.ofNat 107, Char.ofNat 47, Char.ofNat 112, Char.ofNat 97, Char.ofNat 121, Char.ofNat 100, Char.ofNat 101, Char.ofNat 115, Char.ofNat 107, Char.ofNat 108, Char.ofNat 97, Char.ofNat 119, Char.ofNat 49, Char.ofNat 53, Char.ofNat 46, Char.ofNat 76, Char.ofNat 101, Char.ofNat 100, Char.ofNat 103, Char.ofNat 101, Char.ofNat 114, Char.ofNat 82, Char.ofNat 105, Char.ofNat 103, Char.ofNat 104, Char.ofNat 116, Char.ofNat 32, Char.ofNat 112, Char.ofNat 97, Char.ofNat 121, Char.ofNat 100, Char.ofNat 101, Char.ofNat 115, Char.ofNat 107, Char.ofNat 47, Char.ofNat 112, Char.ofNat 97, Char.ofNat 121, Char.ofNat 100, Char.ofNat 101, Char.ofNat 115, Char.ofNat 107, Char.ofNat 108, Char.ofNat 97, Char.ofNat 119, Char.ofNat 49, Char.ofNat 53, Char.ofNat 46, Char.ofNat 76, Char.ofNat 101, Char.ofNat 100, Char.ofNat 103, Char.ofNat 101, Char.ofNat 114, Char.ofNat 79, Char.ofNat 110, Char.ofNat 99, Char.ofNat 101, Char.ofNat 32, Char.ofNat 112, Char.ofNat 97, Char.ofNat 121, Char.ofNat 100, Char.ofNat 101, Char.ofNat 115, Char.ofNat 107, Char.ofNat 47, Char.ofNat 112, Char.ofNat 97, Char.ofNat 121, Char.ofNat 100, Char.ofNat 101, Char.ofNat 115, Char.ofNat 107, Char.ofNat 108, Char.ofNat 97, Char.ofNat 119, Char.ofNat 49, Char.ofNat 53, Char.ofNat 46, Char.ofNat 76, Char.ofNat 101, Char.ofNat 100, Char.ofNat 103, Char.ofNat 101, Char.ofNat 114, Char.ofNat 84, Char.ofNat 119, Char.ofNat 105, Char.ofNat 99, Char.ofNat 101, Char.ofNat 32, Char.ofNat 112, Char.ofNat 97, Char.ofNat 121, Char.ofNat 100, Char.ofNat 101, Char.ofNat 115, Char.ofNat 107, Char.ofNat 47, Char.ofNat 112, Char.ofNat 97, Char.ofNat 121, Char.ofNat 100, Char.ofNat 101, Char.ofNat 115, Char.ofNat 107, Char.ofNat 108, Char.ofNat 97, Char.ofNat 119, Char.ofNat 48, Char.ofNat 54, Char.ofNat 46, Char.ofNat 68, Char.ofNat 101, Char.ofNat 97, Char.ofNat 108, Char.ofNat 66, Char.ofNat 121, Char.ofNat 116, Char.ofNat 101, Char.ofNat 115, Char.ofNat 32, Char.ofNat 112, Char.ofNat 97, Char.ofNat 121, Char.ofNat 100, Char.ofNat 101, Char.ofNat 115, Char.ofNat 107, Char.ofNat 47, Char.ofNat 112, Char.ofNat 97, Char.ofNat 121, Char.ofNat 100, Char.ofNat 101, Char.ofNat 115, Char.ofNat 107, Char.ofNat 108, Char.ofNat 97, Char.ofNat 119, Char.ofNat 49, Char.ofNat 52, Char.ofNat 46, Char.ofNat 76, Char.ofNat 105, Char.ofNat 110, Char.ofNat 101, Char.ofNat 82, Char.ofNat 105, Char.ofNat 103, Char.ofNat 104, Char.ofNat 116, Char.ofNat 32, Char.ofNat 112, Char.ofNat 97, Char.ofNat 121, Char.ofNat 100, Char.ofNat 101, Char.ofNat 115, Char.ofNat 107, Char.ofNat 47, Char.ofNat 112, Char.ofNat 97, Char.ofNat 121, Char.ofNat 100, Char.ofNat 101, Char.ofNat 115, Char.ofNat 107, Char.ofNat 108, Char.ofNat 97, Char.ofNat 119, Char.ofNat 49, Char.ofNat 52, Char.ofNat 46, Char.ofNat 76, Char.ofNat 105, Char.ofNat 110, Char.ofNat 101, Char.ofNat 80, Char.ofNat 97, Char.ofNat 114, Char.ofNat 116, Char.ofNat 115, Char.ofNat 32, Char.ofNat 112, Char.ofNat 97, Char.ofNat 121, Char.ofNat 100, Char.ofNat 101, Char.ofNat 115, Char.ofNat 107, Char.ofNat 47, Char.ofNat 112, Char.ofNat 97, Char.ofNat 121, Char.ofNat 100, Char.ofNat 101, Char.ofNat 115, Char.ofNat 107, Char.ofNat 108, Char.ofNat 97, Char.ofNat 119, Char.ofNat 49, Char.ofNat 52, Char.ofNat 46, Char.ofNat 76, Char.ofNat 105, Char.ofNat 110, Char.ofNat 101, Char.ofNat 69, Char.ofNat 118, Char.ofNat 101, Char.ofNat 110, Char.ofNat 116, Char.ofNat 115, Char.ofNat 32, Char.ofNat 112, Char.ofNat 97, Char.ofNat 121, Char.ofNat 100, Char.ofNat 101, Char.ofNat 115, Char.ofNat 107, Char.ofNat 47, Char.ofNat 112, Char.ofNat 97, Char.ofNat 121, Char.ofNat 100, Char.ofNat 101, Char.ofNat 115, Char.ofNat 107, Char.ofNat 108, Char.ofNat 97, Char.ofNat 119, Char.ofNat 49, Char.ofNat 55, Char.ofNat 46, Char.ofNat 80, Char.ofNat 111, Char.ofNat 115, Char.ofNat 116, Char.ofNat 66, Char.ofNat 97, Char.ofNat 99, Char.ofNat 107, Char.ofNat 32, Char.ofNat 112, Char.ofNat 97, Char.ofNat 121, Char.ofNat 100, Char.ofNat 101, Char.ofNat 115, Char.ofNat 107, Char.ofNat 47, Char.ofNat 112, Char.ofNat 97, Char.ofNat 121, Char.ofNat 100, Char.ofNat 101, Char.ofNat 115, Char.ofNat 107, Char.ofNat 108, Char.ofNat 97, Char.ofNat 119, Char.ofNat 50, Char.ofNat 49, Char.ofNat 46, Char.ofNat 84, Char.ofNat 114, Char.ofNat 97, Char.ofNat 99, Char.ofNat 101, Char.ofNat 79, Char.ofNat 116, Char.ofNat 104, Char.ofNat 101, Char.ofNat 114, Char.ofNat 115]
theorem io0 : Tryd.prog.initOrder = String.ofList ioL := by kernel_rfl
theorem io : Tryd.prog.initOrder.toList = ioL := by rw [io0, String.toList_ofList]
def ioW : List (List Char) := wordsSigns ioL
theorem ws : wordsSigns Tryd.prog.initOrder.toList = ioW := by rw [io]; rfl
def mainOf (l : List (List Char)) : Option (Bool × List Char) := match l with
  | h :: s :: _ => if !isSumSigns s then none else if h == "harness".toList then some (true, s) else if h == "ownmain".toList then some (false, s) else none
  | _ => none
theorem mainIs_of {P : Program} {W : List (List Char)} (h : wordsSigns P.initOrder.toList = W) : P.mainIs = mainOf W := by
  unfold Program.mainIs; rw [h]; rfl
theorem sha : (ioL.drop 8).take 64 = "4b760acf1adc6d3612329ab3c20ec014558e267c494e654019cab19211bf1961".toList := by
  have : "4b760acf1adc6d3612329ab3c20ec014558e267c494e654019cab19211bf1961" = String.ofList ((ioL.drop 8).take 64) := by kernel_rfl
  rw [this, String.toList_ofList]
theorem main0 : mainOf ioW = some (true, (ioL.drop 8).take 64) := by kernel_rfl
theorem mainIs' : Tryd.prog.mainIs = some (true, "4b760acf1adc6d3612329ab3c20ec014558e267c494e654019cab19211bf1961".toList) := by
  rw [← sha, ← main0]; exact mainIs_of ws
def mayOf (l : List (List Char)) (laysLater bearsReflect : Bool) (fits : List String → Bool) : Bool := match behindMainWord l with
  | c :: rest =>
    ((c == "gc".toList || c == "spec".toList) && (rest.isEmpty || rest.head? == some "stop".toList)) ||
    (c == "carried".toList && rest.take 2 == ["gc".toList, "cut".toList] && !laysLater && !bearsReflect) ||
    ((stripLifts liftWords (c :: rest)).2.head? == some "cut".toList &&
      ((stripLifts liftWords (c :: rest)).1.contains "finals" || !laysLater) && ((stripLifts liftWords (c :: rest)).1.contains "reflectrows" || !bearsReflect) &&
      ((stripLifts liftWords (c :: rest)).1.contains "reflectrows" || !(stripLifts liftWords (c :: rest)).1.contains "leanrows") &&
      fits (stripLifts liftWords (c :: rest)).1)
  | [] => false
theorem may_of {P : Program} {W : List (List Char)} (h : wordsSigns P.initOrder.toList = W) : P.mayEnter = mayOf W P.laysLater P.bearsReflect P.doorFits := by
  unfold Program.mayEnter; rw [h]; rfl
theorem lays : Tryd.prog.laysLater = false := by kernel_rfl
theorem bears : Tryd.prog.bearsReflect = false := by kernel_rfl
theorem strip0 : mayOf ioW false false (fun l => decide (l = [])) = true := by kernel_rfl
theorem fits0 : Tryd.prog.doorFits [] = true := by kernel_rfl
theorem may_mono {W : List (List Char)} {a b : Bool} {f g : List String → Bool} (hfg : ∀ l, f l = true → g l = true) (h : mayOf W a b f = true) : mayOf W a b g = true := by
  unfold mayOf at h ⊢
  split at h
  · simp only [Bool.or_eq_true, Bool.and_eq_true] at h ⊢
    rcases h with (h | h) | h
    · exact .inl (.inl h)
    · exact .inl (.inr h)
    · exact .inr ⟨h.1, hfg _ h.2⟩
  · exact h
theorem mayEnter' : Tryd.prog.mayEnter = true := by
  rw [may_of ws, lays, bears]
  exact may_mono (fun l h => by rw [decide_eq_true_eq] at h; rw [h]; exact fits0) strip0
def liftsOf (l : List (List Char)) : List String :=
  let r := stripLifts liftWords (behindMainWord l)
  if r.2.head? == some "cut".toList then r.1 else []
theorem headLifts_of {P : Program} {W : List (List Char)} (h : wordsSigns P.initOrder.toList = W) : P.headLifts = liftsOf W := by
  unfold Program.headLifts; rw [h]; rfl
theorem headLifts' : Tryd.prog.headLifts = [] := (headLifts_of ws).trans (by kernel_rfl)
def finalOf (l : List (List Char)) (hl : List String) : Bool :=
  let ws := behindMainWord l
  (ws.head? == some "carried".toList && ws.take 3 != ["carried".toList, "gc".toList, "cut".toList]) || hl.contains "finals"
theorem liftsFinal_of {P : Program} {W : List (List Char)} (h : wordsSigns P.initOrder.toList = W) : P.liftsFinal = finalOf W P.headLifts := by
  unfold Program.liftsFinal; rw [h]; rfl
theorem liftsFinal' : Tryd.prog.liftsFinal = Rows.keyRightRow.lifted := by rw [liftsFinal_of ws, headLifts']; kernel_rfl
def makeOf (l : List (List Char)) (hl : List String) : Option Make :=
  match behindMainWord l with
  | c :: rest => if c == "gc".toList || c == "spec".toList then some .whole else if c == "cut".toList || (c == "finals".toList && rest.head? == some "cut".toList) then some .cut else if c == "carried".toList then some .carried else if hl.isEmpty then none else some (.lifted hl)
  | [] => none
theorem make_of {P : Program} {W : List (List Char)} (h : wordsSigns P.initOrder.toList = W) : P.make = makeOf W P.headLifts := by
  unfold Program.make; rw [h]; rfl
theorem make' : Tryd.prog.make = some Rows.keyRightRow.make := by rw [make_of ws, headLifts']; kernel_rfl
abbrev laidL : List (String × DataW Unit) := [("paydesk/deal.types", Rows.laid_paydesk_deal_types)]
theorem door_met (os : Os) (args : Array Value) : laidMetH Tryd.prog laidL ((World.doorLaid Tryd.prog 400 os).forCall (fun _ _ => 0) ⟨#[], args, []⟩).memory :=
  laidMetH_of_parts3 (fuel := 8) (laidMet_of_run' 8 (by kernel_rfl) (by kernel_rfl)) (by kernel_rfl) (by kernel_rfl)
theorem glob_of_laid {W : World} (h : laidMetH Tryd.prog laidL W) : GlobOK W (Old W) := by
  rw [MakeChecks.laidMetH_plain _ _ _ (by kernel_rfl)] at h
  obtain ⟨ps, ⟨g0, t0, cs0, f0, p0, q0, hg0, ht0, hv0, hd0, _, _⟩, _, _⟩ := h
  obtain rfl := Option.some.inj (gTypes.symm.trans hg0)
  obtain rfl := Option.some.inj (tTypes.symm.trans ht0)
  obtain ⟨xs, m1, rfl, hx1, hlen, hn8, hel⟩ := DataW.trod_array Tryd.underlying229 hd0
  have c9 : Tryd.prog.cellsOf 9 = 1 := by kernel_rfl
  have cA : Tryd.prog.cellsOf 229 = 8 := by kernel_rfl
  simp only [Prod.mk.injEq] at hx1
  have hx1 : (DataW.agg [.lit (.string []), .lit (.string [48, 49, 48, 48]), .lit (.string [48, 49, 49, 48]), .lit (.string [48, 52, 48, 48]), .lit (.string [48, 52, 49, 48]), .lit (.string [48, 52, 50, 48]), .lit (.string [48, 52, 50, 49]), .lit (.string [48, 52, 51, 48])] : DataW Unit) = .agg (xs.map (·.1)) := hx1.1
  simp only [DataW.agg.injEq] at hx1
  have key : ∀ (j : Nat) (s : List UInt8), ([[], [48, 49, 48, 48], [48, 49, 49, 48], [48, 52, 48, 48], [48, 52, 49, 48], [48, 52, 50, 48], [48, 52, 50, 49], [48, 52, 51, 48]] : List (List UInt8))[j]? = some s → W.cell? ⟨0, j, none⟩ = some (strV s) := by
    intro j s hs
    have hj : j < 8 := by have := (List.getElem?_eq_some_iff.1 hs).1; simpa using this
    have he := hel j hj
    rw [c9, Nat.mul_one] at he
    have hxj : xs[j]? = some xs[j] := by simp [show j < xs.length by omega]
    rw [hxj] at he
    obtain ⟨b, e1, e2, _⟩ := DataW.trod_string Tryd.underlying9 he
    have hlit : xs[j].1 = .lit (.string s) := by
      have e3 : (xs.map (·.1))[j]? = some xs[j].1 := by rw [List.getElem?_map, hxj]; rfl
      rw [← hx1] at e3
      have h8 : j = 0 ∨ j = 1 ∨ j = 2 ∨ j = 3 ∨ j = 4 ∨ j = 5 ∨ j = 6 ∨ j = 7 := by omega
      rcases h8 with rfl | rfl | rfl | rfl | rfl | rfl | rfl | rfl <;> (simp only [List.getElem?_cons_zero, List.getElem?_cons_succ, Option.some.injEq] at e3 hs; subst hs; exact e3.symm)
    rw [e2] at hlit
    have hb : b.data.toList = s := by simpa using hlit
    have hc : cs0[j]? = some (.string b) := by
      have : (cs0.toList.drop j).take 1 = [.string b] := e1
      have h1 : ((cs0.toList.drop j).take 1)[0]? = some (.string b) := by rw [this]; rfl
      rw [List.getElem?_take_of_lt (by omega), List.getElem?_drop, Nat.add_zero, Array.getElem?_toList] at h1
      exact h1
    rw [World.var?_cell gTypes hv0 j, hc]
    unfold strV
    rw [← hb]
  have h0 : 0 < W.heap.size := by
    have := key 0 [] rfl
    unfold World.cell? at this
    split at this
    · rename_i hb; exact (Array.getElem?_eq_some_iff.1 hb).1
    · cases this
  intro n r hr
  have hn : n = 0 := by
    unfold gtab at hr
    cases hb : Nat.beq n 0 with
    | false => rw [hb] at hr; cases hr
    | true => exact Nat.eq_of_beq_eq_true hb
  subst hn
  have hr : r = ⟨9, .str, [[], [48, 49, 48, 48], [48, 49, 49, 48], [48, 52, 48, 48], [48, 52, 49, 48], [48, 52, 50, 48], [48, 52, 50, 49], [48, 52, 51, 48]]⟩ := (Option.some.inj hr).symm
  subst hr
  refine ⟨_, rfl, fun j x hx => ⟨[strV x], rfl, fun i u hu => ?_, rfl⟩⟩
  have hi : i = 0 := by have := (List.getElem?_eq_some_iff.1 hu).1; simp at this; omega
  subst hi
  have hu : u = strV x := by simpa using hu.symm
  subst hu
  have ha : (⟨0, 0, none⟩ : Addr).add (j * (Ty.size .str) + 0) = ⟨0, j, none⟩ := by
    show (⟨0, 0, none⟩ : Addr).add (j * 1 + 0) = _
    unfold Addr.add; split <;> simp_all
  rw [ha]
  exact ⟨key j x hx, h0⟩
end Go.Proofs.YtjgnpmdbkgeakaaDoor
end
section
set_option linter.unusedVariables false
set_option linter.unusedSimpArgs false
namespace Go.Proofs.YtjgnpmdbkgeakaaDoor.postBack
open Go.ChangeShapes Go.WideShapes Go.ChangeAt Go.RowKit Go.Proofs.YtjgnpmdbkgeakaaDoor Th G
open Go.ChangeMaps (open_string shut_string)
theorem own : ownKnob Tryd.prog.godebug = none := by kernel_rfl
theorem laidOut : laidOutB Tryd.prog = true := by kernel_rfl
set_option maxRecDepth 100000 in
theorem lifted (os : Os) (started : os.Started) (H : Type) (enc : TypeId × Value → H) :
    ReturnsInHanded {} Tryd.checked os 21 .any (fun w args => (Rows.postBackSpec.pre enc Tryd.prog Tryd.f21 [] false w args ∧ laidMetH Tryd.prog laidL w) ∧ sizedMet enc Tryd.prog Tryd.f21 (OpenSpec.ofChange Rows.postBackSpec) false w args) (Rows.postBackSpec.post enc Tryd.prog Tryd.f21 false true false false) := by
  refine returnsInHanded_of_change_and (C := Tryd.checked) (X := fun w _ => laidMetH Tryd.prog laidL w) (fun _ _ _ hh h => h.of_heap hh) own started (by kernel_rfl) Tryd.func21
    (ChangeSpec.witness_shaped (enc := enc) (C := Tryd.checked) (os := os) (X := fun w _ => laidMetH Tryd.prog laidL w) false (World.doorLaid Tryd.prog 400 os) #[.agg #[.int .i64 0, .string ByteArray.empty, .int .u64 0, .int .u32 0, .string ByteArray.empty, .string ByteArray.empty], .agg #[.int .i64 0, .string ByteArray.empty, .int .u64 0, .int .u32 0, .string ByteArray.empty, .string ByteArray.empty], .slice none 0 0, .slice none 0 0] 8 rfl (World.shaped_of_RefB (by kernel_rfl) (by kernel_rfl)) (by kernel_rfl) (by kernel_rfl) (by kernel_rfl) (door_met os _)) ?_
  intro W base args ds gs before hval0 hW hcnd hsz0 hL _
  have hsz : (DataW.weightsEach Tryd.prog (Tryd.f21.params.toList ++ Rows.postBackSpec.plain.varTypes Tryd.prog) (ds ++ gs)).all (· ≤ reachBytes) = true := hsz0
  have hval : ∀ (j : Nat) t v, Tryd.f21.params[j]? = some t → args[j]? = some v → Value.okWide Tryd.prog W .any base t v := hval0
  have hW' := hW
  obtain ⟨p, q, hA0, hV, rfl, hfz, hnd⟩ := hW
  have hA : DataW.TrodAll enc Tryd.prog W 0 (fun _ => true) true Tryd.f21.params.toList args.toList ds p := hA0
  rw [Tryd.params21] at hA hval hsz
  obtain ⟨v0, vs0, d0, ds0, p0, q0, hargs, rfl, rfl, h0, r0⟩ := trodAll_cons hA
  obtain ⟨v1, vs1, d1, ds1, p1, q1, rfl, rfl, rfl, h1, r1⟩ := trodAll_cons r0
  obtain ⟨v2, vs2, d2, ds2, p2, q2, rfl, rfl, rfl, h2, r2⟩ := trodAll_cons r1
  obtain ⟨v3, vs3, d3, ds3, p3, q3, rfl, rfl, rfl, h3, r3⟩ := trodAll_cons r2
  obtain ⟨rfl, rfl, rfl⟩ := trodAll_nil r3
  obtain rfl : args = #[v0, v1, v2, v3] := by cases args; simp_all
  obtain ⟨rfl, rfl⟩ := trodVars_none hV
  obtain ⟨x0, a0, g0⟩ := open_arg (T := (.st (.cons (.int .i64) (.cons .str (.cons (.int .u64) (.cons (.int .u32) (.cons .str (.cons .str .nil)))))))) (by kernel_rfl) (hval 0 25 v0 rfl rfl) h0 (weights_of hsz (j := 0) (t := 25) rfl rfl)
  have k0 := h0
  have lt0 : ∀ x ∈ p0, x.block < W.heap.size := by obtain ⟨m, hm⟩ := k0; exact DataW.trod_lt m _ _ _ hm
  obtain ⟨x1, a1, g1⟩ := open_arg (T := (.st (.cons (.int .i64) (.cons .str (.cons (.int .u64) (.cons (.int .u32) (.cons .str (.cons .str .nil)))))))) (by kernel_rfl) (hval 1 25 v1 rfl rfl) h1 (weights_of hsz (j := 1) (t := 25) rfl rfl)
  have k1 := h1
  have lt1 : ∀ x ∈ p1, x.block < W.heap.size := by obtain ⟨m, hm⟩ := k1; exact DataW.trod_lt m _ _ _ hm
  obtain ⟨x2, a2, g2⟩ := open_arg (T := (.slice (.int .u8))) (by kernel_rfl) (hval 2 110 v2 rfl rfl) h2 (weights_of hsz (j := 2) (t := 110) rfl rfl)
  have k2 := h2
  have lt2 : ∀ x ∈ p2, x.block < W.heap.size := by obtain ⟨m, hm⟩ := k2; exact DataW.trod_lt m _ _ _ hm
  obtain ⟨x3, a3, g3⟩ := open_arg (T := (.slice (.st (.cons (.int .i64) (.cons .str (.cons (.int .u64) (.cons (.int .u32) (.cons .str (.cons .str .nil))))))))) (by kernel_rfl) (hval 3 58 v3 rfl rfl) h3 (weights_of hsz (j := 3) (t := 58) rfl rfl)
  have k3 := h3
  have lt3 : ∀ x ∈ p3, x.block < W.heap.size := by obtain ⟨m, hm⟩ := k3; exact DataW.trod_lt m _ _ _ hm
  obtain ⟨k, hk⟩ := PurePostBack.pure x0 x1 x2 x3 g0 g1 g2 g3
  clear hA0 hval0 hsz0 hsz
  refine (law_of (fn21 k [Ty.av (.st (.cons (.int .i64) (.cons .str (.cons (.int .u64) (.cons (.int .u32) (.cons .str (.cons .str .nil))))))) x0, Ty.av (.st (.cons (.int .i64) (.cons .str (.cons (.int .u64) (.cons (.int .u32) (.cons .str (.cons .str .nil))))))) x1, Ty.av (.slice (.int .u8)) x2, Ty.av (.slice (.st (.cons (.int .i64) (.cons .str (.cons (.int .u64) (.cons (.int .u32) (.cons .str (.cons .str .nil)))))))) x3] (x0, (x1, (x2, (x3, PUnit.unit)))) (true, PUnit.unit) rfl rfl hk) (glob_of_laid hL) (us := [v0, v1, v2, v3]) ⟨a0, a1, a2, a3, trivial⟩).mono fun e W' ⟨he, bel⟩ => ?_
  subst he
  exact ⟨_, rfl, _, _, _, [], _, [], hW', trodAll_mk1 (shut_bool Tryd.underlying4 _), (trodAll_cons_mk (Below.trod laidOut (by kernel_rfl) (of_decide_eq_true (by kernel_rfl)) k0 bel lt0) (trodAll_cons_mk (Below.trod laidOut (by kernel_rfl) (of_decide_eq_true (by kernel_rfl)) k1 bel lt1) (trodAll_cons_mk (Below.trod laidOut (by kernel_rfl) (of_decide_eq_true (by kernel_rfl)) k2 bel lt2) (trodAll_cons_mk (Below.trod laidOut (by kernel_rfl) (of_decide_eq_true (by kernel_rfl)) k3 bel lt3) trodAll_mk0)))), rfl, bel.frame _, fun h => by cases h⟩
theorem inP : Tryd.prog.inPlace 21 = [] := by kernel_rfl
theorem unf : Tryd.prog.unfollowed 21 = true := by kernel_rfl
theorem rec' : Tryd.prog.recurses 21 = true := by kernel_rfl
theorem nam : Tryd.prog.varsNamed 21 = ["paydesk/deal.types"] := by kernel_rfl
theorem lk : false = Tryd.prog.looks [] := by kernel_rfl
theorem gb : false = Rows.postBackRow.goesBy Tryd.prog := by kernel_rfl
theorem facts : joinedFacts Tryd.prog 21 Tryd.f21 Rows.postBackSpec Rows.postBackRow = true := by
  unfold joinedFacts
  rw [laidOut, mapsRowed', stopsHeard', mayEnter', plainKeys', liftsFinal', make', stops', stopKnobs', inP, unf, rec', nam]
  kernel_rfl
theorem over : Rows.postBackRow.holds Tryd.pinned (OpenSpec.ofChange Rows.postBackSpec) :=
  OpenClaim.holds_of_wide 21 Tryd.f21 rfl rfl rfl rfl rfl rfl rfl ⟨rfl, rfl, rfl, rfl, rfl⟩ rfl rfl rfl rfl rfl (by kernel_rfl) Tryd.func21 facts
    (of_decide_eq_true (by kernel_rfl)) (by unfold Func.isWrapper; first | (rw [if_pos (by decide +kernel)]; kernel_rfl) | (rw [if_neg (by decide +kernel)]; exact ⟨rfl, rfl⟩))
    (fun os started H enc _ => lifted os started H enc)
end Go.Proofs.YtjgnpmdbkgeakaaDoor.postBack
namespace Go.Proofs.YtjgnpmdbkgeakaaDoor
theorem postBack_card_holds : Rows.PostBackCardSaid :=
  Claim7.holds_tied_plain_at .later [] [.data] true (true, "4b760acf1adc6d3612329ab3c20ec014558e267c494e654019cab19211bf1961") false
    postBack.over (fun _ h => by cases h) (by kernel_rfl) (fun _ h => by cases h) postBack_row_tie rfl ⟨rfl, rfl⟩ mainIs' rfl
    (fun f fn hf hfn => by
      obtain rfl : f = 21 := Option.some.inj ((show Tryd.prog.funcNamed "paydesk/paydesklaw17.PostBack" = some 21 by kernel_rfl).symm.trans hf) |>.symm
      obtain rfl : fn = Tryd.f21 := (Option.some.inj (Tryd.func21.symm.trans hfn)).symm
      exact ⟨postBack.lk, fun j t ht => by
        rw [Tryd.params21] at ht
        have hm : t ∈ [25, 25, 110, 58] := by simpa using Array.mem_of_getElem? ht
        have hall : ([25, 25, 110, 58].all fun u => !Tryd.prog.wantsStandIn u) = true := by kernel_rfl
        exact (show Tryd.prog.wantsStandIn t = false by simpa using List.all_eq_true.1 hall t hm)⟩)
    postBack.gb
end Go.Proofs.YtjgnpmdbkgeakaaDoor
end
