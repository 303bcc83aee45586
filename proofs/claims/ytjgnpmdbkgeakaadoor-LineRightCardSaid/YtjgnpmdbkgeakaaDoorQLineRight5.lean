/- The statement LineRight, out of what its function answers. No condition. -/
import Derived.Test.YtjgnpmdbkgeakaaDoorQLineRight4
import Derived.Test.YtjgnpmdbkgeakaaDoorRows
import Derived.JoinedOf
import Derived.LaidMore
import Derived.FnData
import Derived.ChangeBears2
import Derived.Stop.Joined
import Derived.Carry
import Derived.Test.YtjgnpmdbkgeakaaDoorCards
import Derived.Test.YtjgnpmdbkgeakaaDoorTie
import Derived.SevenTiedAt
section
set_option linter.unusedVariables false
set_option linter.unusedSimpArgs false
set_option maxRecDepth 100000
namespace Go.Proofs.YtjgnpmdbkgeakaaDoor.G
open Go Go.Proofs.YtjgnpmdbkgeakaaDoor Th
theorem items4 {l : List Item} (h : l.map (·.1) = [2, 4, 11, 37]) : ∃ a b c d, l = [(2, a, ()), (4, b, ()), (11, c, ()), (37, d, ())] := by
  match l, h with
  | [(x, a, ⟨⟩), (y, b, ⟨⟩), (z, c, ⟨⟩), (w, d, ⟨⟩)], h =>
    simp only [List.map_cons, List.map_nil, List.cons.injEq, and_true] at h
    obtain ⟨rfl, rfl, rfl, rfl⟩ := h
    exact ⟨a, b, c, d, rfl⟩
theorem items5 {l : List Item} (h : l.map (·.1) = [2, 4, 11, 37, 90]) : ∃ a b c d e, l = [(2, a, ()), (4, b, ()), (11, c, ()), (37, d, ()), (90, e, ())] := by
  match l, h with
  | [(x, a, ⟨⟩), (y, b, ⟨⟩), (z, c, ⟨⟩), (w, d, ⟨⟩), (v, e, ⟨⟩)], h =>
    simp only [List.map_cons, List.map_nil, List.cons.injEq, and_true] at h
    obtain ⟨rfl, rfl, rfl, rfl, rfl⟩ := h
    exact ⟨a, b, c, d, e, rfl⟩
theorem stan_back {s : Txt} (h : rightF 11 s = true) : 0 ≤ IntKind.u32.wrap (((getOK s).1 : Nat) : Int) ∧ IntKind.u32.wrap (((getOK s).1 : Nat) : Int) ≤ 999999 ∧ stanT (IntKind.u32.wrap (((getOK s).1 : Nat) : Int)) = s ∧ s.length = 6 := by
  rw [rf11, Bool.and_eq_true, decide_eq_true_eq] at h
  obtain ⟨hl, hd⟩ := h
  have ha := all_of_isDig hd
  obtain ⟨h1, h2⟩ := digs_val 6 s hl ha
  have e : getOK s = (val 0 s, 0) := by
    unfold getOK
    rw [if_neg (by omega), if_neg (by omega), if_pos hd]
  rw [e]
  (try simp only [])
  have h3 : val 0 s < 1000000 := h2
  rw [wrapu32 (by omega) (by omega)]
  refine ⟨by omega, by omega, ?_, hl⟩
  rw [stanT_of (by omega) (by omega), Int.toNat_natCast, h1]
theorem amt_back {s : Txt} (h : rightF 4 s = true) : (((getOK s).1 : Nat) : Int) < 1000000000000 ∧ amtT (((getOK s).1 : Nat) : Int) = s := by
  rw [rf4, Bool.and_eq_true, decide_eq_true_eq] at h
  obtain ⟨hl, hd⟩ := h
  have ha := all_of_isDig hd
  obtain ⟨h1, h2⟩ := digs_val 12 s hl ha
  have e : getOK s = (val 0 s, 0) := by
    unfold getOK
    rw [if_neg (by omega), if_neg (by omega), if_pos hd]
  rw [e]
  (try simp only [])
  have h3 : val 0 s < 1000000000000 := h2
  refine ⟨by omega, ?_⟩
  rw [amtT_of (by omega) (by omega), Int.toNat_natCast, h1]
theorem items_right {m : Msg} (h : msgRight m = true) : itemsOK 0 m.2.1 = true ∧ knownT m.1 = true := by
  unfold msgRight at h
  simp only [Bool.and_eq_true] at h
  exact ⟨h.1.1, h.1.2⟩
theorem kind_five {kind : Int} : (asksK kind = true ∧ 5 ≤ kind) ↔ (kind = 5 ∨ kind = 6) := by
  unfold asksK; simp only [decide_eq_true_eq]; omega
theorem rf37_in {l : List Item} {kind : Int} (hm : l.map (·.1) = mustK kind) (hr : itemsOK 0 l = true) : rightF 37 (getM 37 l).1 = true ∧ rightF 11 (getM 11 l).1 = true := by
  unfold mustK at hm
  split at hm
  · obtain ⟨a, b, c, d, e, rfl⟩ := items5 hm
    simp only [itemsOK, Bool.and_eq_true] at hr
    simp [getM]
    exact ⟨hr.2.2.2.1.2, hr.2.2.1.2⟩
  split at hm
  · obtain ⟨a, b, c, d, rfl⟩ := items4 hm
    simp only [itemsOK, Bool.and_eq_true] at hr
    simp [getM]
    exact ⟨hr.2.2.2.1.2, hr.2.2.1.2⟩
  · obtain ⟨a, b, c, rfl⟩ := items3 hm
    simp only [itemsOK, Bool.and_eq_true] at hr
    simp [getM]
    exact ⟨hr.2.1.2, hr.1.2⟩
theorem origin_of (stan : Int) (s : Txt) (h : stanT stan = s) : originT stan = [48, 49, 48, 48] ++ s ++ zeros := by unfold originT; rw [h]
theorem G40_is (k : Nat) (hk : 2000 < k) (typ : Txt) (l : List Item) (hl : l.length ≤ 1000) (hx : ∀ x ∈ l, x.2.1.length ≤ 1200) :
    G40 k ((typ, l, ()), ()) = some ((readD (typ, l, ())).1, (readD (typ, l, ())).2, ()) := by
  rw [G40_eq]
  (try simp only [])
  rw [G44_is k (by omega) typ l (by omega) (by omega) (fun x h => ⟨by have := hx x h; rw [maxLen_eq]; omega, by have := hx x h; omega⟩), ocall_some]
  unfold readD
  (try simp only [])
  by_cases hr : msgRight (typ, l, ()) = true
  case neg => rw [if_neg hr]; rw [show msgRight (typ, l, ()) = false by simpa using hr]; rfl
  rw [if_pos hr, hr]
  obtain ⟨r1, r2⟩ := items_right hr
  (try simp only [] at r1 r2)
  simp only [Bool.not_true, sel_false]
  have hg : ∀ n, G115 k ((typ, l, ()), n, ()) = some ((getM n l).1, (getM n l).2, ()) := fun n => G115_is k n typ l (by omega) (by omega)
  have hn : ∀ n, G114 k ((typ, l, ()), n, ()) = some (numM n l, ()) := fun n => G114_is k (by omega) n typ l (by omega) (by omega)
  have hd : deM (typ, l, ()) = (kindT typ, (getM 2 l).1, numM 4 l, IntKind.u32.wrap (numM 11 l), (getM 37 l).1, (getM 39 l).1, ()) := rfl
  have l2 := getM_len 2 1200 l hx
  have l37 := getM_len 37 1200 l hx
  have hi := G109_is k (by omega) (kindT typ) (getM 2 l).1 (numM 4 l) (IntKind.u32.wrap (numM 11 l)) (getM 37 l).1 (getM 39 l).1 (numM_good 4 l) (wrap32_good _)
  have hf := G116_is k (by omega) typ l (kindT typ) (getM 2 l).1 (numM 4 l) (IntKind.u32.wrap (numM 11 l)) (getM 37 l).1 (getM 39 l).1 (numM_good 4 l) (wrap32_good _)
  have hq := G107_is k (getM 2 l).1 (by omega) (by omega)
  have h37 := G117_is k (by omega) 37 (getM 37 l).1 (by rw [maxLen_eq]; omega) (by omega)
  simp only [G113_is k (by omega), hn, hg, ocall_some, hf, G42_is, hq, hi, h37]
  unfold fitsM
  rw [items_must]
  (try simp only [])
  by_cases cm : l.map (·.1) = mustK (kindT typ)
  case neg =>
    rw [if_neg cm, decide_eq_false (fun e => cm e.symm)]; rfl
  rw [if_pos cm, decide_eq_true cm.symm]
  obtain ⟨q37, q11⟩ := rf37_in cm r1
  obtain ⟨s0, s1, s2, s3⟩ := stan_back q11
  rw [q37, hd]
  simp only [Bool.not_true, sel_false]
  by_cases ca : asksK (kindT typ) = true
  case neg =>
    have ca' : asksK (kindT typ) = false := by simpa using ca
    rw [ca']
    rw [if_neg (fun e => by cases e.1), if_neg (fun e => ca (kind_five.2 e.1).1)]
    simp only [sel_false]
    by_cases c5 : 5 ≤ kindT typ
    · rw [sel_pos c5]
    · rw [sel_neg c5]
  rw [ca]
  simp only [sel_true, true_and]
  by_cases cf : isFine (getM 2 l).1 = true
  case neg =>
    have cf' : isFine (getM 2 l).1 = false := by simpa using cf
    rw [cf', if_pos rfl]; rfl
  rw [cf, if_neg (by simp)]
  simp only [Bool.not_true, sel_false]
  by_cases c5 : 5 ≤ kindT typ
  case neg =>
    rw [sel_neg c5, if_neg (fun e => c5 (kind_five.2 e.1).2)]
  rw [sel_pos c5]
  have e5 : itemsK (kindT typ, (getM 2 l).1, numM 4 l, IntKind.u32.wrap (numM 11 l), (getM 37 l).1, (getM 39 l).1, ()) = [(2, (getM 2 l).1, ()), (4, amtT (numM 4 l), ()), (11, stanT (IntKind.u32.wrap (numM 11 l)), ()), (37, (getM 37 l).1, ()), (90, originT (IntKind.u32.wrap (numM 11 l)), ())] := by
    unfold itemsK; (try simp only []); rw [if_pos ca, if_pos c5]; rfl
  rw [e5, sel_pos (by simp only [List.length_cons, List.length_nil]; decide), sel_pos (by simp only [List.length_cons, List.length_nil]; decide)]
  have eg : ∀ (a b c d e : Item), (([a, b, c, d, e] : List Item).getD (Int.toNat 4) (OfNat.ofNat 0, [], ())) = e := fun _ _ _ _ _ => rfl
  simp only [eg]
  have e6 : originT (IntKind.u32.wrap (numM 11 l)) = [48, 49, 48, 48] ++ (getM 11 l).1 ++ zeros := origin_of _ _ s2
  rw [e6]
  by_cases co : (getM 90 l).1 = [48, 49, 48, 48] ++ (getM 11 l).1 ++ zeros
  · rw [if_neg (fun e => e.2 co)]
    rw [co]
    rw [sel_not, sel_pos rfl]
  · rw [if_pos ⟨kind_five.1 ⟨ca, c5⟩, co⟩, sel_not, sel_neg co]
    rfl
end Go.Proofs.YtjgnpmdbkgeakaaDoor.G
end
section
set_option linter.unusedVariables false
set_option linter.unusedSimpArgs false
set_option maxRecDepth 100000
namespace Go.Proofs.YtjgnpmdbkgeakaaDoor.G
open Go Go.Proofs.YtjgnpmdbkgeakaaDoor Th
theorem G119_is (k : Nat) (kind : Int) : G119 k (kind, ()) = some (mustK kind, ()) := by
  rw [G119_eq]
  unfold mustK
  by_cases h5 : kind = 5
  · rw [sel_pos h5, if_pos (.inl h5)]
  rw [sel_neg h5]
  by_cases h6 : kind = 6
  · rw [sel_pos h6, if_pos (.inr h6)]
  rw [sel_neg h6, if_neg (by omega), G43_is, ocall_some]
  cases asksK kind <;> rfl
theorem G112_is (k : Nat) (s : Txt) (h : s.length ≤ 100000) : G112 k (s, ()) = some ([48, 49, 48, 48] ++ s ++ zeros, ()) := by
  rw [G112_eq, sel_pos (by (try simp only []); omega), sel_pos (by simp only [List.length_cons]; omega)]
  rfl
theorem G106_is (k : Nat) (hk : 20 < k) (v n : Int) (h0 : 0 ≤ v) (h1 : v ≤ 18446744073709551615) : G106 k (v, n, ()) = some ((putOK v.toNat n).1, ()) := by
  rw [G106_eq]
  have := G168_is k hk v.toNat n (by omega)
  rw [show ((v.toNat : Nat) : Int) = v by omega] at this
  (try simp only [])
  rw [this, ocall_some]
theorem typeK_at {kind : Int} (h1 : 1 ≤ kind) (h7 : kind ≤ 7) : KT.getD (kind - 1).toNat [] = typeK kind := by
  have : kind = 1 ∨ kind = 2 ∨ kind = 3 ∨ kind = 4 ∨ kind = 5 ∨ kind = 6 ∨ kind = 7 := by omega
  rcases this with rfl | rfl | rfl | rfl | rfl | rfl | rfl <;> rfl
theorem G39_is (k : Nat) (hk : 20 < k) (kind : Int) (pan : Txt) (amt stan : Int) (rrn code : Txt) (h1 : 1 ≤ kind) (h7 : kind ≤ 7) (ha : 0 ≤ amt ∧ amt ≤ 18446744073709551615) (hs : 0 ≤ stan ∧ stan ≤ 4294967295) :
    G39 k ((kind, pan, amt, stan, rrn, code, ()), ()) = some ((typeK kind, itemsK (kind, pan, amt, stan, rrn, code, ()), ()), ()) := by
  rw [G39_eq, G111_eq, ocall_some]
  (try simp only [])
  have e1 : IntKind.i64.wrap (kind - 1) = kind - 1 := wrap64 (by omega) (by omega)
  have e2 := typeK_at h1 h7
  unfold KT at e2
  have hl := putOK_le stan.toNat 6
  have ho : G112 k (stanT stan, ()) = some (originT stan, ()) := G112_is k (stanT stan) (by unfold stanT; omega)
  have hA : G106 k (amt, 12, ()) = some (amtT amt, ()) := G106_is k hk amt 12 ha.1 ha.2
  have hS : G106 k (stan, 6, ()) = some (stanT stan, ()) := G106_is k hk stan 6 hs.1 (by omega)
  rw [e1, e2]
  have w : IntKind.u64.wrap stan = stan := wrapu64 (by omega) (by omega)
  rw [sel_pos (by omega), sel_pos (by simp only [List.length_cons, List.length_nil, Int.ofNat_eq_natCast]; omega), sel_pos (by simp only [List.length_cons, List.length_nil]; omega)]
  simp only [w, G43_is, ocall_some, hA, hS]
  simp only [ho, ocall_some]
  unfold itemsK
  (try simp only [])
  by_cases ca : asksK kind = true
  · rw [ca, if_pos rfl]
    simp only [Bool.not_true, sel_false, sel_true]
    have hh := ca
    simp only [asksK, decide_eq_true_eq] at hh
    by_cases h5 : kind = 5
    · rw [sel_pos h5, if_pos (by omega)]; rfl
    rw [sel_neg h5]
    by_cases h6 : kind = 6
    · rw [sel_pos h6, if_pos (by omega)]; rfl
    rw [sel_neg h6, if_neg (by omega)]; rfl
  · have ca' : asksK kind = false := by simpa using ca
    have hh := ca
    simp only [asksK, decide_eq_true_eq] at hh
    rw [ca', if_neg (by simp)]
    simp only [Bool.not_false, sel_false, sel_true]
    rw [sel_neg (by omega), sel_neg (by omega)]
theorem G41_5_step (k n : Nat) (i : Nat) (hi : i < 7) (typ : Txt) (l : List Item) (a : Int) (b : Txt) (c d : Int) (e f : Txt) (kind : Int) (q : Txt × Int × Int × Txt × Txt × Unit) (t : Txt) (ht : KT.getD i [] = t) :
    G41_5 k (n + 1) ((i : Int), typ, l, a, b, c, d, e, f, kind, q) = G41_5 k n (((i + 1 : Nat) : Int), typ, l, a, b, c, d, e, f, (if t = typ then ((i + 1 : Nat) : Int) else kind), q) := by
  rw [G41_5_eq]
  (try simp only [])
  rw [sel_pos (by omega), G111_eq, ocall_some]
  simp only [Int.toNat_natCast]
  unfold KT at ht
  rw [sel_pos (by omega), sel_pos (by simp only [List.length_cons, List.length_nil, Int.ofNat_eq_natCast]; omega), sel_pos (by simp only [List.length_cons, List.length_nil]; omega), wrap64 (by omega) (by omega)]
  by_cases c : t = typ
  · rw [sel_pos (ht.trans c), if_pos c]; rfl
  · rw [sel_neg (fun e => c (ht.symm.trans e)), if_neg c]; rfl
theorem G41_5_last (k n : Nat) (typ : Txt) (l : List Item) (a : Int) (b : Txt) (c d : Int) (e f : Txt) (kind : Int) (q : Txt × Int × Int × Txt × Txt × Unit) :
    G41_5 k (n + 1) (((7 : Nat) : Int), typ, l, a, b, c, d, e, f, kind, q) = some (typ, l, a, b, c, d, e, f, kind, q) := by
  rw [G41_5_eq, sel_neg (by (try simp only []); omega)]
theorem kind_last (typ : Txt) : (if [48, 52, 51, 48] = typ then (7 : Int) else if [48, 52, 50, 49] = typ then 6 else if [48, 52, 50, 48] = typ then 5 else if [48, 52, 49, 48] = typ then 4 else if [48, 52, 48, 48] = typ then 3 else if [48, 49, 49, 48] = typ then 2 else if [48, 49, 48, 48] = typ then 1 else 0) = kindT typ := by
  unfold kindT
  by_cases h1 : typ = [48, 49, 48, 48]
  · subst h1; decide
  by_cases h2 : typ = [48, 49, 49, 48]
  · subst h2; decide
  by_cases h3 : typ = [48, 52, 48, 48]
  · subst h3; decide
  by_cases h4 : typ = [48, 52, 49, 48]
  · subst h4; decide
  by_cases h5 : typ = [48, 52, 50, 48]
  · subst h5; decide
  by_cases h6 : typ = [48, 52, 50, 49]
  · subst h6; decide
  by_cases h7 : typ = [48, 52, 51, 48]
  · subst h7; decide
  rw [if_neg (fun e => h7 e.symm), if_neg (fun e => h6 e.symm), if_neg (fun e => h5 e.symm), if_neg (fun e => h4 e.symm), if_neg (fun e => h3 e.symm), if_neg (fun e => h2 e.symm), if_neg (fun e => h1 e.symm),
    if_neg h1, if_neg h2, if_neg h3, if_neg h4, if_neg h5, if_neg h6, if_neg h7]
theorem G41_5_is (k : Nat) (hk : 20 < k) (typ : Txt) (l : List Item) (a : Int) (b : Txt) (c d : Int) (e f : Txt) (q : Txt × Int × Int × Txt × Txt × Unit) :
    G41_5 k k (0, typ, l, a, b, c, d, e, f, 0, q) = some (typ, l, a, b, c, d, e, f, kindT typ, q) := by
  obtain ⟨m, rfl⟩ : ∃ m, k = m + 8 := ⟨k - 8, by omega⟩
  rw [show ((0 : Int), typ, l, a, b, c, d, e, f, (0 : Int), q) = (((0 : Nat) : Int), typ, l, a, b, c, d, e, f, (0 : Int), q) from rfl,
    G41_5_step (m + 8) (m + 7) 0 (by omega) typ l a b c d e f _ q [48, 49, 48, 48] rfl, G41_5_step (m + 8) (m + 6) 1 (by omega) typ l a b c d e f _ q [48, 49, 49, 48] rfl,
    G41_5_step (m + 8) (m + 5) 2 (by omega) typ l a b c d e f _ q [48, 52, 48, 48] rfl, G41_5_step (m + 8) (m + 4) 3 (by omega) typ l a b c d e f _ q [48, 52, 49, 48] rfl,
    G41_5_step (m + 8) (m + 3) 4 (by omega) typ l a b c d e f _ q [48, 52, 50, 48] rfl, G41_5_step (m + 8) (m + 2) 5 (by omega) typ l a b c d e f _ q [48, 52, 50, 49] rfl,
    G41_5_step (m + 8) (m + 1) 6 (by omega) typ l a b c d e f _ q [48, 52, 51, 48] rfl, G41_5_last (m + 8) m]
  have := kind_last typ
  simp only [Nat.zero_add, Nat.reduceAdd] at *
  rw [← this]
  rfl
def upd (q : Txt × Int × Int × Txt × Txt × Unit) (x : Item) : Txt × Int × Int × Txt × Txt × Unit :=
  if x.1 = 2 then (x.2.1, q.2) else if x.1 = 4 then (q.1, (((getOK x.2.1).1 : Nat) : Int), q.2.2) else if x.1 = 11 then (q.1, q.2.1, IntKind.u32.wrap (((getOK x.2.1).1 : Nat) : Int), q.2.2.2)
  else if x.1 = 37 then (q.1, q.2.1, q.2.2.1, x.2.1, q.2.2.2.2) else if x.1 = 39 then (q.1, q.2.1, q.2.2.1, q.2.2.2.1, x.2.1, ()) else q
theorem G41_13_is (k : Nat) (hk : 20 < k) (M : List Int) (l : List Item) (hM : M.length = l.length) (hl : l.length ≤ 1000) (hx : ∀ x ∈ l, x.2.1.length ≤ 1200) (typ : Txt) (a : Int) (b : Txt) (c d : Int) (e f : Txt) (kind : Int) :
    ∀ (j i : Nat) (q : Txt × Int × Int × Txt × Txt × Unit), i + j = l.length → ∀ n, j < n →
    G41_13 k n (M, (i : Int), typ, l, a, b, c, d, e, f, kind, q) = some (sel (decide ((l.drop i).map (·.1) = M.drop i)) (.inl (M, typ, l, a, b, c, d, e, f, kind, (l.drop i).foldl upd q)) (.inr (3, 0, [], 0, 0, [], [], ()))) := by
  intro j
  induction j with
  | zero =>
    intro i q hij n hn
    obtain ⟨n, rfl⟩ : ∃ m, n = m + 1 := ⟨n - 1, by omega⟩
    rw [G41_13_eq, sel_neg (by simp only [ofNat_len]; omega), List.drop_eq_nil_of_le (by omega), List.drop_eq_nil_of_le (by omega)]
    rfl
  | succ j ih =>
    intro i q hij n hn
    obtain ⟨n, rfl⟩ : ∃ m, n = m + 1 := ⟨n - 1, by omega⟩
    have hlt : i < l.length := by omega
    have hlt' : i < M.length := by omega
    rw [G41_13_eq]
    simp only [ofNat_len, Int.toNat_natCast, getD_of hlt, getD_of hlt']
    rw [sel_pos (by omega), sel_pos (by omega), sel_pos (by omega), sel_pos (by omega), sel_pos (by omega), sel_pos hlt', drop_at hlt, drop_at hlt']
    simp only [List.map_cons, List.cons.injEq]
    have hxl := hx l[i] (List.getElem_mem _)
    have step := fun q' => ih (i + 1) q' (by omega) n (by omega)
    simp only [Int.natCast_add, Int.natCast_one] at step
    by_cases ce : l[i].1 = M[i]
    case neg =>
      rw [decide_eq_false ce, Bool.not_false, sel_true, decide_eq_false (fun h => ce h.1)]; rfl
    rw [decide_eq_true ce, Bool.not_true, sel_false, G120_is k l[i].2.1 (by rw [maxLen_eq]; omega) hk, ocall_some, wrap64 (by omega) (by omega)]
    have ee : decide (l[i].1 = M[i] ∧ (l.drop (i + 1)).map (·.1) = M.drop (i + 1)) = decide ((l.drop (i + 1)).map (·.1) = M.drop (i + 1)) := decide_eq_decide.2 ⟨fun h => h.2, fun h => ⟨ce, h⟩⟩
    rw [ee, List.foldl_cons]
    by_cases c2 : l[i].1 = 2
    · rw [sel_pos c2]
      have : upd q l[i] = (l[i].2.1, q.2) := by unfold upd; rw [if_pos c2]
      rw [this]; exact step _
    rw [sel_neg c2]
    by_cases c4 : l[i].1 = 4
    · rw [sel_pos c4]
      have : upd q l[i] = (q.1, (((getOK l[i].2.1).1 : Nat) : Int), q.2.2) := by unfold upd; rw [if_neg c2, if_pos c4]
      rw [this]; exact step _
    rw [sel_neg c4]
    by_cases c11 : l[i].1 = 11
    · rw [sel_pos c11]
      have : upd q l[i] = (q.1, q.2.1, IntKind.u32.wrap (((getOK l[i].2.1).1 : Nat) : Int), q.2.2.2) := by unfold upd; rw [if_neg c2, if_neg c4, if_pos c11]
      rw [this]; exact step _
    rw [sel_neg c11]
    by_cases c37 : l[i].1 = 37
    · rw [sel_pos c37]
      have : upd q l[i] = (q.1, q.2.1, q.2.2.1, l[i].2.1, q.2.2.2.2) := by unfold upd; rw [if_neg c2, if_neg c4, if_neg c11, if_pos c37]
      rw [this]; exact step _
    rw [sel_neg c37]
    by_cases c39 : l[i].1 = 39
    · rw [sel_pos c39]
      have : upd q l[i] = (q.1, q.2.1, q.2.2.1, q.2.2.2.1, l[i].2.1, ()) := by unfold upd; rw [if_neg c2, if_neg c4, if_neg c11, if_neg c37, if_pos c39]
      rw [this]; exact step _
    rw [sel_neg c39]
    have : upd q l[i] = q := by unfold upd; rw [if_neg c2, if_neg c4, if_neg c11, if_neg c37, if_neg c39]
    rw [this]; exact step _
theorem kindT_known {s : Txt} (h : knownT s = true) : 1 ≤ kindT s ∧ kindT s ≤ 7 ∧ typeK (kindT s) = s := by
  unfold knownT KT at h
  simp only [List.contains_cons, List.contains_nil, Bool.or_false, Bool.or_eq_true, beq_iff_eq] at h
  rcases h with rfl | rfl | rfl | rfl | rfl | rfl | rfl <;> decide
theorem G41_is (k : Nat) (hk : 2000 < k) (typ : Txt) (l : List Item) (hl : l.length ≤ 1000) (hx : ∀ x ∈ l, x.2.1.length ≤ 1200) :
    G41 k ((typ, l, ()), ()) = some ((readD (typ, l, ())).1, (readD (typ, l, ())).2, ()) := by
  rw [G41_eq]
  (try simp only [])
  rw [G118_is k (by omega) typ l (by omega) (by omega) (fun x h => ⟨by have := hx x h; rw [maxLen_eq]; omega, by have := hx x h; omega⟩), ocall_some]
  unfold readD
  (try simp only [])
  by_cases hr : msgRight (typ, l, ()) = true
  case neg => rw [if_neg hr]; rw [show msgRight (typ, l, ()) = false by simpa using hr]; rfl
  rw [if_pos hr, hr]
  obtain ⟨r1, r2⟩ := items_right hr
  (try simp only [] at r1 r2)
  simp only [Bool.not_true, sel_false]
  have h5 := G41_5_is k (by omega) typ l 0 [] 0 0 [] [] ([], 0, 0, [], [], ())
  rw [h5, ocall_some]
  (try simp only [])
  rw [G119_is, ocall_some]
  simp only [ofNat_len]
  by_cases cl : (mustK (kindT typ)).length = l.length
  case neg =>
    rw [decide_eq_false (show ¬ ((mustK (kindT typ)).length : Int) = (l.length : Int) by omega), Bool.not_false, sel_true, if_neg (fun e => cl (by have := congrArg List.length e; simpa using this.symm))]
    rfl
  rw [decide_eq_true (show ((mustK (kindT typ)).length : Int) = (l.length : Int) by omega), Bool.not_true, sel_false]
  have h13 := G41_13_is k (by omega) (mustK (kindT typ)) l cl hl hx typ 0 [] 0 0 [] [] (kindT typ) l.length 0 ([], 0, 0, [], [], ()) (by omega) k (by omega)
  simp only [List.drop_zero, Int.natCast_zero] at h13
  rw [h13, ocall_some]
  by_cases cm : l.map (·.1) = mustK (kindT typ)
  case neg => rw [decide_eq_false cm, if_neg cm]; rfl
  rw [decide_eq_true cm, if_pos cm]
  simp only [sel_true, esel_inl]
  unfold deM
  (try simp only [])
  have hkn := kindT_known r2
  generalize hK : kindT typ = kd at *
  unfold mustK at cm
  by_cases c56 : kd = 5 ∨ kd = 6
  · rw [if_pos c56] at cm
    obtain ⟨a, b, c, d, e, rfl⟩ := items5 cm
    have ca : asksK kd = true := (kind_five.2 c56).1
    have g2 : (getM 2 [((2 : Int), a, ()), (4, b, ()), (11, c, ()), (37, d, ()), (90, e, ())]).1 = a := by simp [getM]
    have g4 : numM 4 [((2 : Int), a, ()), (4, b, ()), (11, c, ()), (37, d, ()), (90, e, ())] = (((getOK b).1 : Nat) : Int) := by simp [numM, getM]
    have g11 : (getM 11 [((2 : Int), a, ()), (4, b, ()), (11, c, ()), (37, d, ()), (90, e, ())]).1 = c := by simp [getM]
    have g11' : numM 11 [((2 : Int), a, ()), (4, b, ()), (11, c, ()), (37, d, ()), (90, e, ())] = (((getOK c).1 : Nat) : Int) := by simp [numM, getM]
    have g37 : (getM 37 [((2 : Int), a, ()), (4, b, ()), (11, c, ()), (37, d, ()), (90, e, ())]).1 = d := by simp [getM]
    have g39 : (getM 39 [((2 : Int), a, ()), (4, b, ()), (11, c, ()), (37, d, ()), (90, e, ())]).1 = [] := by simp [getM]
    have g90 : (getM 90 [((2 : Int), a, ()), (4, b, ()), (11, c, ()), (37, d, ()), (90, e, ())]).1 = e := by simp [getM]
    have fo : [((2 : Int), a, ()), (4, b, ()), (11, c, ()), (37, d, ()), (90, e, ())].foldl upd ([], 0, 0, [], [], ()) = (a, (((getOK b).1 : Nat) : Int), IntKind.u32.wrap (((getOK c).1 : Nat) : Int), d, [], ()) := by simp [upd]
    have la : a.length ≤ 1200 := hx (2, a, ()) (by simp)
    have lc : c.length ≤ 1200 := hx (11, c, ()) (by simp)
    rw [g2, g4, g11, g11', g37, g39, g90, fo]
    (try simp only [])
    have hm : mustK kd = [2, 4, 11, 37, 90] := by unfold mustK; rw [if_pos c56]
    rw [hm]
    have q1 : ∀ (x0 x1 x2 x3 x4 : Item), (([x0, x1, x2, x3, x4] : List Item).getD (Int.toNat 2) (OfNat.ofNat 0, [], ())) = x2 := fun _ _ _ _ _ => rfl
    have q2 : ∀ (x0 x1 x2 x3 x4 : Item), (([x0, x1, x2, x3, x4] : List Item).getD (Int.toNat 4) (OfNat.ofNat 0, [], ())) = x4 := fun _ _ _ _ _ => rfl
    simp only [G43_is, ocall_some, ca, sel_true, G110_is k a (by omega) (by omega), q1, q2, G112_is k c (by omega)]
    by_cases cf : isFine a = true
    case neg =>
      have cf' : isFine a = false := by simpa using cf
      rw [cf', if_pos ⟨by trivial, by trivial⟩]; rfl
    rw [cf, if_neg (by simp)]
    simp only [Bool.not_true, sel_false]
    rw [sel_pos (by simp only [List.length_cons, List.length_nil]; rfl), sel_pos (by simp only [List.length_cons, List.length_nil]; decide), sel_pos (by simp only [List.length_cons, List.length_nil]; decide)]
    by_cases co : e = [48, 49, 48, 48] ++ c ++ zeros
    · rw [sel_not, sel_pos co, if_neg (fun h => h.2 co)]
    · rw [sel_not, sel_neg co, if_pos ⟨c56, co⟩]; rfl
  rw [if_neg c56] at cm
  have hm5 : ((mustK kd).length : Int) ≠ 5 := by
    unfold mustK; rw [if_neg c56]; split <;> simp
  have hm' : ¬ ((mustK kd).length : Int) = 5 := hm5
  by_cases ca : asksK kd = true
  · rw [if_pos ca] at cm
    obtain ⟨a, b, c, d, rfl⟩ := items4 cm
    have g2 : (getM 2 [((2 : Int), a, ()), (4, b, ()), (11, c, ()), (37, d, ())]).1 = a := by simp [getM]
    have g4 : numM 4 [((2 : Int), a, ()), (4, b, ()), (11, c, ()), (37, d, ())] = (((getOK b).1 : Nat) : Int) := by simp [numM, getM]
    have g11' : numM 11 [((2 : Int), a, ()), (4, b, ()), (11, c, ()), (37, d, ())] = (((getOK c).1 : Nat) : Int) := by simp [numM, getM]
    have g37 : (getM 37 [((2 : Int), a, ()), (4, b, ()), (11, c, ()), (37, d, ())]).1 = d := by simp [getM]
    have g39 : (getM 39 [((2 : Int), a, ()), (4, b, ()), (11, c, ()), (37, d, ())]).1 = [] := by simp [getM]
    have fo : [((2 : Int), a, ()), (4, b, ()), (11, c, ()), (37, d, ())].foldl upd ([], 0, 0, [], [], ()) = (a, (((getOK b).1 : Nat) : Int), IntKind.u32.wrap (((getOK c).1 : Nat) : Int), d, [], ()) := by simp [upd]
    have la : a.length ≤ 1200 := hx (2, a, ()) (by simp)
    rw [g2, g4, g11', g37, g39, fo]
    (try simp only [])
    simp only [G43_is, ocall_some, ca, sel_true, G110_is k a (by omega) (by omega)]
    by_cases cf : isFine a = true
    case neg =>
      have cf' : isFine a = false := by simpa using cf
      rw [cf', if_pos ⟨by trivial, by trivial⟩]; rfl
    rw [cf, if_neg (by simp), if_neg (fun h => c56 h.1)]
    simp only [Bool.not_true, sel_false]
    rw [sel_neg hm']
  · rw [if_neg ca] at cm
    have ca' : asksK kd = false := by simpa using ca
    obtain ⟨a, b, c, rfl⟩ := items3 cm
    have g2 : (getM 2 [((11 : Int), a, ()), (37, b, ()), (39, c, ())]).1 = [] := by simp [getM]
    have g4 : numM 4 [((11 : Int), a, ()), (37, b, ()), (39, c, ())] = 0 := by simp [numM, getM, getOK]
    have g11' : numM 11 [((11 : Int), a, ()), (37, b, ()), (39, c, ())] = (((getOK a).1 : Nat) : Int) := by simp [numM, getM]
    have g37 : (getM 37 [((11 : Int), a, ()), (37, b, ()), (39, c, ())]).1 = b := by simp [getM]
    have g39 : (getM 39 [((11 : Int), a, ()), (37, b, ()), (39, c, ())]).1 = c := by simp [getM]
    have fo : [((11 : Int), a, ()), (37, b, ()), (39, c, ())].foldl upd ([], 0, 0, [], [], ()) = ([], 0, IntKind.u32.wrap (((getOK a).1 : Nat) : Int), b, c, ()) := by simp [upd]
    rw [g2, g4, g11', g37, g39, fo]
    (try simp only [])
    simp only [G43_is, ocall_some, ca', sel_false]
    rw [if_neg (fun h => by cases h.1), if_neg (fun h => c56 h.1), sel_neg hm']
theorem G37_is (k L : Nat) (hL : L ≤ 1000000) (hk : L + 100 < k) (d : Deal) (hl : lens L d) (hg : goodD d) : G37 k (d, ()) = some (if dealOK d = true then ((typeK d.1, itemsK d, ()), 0, ()) else (([], [], ()), 1, ())) := by
  have hR := G33_is k L hL hk d hl hg
  obtain ⟨kind, pan, amt, stan, rrn, code, ⟨⟩⟩ := d
  obtain ⟨ha, hs⟩ := hg
  (try simp only [] at ha hs)
  rw [G37_eq]
  (try simp only [])
  rw [hR, ocall_some, G108_is, ocall_some, G109_is k (by omega) kind pan amt stan rrn code ha hs, ocall_some]
  cases dealOK (kind, pan, amt, stan, rrn, code, ()) <;> rfl
set_option synthInstance.maxSize 2000 in
set_option synthInstance.maxHeartbeats 200000 in
instance decD : DecidableEq Deal := fun a b => inferInstanceAs (Decidable ((a : Int × Txt × Int × Int × Txt × Txt × Unit) = b))
theorem sameD (a b : Deal) : (sameI a.1 b.1 && (sameS a.2.1 b.2.1 && (sameI a.2.2.1 b.2.2.1 && (sameI a.2.2.2.1 b.2.2.2.1 && (sameS a.2.2.2.2.1 b.2.2.2.2.1 && (sameS a.2.2.2.2.2.1 b.2.2.2.2.2.1 && true)))))) = decide (a = b) := by
  obtain ⟨a1, a2, a3, a4, a5, a6, ⟨⟩⟩ := a
  obtain ⟨b1, b2, b3, b4, b5, b6, ⟨⟩⟩ := b
  simp only [sameI, sameS]
  by_cases h : (a1, a2, a3, a4, a5, a6, ()) = (b1, b2, b3, b4, b5, b6, ())
  · rw [decide_eq_true h]
    simp only [Prod.mk.injEq] at h
    obtain ⟨h1, h2, h3, h4, h5, h6, _⟩ := h
    simp [h1, h2, h3, h4, h5, h6]
  · rw [decide_eq_false h]
    simp only [Prod.mk.injEq, and_true] at h
    by_cases h1 : a1 = b1 <;> by_cases h2 : a2 = b2 <;> by_cases h3 : a3 = b3 <;> by_cases h4 : a4 = b4 <;> by_cases h5 : a5 = b5 <;> by_cases h6 : a6 = b6 <;> simp [h1, h2, h3, h4, h5, h6] <;> exact h ⟨h1, h2, h3, h4, h5, h6⟩
end Go.Proofs.YtjgnpmdbkgeakaaDoor.G
end
section
set_option linter.unusedVariables false
set_option linter.unusedSimpArgs false
set_option maxRecDepth 100000
namespace Go.Proofs.YtjgnpmdbkgeakaaDoor.G
open Go Go.Proofs.YtjgnpmdbkgeakaaDoor Th
theorem kindT_type {kind : Int} (h1 : 1 ≤ kind) (h7 : kind ≤ 7) : kindT (typeK kind) = kind := by
  have : kind = 1 ∨ kind = 2 ∨ kind = 3 ∨ kind = 4 ∨ kind = 5 ∨ kind = 6 ∨ kind = 7 := by omega
  rcases this with rfl | rfl | rfl | rfl | rfl | rfl | rfl <;> decide
theorem getOK_stan {stan : Int} (h0 : 0 ≤ stan) (h : stan ≤ 999999) : IntKind.u32.wrap (((getOK (stanT stan)).1 : Nat) : Int) = stan := by
  rw [stanT_of h0 h, get_digs 6 stan.toNat (by omega) (by omega) (by show stan.toNat < 1000000; omega)]
  (try simp only [])
  rw [wrapu32 (by omega) (by omega)]
  omega
theorem getOK_amt {amt : Int} (h0 : 0 ≤ amt) (h : amt < 1000000000000) : (((getOK (amtT amt)).1 : Nat) : Int) = amt := by
  rw [amtT_of h0 h, get_digs 12 amt.toNat (by omega) (by omega) (by show amt.toNat < 1000000000000; omega)]
  (try simp only [])
  omega
theorem ok_parts {d : Deal} (h : dealOK d = true) : 1 ≤ d.1 ∧ d.1 ≤ 7 ∧ d.2.2.2.1 ≤ 999999 ∧ rightF 37 d.2.2.2.2.1 = true ∧
    ((asksK d.1 = true ∧ isFine d.2.1 = true ∧ d.2.1.length < 20 ∧ d.2.2.1 < 1000000000000 ∧ d.2.2.2.2.2.1 = []) ∨ (asksK d.1 = false ∧ rightF 39 d.2.2.2.2.2.1 = true ∧ d.2.1 = [] ∧ d.2.2.1 = 0)) := by
  unfold dealOK at h
  simp only [Bool.and_eq_true, decide_eq_true_eq] at h
  obtain ⟨⟨⟨⟨h1, h2⟩, h3⟩, h4⟩, h5⟩ := h
  refine ⟨h1, h2, h3, h4, ?_⟩
  cases ca : asksK d.1 with
  | true =>
    rw [ca, if_pos rfl] at h5
    simp only [Bool.and_eq_true, decide_eq_true_eq] at h5
    exact .inl ⟨rfl, h5.1.1.1, h5.1.1.2, h5.1.2, h5.2⟩
  | false =>
    rw [ca, if_neg (by simp)] at h5
    simp only [Bool.and_eq_true, decide_eq_true_eq] at h5
    exact .inr ⟨rfl, h5.1.1, h5.1.2, h5.2⟩
theorem ok_right {d : Deal} (hg : goodD d) (h : dealOK d = true) : msgRight (typeK d.1, itemsK d, ()) = true := by
  obtain ⟨kind, pan, amt, stan, rrn, code, ⟨⟩⟩ := d
  have e := right_eq kind pan amt stan rrn code hg.1.1 hg.2.1
  rw [h] at e
  split at e
  · simp only [Bool.and_eq_true] at e; exact e.2
  · simp only [Bool.and_eq_true] at e; exact e.2
theorem read_write_deal {d : Deal} (hg : goodD d) (h : dealOK d = true) : readD (typeK d.1, itemsK d, ()) = (d, 0) := by
  have hm := ok_right hg h
  obtain ⟨h1, h7, h3, h4, h5⟩ := ok_parts h
  unfold readD
  rw [if_pos hm]
  unfold deM
  simp only [kindT_type h1 h7]
  rw [if_pos (items_must d)]
  obtain ⟨kind, pan, amt, stan, rrn, code, ⟨⟩⟩ := d
  obtain ⟨⟨ha0, ha⟩, hs0, hs⟩ := hg
  (try simp only [] at *)
  rcases h5 with ⟨ca, cf, cl, cm, rfl⟩ | ⟨ca, cc, rfl, rfl⟩
  · by_cases c56 : kind = 5 ∨ kind = 6
    · have e5 : itemsK (kind, pan, amt, stan, rrn, [], ()) = [(2, pan, ()), (4, amtT amt, ()), (11, stanT stan, ()), (37, rrn, ()), (90, originT stan, ())] := by
        unfold itemsK; (try simp only []); rw [if_pos ca, if_pos (by omega)]; rfl
      have g2 : (getM 2 [((2 : Int), pan, ()), (4, amtT amt, ()), (11, stanT stan, ()), (37, rrn, ()), (90, originT stan, ())]).1 = pan := by simp [getM]
      have g4 : numM 4 [((2 : Int), pan, ()), (4, amtT amt, ()), (11, stanT stan, ()), (37, rrn, ()), (90, originT stan, ())] = amt := by simp [numM, getM, getOK_amt ha0 cm]
      have g11 : (getM 11 [((2 : Int), pan, ()), (4, amtT amt, ()), (11, stanT stan, ()), (37, rrn, ()), (90, originT stan, ())]).1 = stanT stan := by simp [getM]
      have g11' : IntKind.u32.wrap (numM 11 [((2 : Int), pan, ()), (4, amtT amt, ()), (11, stanT stan, ()), (37, rrn, ()), (90, originT stan, ())]) = stan := by simp [numM, getM, getOK_stan hs0 h3]
      have g37 : (getM 37 [((2 : Int), pan, ()), (4, amtT amt, ()), (11, stanT stan, ()), (37, rrn, ()), (90, originT stan, ())]).1 = rrn := by simp [getM]
      have g39 : (getM 39 [((2 : Int), pan, ()), (4, amtT amt, ()), (11, stanT stan, ()), (37, rrn, ()), (90, originT stan, ())]).1 = [] := by simp [getM]
      have g90 : (getM 90 [((2 : Int), pan, ()), (4, amtT amt, ()), (11, stanT stan, ()), (37, rrn, ()), (90, originT stan, ())]).1 = originT stan := by simp [getM]
      rw [e5, g2, g4, g11, g11', g37, g39, g90, cf, if_neg (by simp), if_neg (fun e => e.2 rfl)]
    · have e4 : itemsK (kind, pan, amt, stan, rrn, [], ()) = [(2, pan, ()), (4, amtT amt, ()), (11, stanT stan, ()), (37, rrn, ())] := by
        unfold itemsK; (try simp only []); rw [if_pos ca, if_neg (fun e => c56 (kind_five.1 ⟨ca, e⟩))]; rfl
      have g2 : (getM 2 [((2 : Int), pan, ()), (4, amtT amt, ()), (11, stanT stan, ()), (37, rrn, ())]).1 = pan := by simp [getM]
      have g4 : numM 4 [((2 : Int), pan, ()), (4, amtT amt, ()), (11, stanT stan, ()), (37, rrn, ())] = amt := by simp [numM, getM, getOK_amt ha0 cm]
      have g11' : IntKind.u32.wrap (numM 11 [((2 : Int), pan, ()), (4, amtT amt, ()), (11, stanT stan, ()), (37, rrn, ())]) = stan := by simp [numM, getM, getOK_stan hs0 h3]
      have g37 : (getM 37 [((2 : Int), pan, ()), (4, amtT amt, ()), (11, stanT stan, ()), (37, rrn, ())]).1 = rrn := by simp [getM]
      have g39 : (getM 39 [((2 : Int), pan, ()), (4, amtT amt, ()), (11, stanT stan, ()), (37, rrn, ())]).1 = [] := by simp [getM]
      rw [e4, g2, g4, g11', g37, g39, cf, if_neg (by simp), if_neg (fun e => c56 e.1)]
  · have e3 : itemsK (kind, [], 0, stan, rrn, code, ()) = [(11, stanT stan, ()), (37, rrn, ()), (39, code, ())] := by
      unfold itemsK; (try simp only []); rw [if_neg (by rw [ca]; simp)]
    have g2 : (getM 2 [((11 : Int), stanT stan, ()), (37, rrn, ()), (39, code, ())]).1 = [] := by simp [getM]
    have g4 : numM 4 [((11 : Int), stanT stan, ()), (37, rrn, ()), (39, code, ())] = 0 := by simp [numM, getM, getOK]
    have g11' : IntKind.u32.wrap (numM 11 [((11 : Int), stanT stan, ()), (37, rrn, ()), (39, code, ())]) = stan := by simp [numM, getM, getOK_stan hs0 h3]
    have g37 : (getM 37 [((11 : Int), stanT stan, ()), (37, rrn, ()), (39, code, ())]).1 = rrn := by simp [getM]
    have g39 : (getM 39 [((11 : Int), stanT stan, ()), (37, rrn, ()), (39, code, ())]).1 = code := by simp [getM]
    rw [e3, g2, g4, g11', g37, g39, if_neg (fun e => by rw [ca] at e; cases e.1), if_neg (fun e => by rw [(kind_five.2 e.1).1] at ca; cases ca)]
theorem readD_ok {m : Msg} (h : (readD m).2 = 0) : msgRight m = true ∧ m.2.1.map (·.1) = mustK (kindT m.1) ∧ (asksK (kindT m.1) = true → isFine (getM 2 m.2.1).1 = true) ∧
    ((kindT m.1 = 5 ∨ kindT m.1 = 6) → (getM 90 m.2.1).1 = [48, 49, 48, 48] ++ (getM 11 m.2.1).1 ++ zeros) ∧ (readD m).1 = deM m := by
  unfold readD at *
  split at h
  · rename_i h1; rw [if_pos h1]
    split at h
    · rename_i h2; rw [if_pos h2]
      split at h
      · exact absurd h (by decide)
      · rename_i h3; rw [if_neg h3]
        split at h
        · exact absurd h (by decide)
        · rename_i h4; rw [if_neg h4]
          refine ⟨h1, h2, fun e => ?_, fun e => ?_, rfl⟩
          · cases hf : isFine (getM 2 m.2.1).1 with
            | true => rfl
            | false => exact absurd ⟨e, hf⟩ h3
          · exact Decidable.byContradiction fun hc => h4 ⟨e, hc⟩
    · exact absurd h (by decide)
  · exact absurd h (by decide)
theorem good_deM (m : Msg) : goodD (deM m) := ⟨numM_good _ _, wrap32_good _⟩
theorem write_read_deal {m : Msg} (h : (readD m).2 = 0) : (typeK (deM m).1, itemsK (deM m), ()) = m ∧ dealOK (deM m) = true := by
  obtain ⟨h1, h2, h3, h4, _⟩ := readD_ok h
  obtain ⟨typ, l, ⟨⟩⟩ := m
  obtain ⟨r1, r2⟩ := items_right h1
  (try simp only [] at r1 r2 h2 h3 h4)
  obtain ⟨k1, k7, kt⟩ := kindT_known r2
  have hit : itemsK (deM (typ, l, ())) = l ∧ (if asksK (kindT typ) = true then (getM 39 l).1 = [] else ((getM 2 l).1 = [] ∧ numM 4 l = 0)) := by
    unfold deM
    (try simp only [])
    have hm := h2
    unfold mustK at hm
    by_cases c56 : kindT typ = 5 ∨ kindT typ = 6
    · rw [if_pos c56] at hm
      have ca := (kind_five.2 c56).1
      have h9 := h4 c56
      obtain ⟨a, b, c, d, e, rfl⟩ := items5 hm
      simp only [itemsOK, Bool.and_eq_true] at r1
      obtain ⟨_, ab⟩ := amt_back r1.2.1.2
      obtain ⟨_, _, sb, _⟩ := stan_back r1.2.2.1.2
      have g2 : (getM 2 [((2 : Int), a, ()), (4, b, ()), (11, c, ()), (37, d, ()), (90, e, ())]).1 = a := by simp [getM]
      have g4 : numM 4 [((2 : Int), a, ()), (4, b, ()), (11, c, ()), (37, d, ()), (90, e, ())] = (((getOK b).1 : Nat) : Int) := by simp [numM, getM]
      have g11 : (getM 11 [((2 : Int), a, ()), (4, b, ()), (11, c, ()), (37, d, ()), (90, e, ())]).1 = c := by simp [getM]
      have g11' : numM 11 [((2 : Int), a, ()), (4, b, ()), (11, c, ()), (37, d, ()), (90, e, ())] = (((getOK c).1 : Nat) : Int) := by simp [numM, getM]
      have g37 : (getM 37 [((2 : Int), a, ()), (4, b, ()), (11, c, ()), (37, d, ()), (90, e, ())]).1 = d := by simp [getM]
      have g39 : (getM 39 [((2 : Int), a, ()), (4, b, ()), (11, c, ()), (37, d, ()), (90, e, ())]).1 = [] := by simp [getM]
      have g90 : (getM 90 [((2 : Int), a, ()), (4, b, ()), (11, c, ()), (37, d, ()), (90, e, ())]).1 = e := by simp [getM]
      rw [g11, g90] at h9
      rw [g2, g4, g11', g37, g39, if_pos ca]
      refine ⟨?_, rfl⟩
      unfold itemsK
      (try simp only [])
      rw [if_pos ca, if_pos (by omega), ab, sb, origin_of _ _ sb, h9]
      rfl
    rw [if_neg c56] at hm
    by_cases ca : asksK (kindT typ) = true
    · rw [if_pos ca] at hm
      obtain ⟨a, b, c, d, rfl⟩ := items4 hm
      simp only [itemsOK, Bool.and_eq_true] at r1
      obtain ⟨_, ab⟩ := amt_back r1.2.1.2
      obtain ⟨_, _, sb, _⟩ := stan_back r1.2.2.1.2
      have g2 : (getM 2 [((2 : Int), a, ()), (4, b, ()), (11, c, ()), (37, d, ())]).1 = a := by simp [getM]
      have g4 : numM 4 [((2 : Int), a, ()), (4, b, ()), (11, c, ()), (37, d, ())] = (((getOK b).1 : Nat) : Int) := by simp [numM, getM]
      have g11' : numM 11 [((2 : Int), a, ()), (4, b, ()), (11, c, ()), (37, d, ())] = (((getOK c).1 : Nat) : Int) := by simp [numM, getM]
      have g37 : (getM 37 [((2 : Int), a, ()), (4, b, ()), (11, c, ()), (37, d, ())]).1 = d := by simp [getM]
      have g39 : (getM 39 [((2 : Int), a, ()), (4, b, ()), (11, c, ()), (37, d, ())]).1 = [] := by simp [getM]
      rw [g2, g4, g11', g37, g39, if_pos ca]
      refine ⟨?_, rfl⟩
      unfold itemsK
      (try simp only [])
      rw [if_pos ca, if_neg (fun e => c56 (kind_five.1 ⟨ca, e⟩)), ab, sb]
      rfl
    · rw [if_neg ca] at hm
      obtain ⟨a, b, c, rfl⟩ := items3 hm
      simp only [itemsOK, Bool.and_eq_true] at r1
      obtain ⟨_, _, sb, _⟩ := stan_back r1.1.2
      have g2 : (getM 2 [((11 : Int), a, ()), (37, b, ()), (39, c, ())]).1 = [] := by simp [getM]
      have g4 : numM 4 [((11 : Int), a, ()), (37, b, ()), (39, c, ())] = 0 := by simp [numM, getM, getOK]
      have g11' : numM 11 [((11 : Int), a, ()), (37, b, ()), (39, c, ())] = (((getOK a).1 : Nat) : Int) := by simp [numM, getM]
      have g37 : (getM 37 [((11 : Int), a, ()), (37, b, ()), (39, c, ())]).1 = b := by simp [getM]
      have g39 : (getM 39 [((11 : Int), a, ()), (37, b, ()), (39, c, ())]).1 = c := by simp [getM]
      rw [g2, g4, g11', g37, g39, if_neg ca]
      refine ⟨?_, rfl, rfl⟩
      unfold itemsK
      (try simp only [])
      rw [if_neg ca, sb]
  obtain ⟨hi, hz⟩ := hit
  have hmsg : (typeK (deM (typ, l, ())).1, itemsK (deM (typ, l, ())), ()) = (typ, l, ()) := by
    rw [hi]; show (typeK (kindT typ), l, ()) = _; rw [kt]
  refine ⟨hmsg, ?_⟩
  have hr := right_eq (kindT typ) (getM 2 l).1 (numM 4 l) (IntKind.u32.wrap (numM 11 l)) (getM 37 l).1 (getM 39 l).1 (numM_good 4 l).1 (wrap32_good _).1
  have hd : deM (typ, l, ()) = (kindT typ, (getM 2 l).1, numM 4 l, IntKind.u32.wrap (numM 11 l), (getM 37 l).1, (getM 39 l).1, ()) := rfl
  rw [hd] at hmsg ⊢
  rw [← hr]
  have hm2 : (typeK (kindT typ), itemsK (kindT typ, (getM 2 l).1, numM 4 l, IntKind.u32.wrap (numM 11 l), (getM 37 l).1, (getM 39 l).1, ()), ()) = (typ, l, ()) := hmsg
  rw [hm2, h1]
  by_cases ca : asksK (kindT typ) = true
  · rw [if_pos ca] at hz ⊢
    rw [hz, h3 ca]; rfl
  · rw [if_neg ca] at hz ⊢
    rw [hz.1, hz.2]; rfl
end Go.Proofs.YtjgnpmdbkgeakaaDoor.G
end
section
set_option linter.unusedVariables false
set_option linter.unusedSimpArgs false
set_option maxRecDepth 100000
namespace Go.Proofs.YtjgnpmdbkgeakaaDoor.G
open Go Go.Proofs.YtjgnpmdbkgeakaaDoor Th
def keyOK (a : Key) : Bool := decide (a.1 ≤ 999999) && rightF 37 a.2.1
theorem ack_ok (a : Key) : dealOK (7, [], 0, a.1, a.2.1, [48, 48], ()) = keyOK a := by
  unfold dealOK keyOK
  have h1 : asksK 7 = false := rfl
  have h2 : rightF 39 [48, 48] = true := by decide
  simp only [h1, h2]
  simp
theorem G27_is (k L : Nat) (hL : L ≤ 1000000) (hk : L + 100 < k) (a : Key) (hl : a.2.1.length ≤ L) (h2 : 2 ≤ L) (hg : 0 ≤ a.1 ∧ a.1 ≤ 4294967295) : G27 k (a, ()) = some (keyOK a, ()) := by
  rw [G27_eq]
  (try simp only [])
  rw [G33_is k L hL hk (7, [], 0, a.1, a.2.1, [48, 48], ()) ⟨Nat.zero_le _, hl, h2⟩ ⟨⟨Int.le_refl 0, show (0 : Int) ≤ 18446744073709551615 by decide⟩, hg⟩, ocall_some, ack_ok]
def hstep (h : Nat) (c : UInt8) : Nat := (h ^^^ c.toNat) * 16777619 % 4294967296
def hsh (s : Txt) : Nat := s.foldl hstep 2166136261
theorem G26_is (k : Nat) (d : Deal) : G26 k (d, ()) = some ((d.2.2.2.1, d.2.2.2.2.1, ()), ()) := by rw [G26_eq]
end Go.Proofs.YtjgnpmdbkgeakaaDoor.G
end
section
set_option linter.unusedVariables false
set_option linter.unusedSimpArgs false
set_option maxRecDepth 100000
namespace Go.Proofs.YtjgnpmdbkgeakaaDoor.G
open Go Go.Proofs.YtjgnpmdbkgeakaaDoor Th
abbrev Entry := Key × Int × Txt × Int × Txt × Int × Int × Unit
abbrev Event := Int × Deal × Unit
def kindE (kind : Int) : Int := if kind = 1 then 1 else if kind = 2 then 2 else if kind = 3 then 3 else if kind = 5 then 7 else 0
def eventOK (v : Event) : Bool :=
  if v.1 = 4 then decide (v.2.1.1 = 0) && decide (v.2.1.2.1 = []) && decide (v.2.1.2.2.1 = 0) && decide (v.2.1.2.2.2.2.2.1 = []) && keyOK (v.2.1.2.2.2.1, v.2.1.2.2.2.2.1, ())
  else decide (0 < v.2.1.1) && decide (v.2.1.1 = kindE v.1) && dealOK v.2.1
theorem G128_is (k : Nat) (kind : Int) : G128 k (kind, ()) = some (kindE kind, ()) := by
  rw [G128_eq]
  unfold kindE
  simp only [sel_dec]
  by_cases h1 : kind = 1
  · simp [h1]
  by_cases h2 : kind = 2
  · simp [h2]
  by_cases h3 : kind = 3
  · simp [h3]
  by_cases h5 : kind = 5 <;> simp [h1, h2, h3, h5]
theorem G49_is (k L : Nat) (h2 : 2 ≤ L) (hL : L ≤ 1000000) (hk : L + 100 < k) (kind : Int) (d : Deal) (hl : lens L d) (hg : goodD d) : G49 k ((kind, d, ()), ()) = some (eventOK (kind, d, ()), ()) := by
  have hr := G33_is k L hL hk d hl hg
  obtain ⟨dk, pan, amt, stan, rrn, code, ⟨⟩⟩ := d
  obtain ⟨l1, l2, l3⟩ := hl
  rw [G49_eq]
  unfold eventOK
  (try simp only [])
  by_cases h4 : kind = 4
  · rw [sel_pos h4, if_pos h4, G26_is, ocall_some]
    (try simp only [])
    rw [G27_is k L hL hk (stan, rrn, ()) l2 h2 hg.2, ocall_some]
    simp only [sameI, sameS, decide_true, Bool.true_and, Bool.and_true]
    by_cases c1 : dk = 0 <;> by_cases c2 : pan = [] <;> by_cases c3 : amt = 0 <;> by_cases c4 : code = [] <;> simp [c1, c2, c3, c4]
  · rw [sel_neg h4, if_neg h4, G128_is, ocall_some, hr, ocall_some]
    by_cases c1 : 0 < dk
    · rw [sel_pos c1, decide_eq_true c1]
      by_cases c2 : dk = kindE kind
      · rw [sel_pos c2, decide_eq_true c2]; rfl
      · rw [sel_neg c2, decide_eq_false c2]; rfl
    · rw [sel_neg c1, decide_eq_false c1]; rfl
set_option synthInstance.maxSize 4000 in
set_option synthInstance.maxHeartbeats 400000 in
instance decE : DecidableEq Entry := fun a b => inferInstanceAs (Decidable ((a : (Int × Txt × Unit) × Int × Txt × Int × Txt × Int × Int × Unit) = b))
end Go.Proofs.YtjgnpmdbkgeakaaDoor.G
end
section
set_option linter.unusedVariables false
set_option linter.unusedSimpArgs false
set_option maxRecDepth 100000
namespace Go.Proofs.YtjgnpmdbkgeakaaDoor.G
open Go Go.Proofs.YtjgnpmdbkgeakaaDoor Th Bits
def evK (side kind : Int) : Int := if side = 1 ∧ (kind = 1 ∨ kind = 3) then kind else if side = 2 ∧ kind = 2 then 2 else if side = 2 ∧ kind = 7 then 5 else 0
def zeroEv : Event := (0, zeroD, ())
def eventF (side : Int) (b : List Int) : Event × Bool :=
  if (readM b).2 = 0 ∧ (readD (readM b).1).2 = 0 ∧ evK side (readD (readM b).1).1.1 ≠ 0 then ((evK side (readD (readM b).1).1.1, (readD (readM b).1).1, ()), true) else (zeroEv, false)
theorem readD_val {m : Msg} (h : (readD m).2 = 0) : (readD m).1 = deM m := by
  unfold readD at h ⊢
  split
  · rename_i h1
    rw [if_pos h1] at h
    split
    · rename_i h2
      rw [if_pos h2] at h
      split
      · rename_i h3; rw [if_pos h3] at h; exact absurd h (by decide)
      · rename_i h3
        rw [if_neg h3] at h
        split
        · rename_i h4; rw [if_pos h4] at h; exact absurd h (by decide)
        · rfl
    · rename_i h2; rw [if_neg h2] at h; exact absurd h (by decide)
  · rename_i h1; rw [if_neg h1] at h; exact absurd h (by decide)
theorem right_len {m : Msg} (h : msgRight m = true) : ∀ x ∈ m.2.1, x.2.1.length ≤ 999 := by
  intro x hx
  obtain ⟨d, hd, hs, _⟩ := right_def ((items_ok m.2.1 0 (msg_parts.1 h).1).1 x hx)
  exact (sized_le (defOf_mem hd).1 hs).2
theorem readDeal (k : Nat) (hk : 2000 < k) (m : Msg) (h : msgRight m = true) (hl : m.2.1.length ≤ 200) : G40 k (m, ()) = some ((readD m).1, (readD m).2, ()) := by
  obtain ⟨typ, l, ⟨⟩⟩ := m
  have hl' : l.length ≤ 200 := hl
  exact G40_is k hk typ l (by omega) fun x hx => by have := right_len h x hx; omega
theorem readDealR (k : Nat) (hk : 2000 < k) (m : Msg) (h : msgRight m = true) (hl : m.2.1.length ≤ 200) : G41 k (m, ()) = some ((readD m).1, (readD m).2, ()) := by
  obtain ⟨typ, l, ⟨⟩⟩ := m
  have hl' : l.length ≤ 200 := hl
  exact G41_is k hk typ l (by omega) fun x hx => by have := right_len h x hx; omega
theorem deM_lens {m : Msg} (h : msgRight m = true) : lens 1000 (deM m) := by
  have hx : ∀ x ∈ m.2.1, x.2.1.length ≤ 1000 := fun x hx => by have := right_len h x hx; omega
  exact ⟨getM_len 2 1000 _ hx, getM_len 37 1000 _ hx, getM_len 39 1000 _ hx⟩
theorem G145_is (k : Nat) (side : Int) : G145 k (side, ()) = some (if side = 1 then [1, 3] else if side = 2 then [2, 5] else [], ()) := by
  rw [G145_eq]
  by_cases h1 : side = 1
  · rw [sel_pos h1, if_pos h1]
  rw [sel_neg h1, if_neg h1]
  by_cases h2 : side = 2
  · rw [sel_pos h2, if_pos h2]
  · rw [sel_neg h2, if_neg h2]
theorem rightEv (k : Nat) (hk : 2000 < k) {m : Msg} (hr : msgRight m = true) (h : (readD m).2 = 0) (kind : Int) (h4 : kind ≠ 4) : G49 k ((kind, (readD m).1, ()), ()) = some (decide ((readD m).1.1 = kindE kind), ()) := by
  obtain ⟨w1, w2⟩ := write_read_deal h
  have hv := readD_val h
  have hR := G49_is k 1000 (by omega) (by omega) (by omega) kind (readD m).1 (by rw [hv]; exact deM_lens hr) (by rw [hv]; exact good_deM m)
  rw [hR]
  unfold eventOK
  rw [if_neg h4]
  (try simp only [])
  have hok : dealOK (readD m).1 = true := by rw [hv]; exact w2
  have h1 := (ok_parts hok).1
  rw [hok, decide_eq_true (show 0 < (readD m).1.1 by omega)]
  simp
theorem G82_is (k : Nat) (hk : 2000 < k) (side : Int) (b : List Int) (hb : ∀ c ∈ b, byteOK c) (hl : b.length ≤ 1000000000) : G82 k (side, b, ()) = some ((eventF side b).1, (eventF side b).2, ()) := by
  rw [G82_eq, G80_is k (by omega) b hb hl, ocall_some]
  unfold eventF
  (try simp only [])
  by_cases he : (readM b).2 = 0
  case neg => rw [sel_not, sel_neg he, if_neg (fun h => he h.1)]; rfl
  obtain ⟨w1, w2, w3⟩ := write_read_msg hb he
  have eR : ((((readM b).1.1, (readM b).1.2.1, ()) : Msg)) = (readM b).1 := rfl
  rw [sel_not, sel_pos he, eR, readDeal k hk _ w1 (by omega), ocall_some]
  (try simp only [])
  by_cases hd : (readD (readM b).1).2 = 0
  case neg => rw [sel_not, sel_neg hd, if_neg (fun h => hd h.2.1)]; rfl
  have hev := fun kind h4 => rightEv k hk w1 hd kind h4
  rw [sel_not, sel_pos hd, G145_is, ocall_some]
  generalize (readD (readM b).1).1 = d at hev
  obtain ⟨k1, k2, k3, k4, k5, k6, ⟨⟩⟩ := d
  (try simp only [] at hev ⊢)
  obtain ⟨c, rfl⟩ : ∃ c, k = c + 3 := ⟨k - 3, by omega⟩
  by_cases s1 : side = 1
  · rw [if_pos s1]
    have e1 := hev 1 (by omega)
    have e3 := hev 3 (by omega)
    rw [show Int.ofNat ([1, 3] : List Int).length = 2 from rfl, G82_8_eq, sel_pos (by omega), sel_pos (by omega), sel_pos (by decide), sel_pos (by decide)]
    have g0 : ([1, 3] : List Int).getD (Int.toNat 0) 0 = 1 := rfl
    rw [g0, e1, ocall_some]
    by_cases c1 : k1 = 1
    · rw [show kindE 1 = 1 from rfl, decide_eq_true c1, sel_true, ocall_some, esel_inr, if_pos ⟨he, hd, by unfold evK; rw [if_pos ⟨s1, .inl c1⟩]; omega⟩]
      unfold evK; rw [if_pos ⟨s1, .inl c1⟩, c1]
    rw [show kindE 1 = 1 from rfl, decide_eq_false c1, sel_false, G82_8_eq, sel_pos (by decide), sel_pos (by decide), sel_pos (by decide), sel_pos (by decide)]
    have g1 : ([1, 3] : List Int).getD (Int.toNat (IntKind.i64.wrap (0 + 1))) 0 = 3 := rfl
    rw [g1, e3, ocall_some]
    by_cases c3 : k1 = 3
    · rw [show kindE 3 = 3 from rfl, decide_eq_true c3, sel_true, ocall_some, esel_inr, if_pos ⟨he, hd, by unfold evK; rw [if_pos ⟨s1, .inr c3⟩]; omega⟩]
      unfold evK; rw [if_pos ⟨s1, .inr c3⟩, c3]
    rw [show kindE 3 = 3 from rfl, decide_eq_false c3, sel_false, G82_8_eq, sel_neg (by decide), ocall_some, esel_inl, if_neg (fun h => h.2.2 (by unfold evK; rw [if_neg (by omega), if_neg (by omega), if_neg (by omega)]))]
    rfl
  rw [if_neg s1]
  by_cases s2 : side = 2
  · rw [if_pos s2]
    have e1 := hev 2 (by omega)
    have e3 := hev 5 (by omega)
    rw [show Int.ofNat ([2, 5] : List Int).length = 2 from rfl, G82_8_eq, sel_pos (by omega), sel_pos (by omega), sel_pos (by decide), sel_pos (by decide)]
    have g0 : ([2, 5] : List Int).getD (Int.toNat 0) 0 = 2 := rfl
    rw [g0, e1, ocall_some]
    by_cases c1 : k1 = 2
    · rw [show kindE 2 = 2 from rfl, decide_eq_true c1, sel_true, ocall_some, esel_inr, if_pos ⟨he, hd, by unfold evK; rw [if_neg (by omega), if_pos ⟨s2, c1⟩]; omega⟩]
      unfold evK; rw [if_neg (by omega), if_pos ⟨s2, c1⟩]
    rw [show kindE 2 = 2 from rfl, decide_eq_false c1, sel_false, G82_8_eq, sel_pos (by decide), sel_pos (by decide), sel_pos (by decide), sel_pos (by decide)]
    have g1 : ([2, 5] : List Int).getD (Int.toNat (IntKind.i64.wrap (0 + 1))) 0 = 5 := rfl
    rw [g1, e3, ocall_some]
    by_cases c3 : k1 = 7
    · rw [show kindE 5 = 7 from rfl, decide_eq_true c3, sel_true, ocall_some, esel_inr, if_pos ⟨he, hd, by unfold evK; rw [if_neg (by omega), if_neg (by omega), if_pos ⟨s2, c3⟩]; omega⟩]
      unfold evK; rw [if_neg (by omega), if_neg (by omega), if_pos ⟨s2, c3⟩]
    rw [show kindE 5 = 7 from rfl, decide_eq_false c3, sel_false, G82_8_eq, sel_neg (by decide), ocall_some, esel_inl, if_neg (fun h => h.2.2 (by unfold evK; rw [if_neg (by omega), if_neg (by omega), if_neg (by omega)]))]
    rfl
  rw [if_neg s2, show Int.ofNat ([] : List Int).length = 0 from rfl, G82_8_eq, sel_neg (by omega), ocall_some, esel_inl, if_neg (fun h => h.2.2 (by unfold evK; rw [if_neg (by omega), if_neg (by omega), if_neg (by omega)]))]
  rfl
theorem G83_is (k : Nat) (hk : 2000 < k) (side : Int) (b : List Int) (hb : ∀ c ∈ b, byteOK c) (hl : b.length ≤ 1000000000) : G83 k (side, b, ()) = some ((eventF side b).1, (eventF side b).2, ()) := by
  rw [G83_eq, G146_is k (by omega) b hb hl, ocall_some]
  unfold eventF
  (try simp only [])
  by_cases he : (readM b).2 = 0
  case neg => rw [sel_not, sel_neg he, if_neg (fun h => he h.1)]; rfl
  obtain ⟨w1, w2, w3⟩ := write_read_msg hb he
  have eR : ((((readM b).1.1, (readM b).1.2.1, ()) : Msg)) = (readM b).1 := rfl
  rw [sel_not, sel_pos he, eR, readDealR k hk _ w1 (by omega), ocall_some]
  (try simp only [])
  by_cases hd : (readD (readM b).1).2 = 0
  case neg => rw [sel_not, sel_neg hd, if_neg (fun h => hd h.2.1)]; rfl
  rw [sel_not, sel_pos hd]
  generalize (readD (readM b).1).1 = d
  obtain ⟨k1, k2, k3, k4, k5, k6, ⟨⟩⟩ := d
  (try simp only [])
  have no : evK side k1 = 0 → (if (readM b).2 = 0 ∧ (readD (readM b).1).2 = 0 ∧ evK side k1 ≠ 0 then (((evK side k1, (k1, k2, k3, k4, k5, k6, ()), ()), true) : Event × Bool) else (zeroEv, false)) = (zeroEv, false) := fun h => if_neg (fun h2 => h2.2.2 h)
  have yes : ∀ x, evK side k1 = x → x ≠ 0 → (if (readM b).2 = 0 ∧ (readD (readM b).1).2 = 0 ∧ evK side k1 ≠ 0 then (((evK side k1, (k1, k2, k3, k4, k5, k6, ()), ()), true) : Event × Bool) else (zeroEv, false)) = ((x, (k1, k2, k3, k4, k5, k6, ()), ()), true) := fun x h hx => by rw [if_pos ⟨he, hd, by omega⟩, h]
  by_cases c1 : k1 = 1
  · rw [sel_pos c1, sel_pos c1]
    by_cases s1 : side = 1
    · rw [sel_pos s1, sel_neg (by omega), yes k1 (by unfold evK; rw [if_pos ⟨s1, .inl c1⟩]) (by omega)]
    · rw [sel_neg s1, no (by unfold evK; rw [if_neg (by omega), if_neg (by omega), if_neg (by omega)])]; rfl
  rw [sel_neg c1]
  by_cases c3 : k1 = 3
  · rw [sel_pos c3]
    by_cases s1 : side = 1
    · rw [sel_pos s1, sel_neg (by omega), yes k1 (by unfold evK; rw [if_pos ⟨s1, .inr c3⟩]) (by omega)]
    · rw [sel_neg s1, no (by unfold evK; rw [if_neg (by omega), if_neg (by omega), if_neg (by omega)])]; rfl
  rw [sel_neg c3]
  by_cases c2 : k1 = 2
  · rw [sel_pos c2]
    by_cases s2 : side = 2
    · rw [sel_pos s2, yes 2 (by unfold evK; rw [if_neg (by omega), if_pos ⟨s2, c2⟩]) (by omega)]
    · rw [sel_neg s2, no (by unfold evK; rw [if_neg (by omega), if_neg (by omega), if_neg (by omega)])]; rfl
  rw [sel_neg c2]
  by_cases c7 : k1 = 7
  · rw [sel_pos c7]
    by_cases s2 : side = 2
    · rw [sel_pos s2, yes 5 (by unfold evK; rw [if_neg (by omega), if_neg (by omega), if_pos ⟨s2, c7⟩]) (by omega)]
    · rw [sel_neg s2, no (by unfold evK; rw [if_neg (by omega), if_neg (by omega), if_neg (by omega)])]; rfl
  rw [sel_neg c7, no (by unfold evK; rw [if_neg (by omega), if_neg (by omega), if_neg (by omega)])]; rfl
def nextA (all : List Int) : Reader × List Int × List Int × Int :=
  if 0 < firstF all then (([], false, ()), all.drop (firstF all).toNat, (all.take (firstF all).toNat).drop 2, 0)
  else if firstF all < 0 then (([], true, ()), [], [], 12) else ((all, false, ()), [], [], 5)
def nextR (r : Reader) (line : List Int) : Reader × List Int × List Int × Int :=
  if rightR r = true then (if r.2.1 = true then (r, line, [], 12) else nextA (r.1 ++ line)) else (r, line, [], 1)
theorem feed_one {r : List Int} {c : Int} (hb : ∀ c ∈ r, byteOK c) (hc : byteOK c) (h : firstF r = 0) :
    (firstF (r ++ [c]) = 0 ∧ feedR (r, false, ()) [c] = ((r ++ [c], false, ()), [], 0)) ∨
    ((∀ t, firstF ((r ++ [c]) ++ t) = -1) ∧ feedR (r, false, ()) [c] = (([], true, ()), [], 12)) ∨
    ((∀ t, firstF ((r ++ [c]) ++ t) = ((r ++ [c]).length : Int)) ∧ 2 ≤ (r ++ [c]).length ∧ feedR (r, false, ()) [c] = (([], false, ()), [(r ++ [c]).drop 2], 0)) := by
  have hb' := bytes_app hb (bytes_one hc)
  have hr : rightR (r, false, ()) = true := by unfold rightR; rw [if_neg (by simp)]; exact decide_eq_true h
  have hf : feedR (r, false, ()) [c] = if (feedA (r ++ [c])).2.2 = true then (([], true, ()), (feedA (r ++ [c])).1, 12) else (((feedA (r ++ [c])).2.1, false, ()), (feedA (r ++ [c])).1, 0) := by
    unfold feedR; rw [if_pos hr, if_neg (by simp)]
  rw [hf]
  have hcs := snoc_cases hb hc h
  generalize r ++ [c] = r' at hb' hcs
  rcases hcs with ⟨c1, c2⟩ | ⟨c1, c2, c3⟩ | ⟨c1, c2, c3, c4⟩ | ⟨c1, c2, c3, c4⟩
  · rw [feedA_zero hb' c2]; exact .inl ⟨c2, rfl⟩
  · have h0 := c3 []
    rw [List.append_nil] at h0
    rw [feedA_neg hb' (by omega)]; exact .inr (.inl ⟨c3, rfl⟩)
  · have h0 := c4 []
    rw [List.append_nil] at h0
    have hp := feedA_pos hb' (by omega)
    rw [h0, Int.toNat_natCast, List.take_length, List.drop_length, feedA_nil] at hp
    rw [hp]; exact .inr (.inr ⟨c4, c1, rfl⟩)
  · rw [feedA_zero hb' c4]; exact .inl ⟨c4, rfl⟩
theorem slice1 {l : List Int} {i : Nat} (h : i < l.length) : List.drop ((i : Int)).toNat (List.take (IntKind.i64.wrap ((i : Int) + 1)).toNat l) = [l[i]] ∨ 9223372036854775806 ≤ i := by
  by_cases hi : i < 9223372036854775806
  · left
    rw [wrap64 (by omega) (by omega), Int.toNat_natCast, show ((i : Int) + 1).toNat = i + 1 by omega, List.take_succ_eq_append_getElem h, List.drop_append, List.drop_of_length_le (by rw [List.length_take]; omega)]
    simp [Nat.min_eq_left (Nat.le_of_lt h)]
  · right; omega
theorem next_loop (line : List Int) (hb : ∀ c ∈ line, byteOK c) (hl : line.length ≤ 100000000) (v4 : List Int) (v5 : Bool) (k : Nat) (hk : 3000 < k) : ∀ (j i : Nat), i + j = line.length → ∀ (r : List Int), (∀ c ∈ r, byteOK c) → firstF r = 0 → ∀ n, j < n →
    G84_g0 k n (line, (i : Int), r, false, v4, v5, ()) = some ((nextA (r ++ line.drop i)).2.1, (nextA (r ++ line.drop i)).2.2.1, (nextA (r ++ line.drop i)).2.2.2, (nextA (r ++ line.drop i)).1.1, (nextA (r ++ line.drop i)).1.2.1, ()) := by
  intro j
  induction j with
  | zero =>
    intro i hij r hr h0 n hn
    obtain ⟨n, rfl⟩ : ∃ m, n = m + 1 := ⟨n - 1, by omega⟩
    have e : nextA (r ++ line.drop i) = ((r, false, ()), [], [], 5) := by
      rw [List.drop_eq_nil_of_le (by omega), List.append_nil]; unfold nextA; rw [if_neg (by omega), if_neg (by omega)]
    rw [G84_g0_eq, sel_pos (by simp only [ofNat_len]; omega), e]
  | succ j ih =>
    intro i hij r hr h0 n hn
    obtain ⟨n, rfl⟩ : ∃ m, n = m + 1 := ⟨n - 1, by omega⟩
    have hlt : i < line.length := by omega
    have hc := hb line[i] (List.getElem_mem _)
    have hrl := first_le hr h0
    have hall : r ++ line.drop i = (r ++ [line[i]]) ++ line.drop (i + 1) := by rw [List.drop_eq_getElem_cons hlt]; simp
    have hs : List.drop ((i : Int)).toNat (List.take (IntKind.i64.wrap ((i : Int) + 1)).toNat line) = [line[i]] := by
      rcases slice1 hlt with h | h
      · exact h
      · omega
    have hw : IntKind.i64.wrap ((i : Int) + 1) = ((i + 1 : Nat) : Int) := by rw [wrap64 (by omega) (by omega)]; omega
    rw [G84_g0_eq, sel_neg (by simp only [ofNat_len]; omega), sel_pos (by omega), sel_pos (by rw [hw]; omega), sel_pos (by rw [hw]; simp only [ofNat_len]; omega), sel_pos (Int.le_refl _), hs,
      G88_is k (r, false, ()) [line[i]] hr (bytes_one hc) (by simp; omega) (by simp; omega), ocall_some, hall]
    rcases feed_one hr hc h0 with ⟨c1, c2⟩ | ⟨c1, c2⟩ | ⟨c1, c1', c2⟩
    · rw [c2]
      (try simp only [])
      rw [sel_not, sel_pos trivial, sel_pos (by rfl), hw]
      exact ih (i + 1) (by omega) (r ++ [line[i]]) (bytes_app hr (bytes_one hc)) c1 n (by omega)
    · have e : nextA ((r ++ [line[i]]) ++ line.drop (i + 1)) = (([], true, ()), [], [], 12) := by unfold nextA; rw [c1, if_neg (by decide), if_pos (by decide)]
      rw [c2, e]
      (try simp only [])
      rw [sel_not, sel_neg (by decide)]
    · have e : nextA ((r ++ [line[i]]) ++ line.drop (i + 1)) = (([], false, ()), line.drop (i + 1), (r ++ [line[i]]).drop 2, 0) := by
        unfold nextA; rw [c1, if_pos (by omega), Int.toNat_natCast, List.drop_left, List.take_left]
      rw [c2, e]
      (try simp only [])
      have ho : Int.ofNat [List.drop 2 (r ++ [line[i]])].length = 1 := rfl
      rw [sel_not, sel_pos trivial, ho, sel_neg (by decide), hw, sel_pos (by omega), sel_pos (by simp only [ofNat_len]; omega), sel_pos (Int.le_refl _), sel_pos (Int.le_refl _), all_of_b, Int.toNat_natCast,
        cloneB k _ (by rw [List.length_drop]; omega), ocall_some, sel_pos (by decide), sel_pos (by simp)]
      rfl
theorem G84_is (k : Nat) (hk : 3000 < k) (r : Reader) (line : List Int) (hr : ∀ c ∈ r.1, byteOK c) (hrl : r.1.length ≤ 1000000000) (hb : ∀ c ∈ line, byteOK c) (hl : line.length ≤ 100000000) (hkl : line.length < k) :
    G84 k (r, line, ()) = some ((nextR r line).1, (nextR r line).2.1, (nextR r line).2.2.1, (nextR r line).2.2.2, ()) := by
  have hR := G87_is k r hr (by omega)
  obtain ⟨rest, br, ⟨⟩⟩ := r
  have hr : ∀ c ∈ rest, byteOK c := hr
  rw [G84_eq, hR, ocall_some]
  unfold nextR
  cases hrr : rightR (rest, br, ()) with
  | false => rw [if_neg (by simp)]; rfl
  | true =>
  rw [if_pos rfl]
  simp only [Bool.not_true, sel_false]
  cases br with
  | true => rw [sel_true, if_pos rfl]
  | false =>
  have h0 : firstF rest = 0 := by
    unfold rightR at hrr
    rw [if_neg (by simp)] at hrr
    exact of_decide_eq_true hrr
  rw [sel_false, if_neg (by simp)]
  have hgo := next_loop line hb hl [] false k hk
  by_cases hz : line.length = 0
  · have : line = [] := List.eq_nil_of_length_eq_zero hz
    subst this
    have e : nextA (rest ++ []) = ((rest, false, ()), [], [], 5) := by rw [List.append_nil]; unfold nextA; rw [if_neg (by omega), if_neg (by omega)]
    rw [sel_pos (by rfl), e]
  · have hlt : 0 < line.length := by omega
    have hc := hb line[0] (List.getElem_mem _)
    have hl0 : rest.length ≤ 2050 := first_le hr h0
    have hall : rest ++ line = (rest ++ [line[0]]) ++ line.drop 1 := by
      have := List.drop_eq_getElem_cons hlt
      rw [List.drop_zero] at this
      rw [List.append_assoc, List.singleton_append, ← this]
    have hs : List.drop (Int.toNat 0) (List.take (IntKind.i64.wrap (0 + 1)).toNat line) = [line[0]] := by
      rcases slice1 hlt with h | h
      · exact h
      · omega
    have hw : IntKind.i64.wrap (0 + 1) = ((1 : Nat) : Int) := by rfl
    simp only [ofNat_len]
    rw [sel_neg (by omega), sel_pos (by rw [hw]; omega), sel_pos (Int.le_refl _), hs, G88_is k (rest, false, ()) [line[0]] hr (bytes_one hc) (by simp; omega) (by simp; omega), ocall_some]
    rcases feed_one hr hc h0 with ⟨c1, c2⟩ | ⟨c1, c2⟩ | ⟨c1, c1', c2⟩
    · rw [c2]
      (try simp only [])
      have hn := hgo (line.length - 1) 1 (by omega) (rest ++ [line[0]]) (bytes_app hr (bytes_one hc)) c1 k (by omega)
      rw [← hall] at hn
      rw [sel_not, sel_pos trivial, sel_pos (by rfl), hw, hn, ocall_some]
    · have e : nextA (rest ++ line) = (([], true, ()), [], [], 12) := by rw [hall]; unfold nextA; rw [c1, if_neg (by decide), if_pos (by decide)]
      rw [c2, e]
      (try simp only [])
      rw [sel_not, sel_neg (by decide)]
    · have e : nextA (rest ++ line) = (([], false, ()), line.drop 1, (rest ++ [line[0]]).drop 2, 0) := by
        rw [hall]; unfold nextA; rw [c1, if_pos (by omega), Int.toNat_natCast, List.drop_left, List.take_left]
      rw [c2, e]
      (try simp only [])
      rw [sel_not, sel_pos trivial, sel_neg (by simp), sel_pos (by rw [hw]; omega), sel_pos (Int.le_refl _), sel_pos (Int.le_refl _), hw, Int.toNat_natCast, Int.toNat_natCast, List.take_length,
        cloneB k _ (by rw [List.length_drop]; omega), ocall_some, sel_pos (by simp), sel_pos (by simp)]
      rfl
end Go.Proofs.YtjgnpmdbkgeakaaDoor.G
end
section
set_option linter.unusedVariables false
set_option linter.unusedSimpArgs false
set_option maxRecDepth 100000
namespace Go.Proofs.YtjgnpmdbkgeakaaDoor.PureDealRight
open Go Go.Proofs.YtjgnpmdbkgeakaaDoor Th G
theorem shortD (k : Nat) (d : Deal) : G24 k (d, ()) = some (decide (lens 300 d), ()) := by
  obtain ⟨kind, pan, amt, stan, rrn, code, ⟨⟩⟩ := d
  rw [G24_eq]
  simp only [ofNat_len]
  by_cases h : lens 300 (kind, pan, amt, stan, rrn, code, ())
  · have h1 : pan.length ≤ 300 := h.1
    have h2 : rrn.length ≤ 300 := h.2.1
    have h3 : code.length ≤ 300 := h.2.2
    rw [sel_pos (by omega), sel_pos (by omega), decide_eq_true h, decide_eq_true (show (code.length : Int) ≤ 300 by omega)]
  · rw [decide_eq_false h]
    by_cases h1 : pan.length ≤ 300
    · rw [sel_pos (by omega)]
      by_cases h2 : rrn.length ≤ 300
      · have h3 : ¬ code.length ≤ 300 := fun e => h ⟨h1, h2, e⟩
        rw [sel_pos (by omega), decide_eq_false (show ¬ (code.length : Int) ≤ 300 by omega)]
      · rw [sel_neg (by omega)]
    · rw [sel_neg (by omega)]
def dA : Deal := (5, [49, 56], 500, 7, [97, 98, 99, 100, 101, 102, 103, 104, 105, 106, 107, 108], [], ())
def dB : Deal := (1, [49, 57], 0, 0, [97, 98, 99, 100, 101, 102, 103, 104, 105, 106, 107, 108], [], ())
theorem okA : dealOK dA = true := by decide
theorem okB : dealOK dB = false := by decide
theorem goodA : goodD dA := ⟨by decide, by decide⟩
theorem goodB : goodD dB := ⟨by decide, by decide⟩
theorem itA : itemsK dA = [(2, [49, 56], ()), (4, [48, 48, 48, 48, 48, 48, 48, 48, 48, 53, 48, 48], ()), (11, [48, 48, 48, 48, 48, 55], ()), (37, [97, 98, 99, 100, 101, 102, 103, 104, 105, 106, 107, 108], ()), (90, originT 7, ())] := by decide
theorem awake (k : Nat) (hk : 3000 < k) : G34 k () = some (true, ()) := by
  rw [G34_eq]
  have w1 := G37_is k 300 (by omega) (by omega) dA (by decide) goodA
  have w2 := G37_is k 300 (by omega) (by omega) dB (by decide) goodB
  rw [if_pos okA] at w1
  rw [okB, if_neg (by simp)] at w2
  have rd := read_write_deal goodA okA
  have r1 := G40_is k (by omega) (typeK 5) (itemsK dA) (by have := itemsK_len dA; omega) (fun x hx => by have := itemsK_txt dA 300 (by decide) (by decide) (by decide) x hx; omega)
  have ri := G33_is k 300 (by omega) (by omega) dA (by decide) goodA
  rw [okA] at ri
  have rd' : readD (typeK 5, itemsK dA, ()) = (dA, 0) := rd
  rw [rd'] at r1
  have e5 : typeK dA.1 = typeK 5 := rfl
  rw [e5] at w1
  unfold dA at w1 r1 ri
  unfold dB at w2
  rw [w1, ocall_some]
  (try simp only [])
  rw [r1, ocall_some, w2, ocall_some]
  (try simp only [])
  have it := itA
  unfold dA at it
  rw [it, sel_pos trivial, sel_pos trivial, sel_pos trivial, sel_pos (by decide), sel_pos (by simp only [List.length_cons, List.length_nil]; rfl), sel_pos (by simp only [List.length_cons, List.length_nil]; decide), sel_pos (by rfl)]
  rw [ri]
  simp only [ocall_some, sel_true, G42_is]
  simp [sameI, sameS, asksK]
theorem main (d : Deal) (m : Msg) (kind : Int) (gd : goodD d) : G6 5000 (d, m, kind, ()) = some (true, ()) := by
  have hsd := shortD 5000 d
  have hw := G37_is 5000 300 (by omega) (by omega) d
  have hri := G33_is 5000 300 (by omega) (by omega) d
  have hrr := G36_is 5000 300 (by omega) (by omega) d
  have hW := fun h1 h7 => G39_is 5000 (by omega) d.1 d.2.1 d.2.2.1 d.2.2.2.1 d.2.2.2.2.1 d.2.2.2.2.2.1 h1 h7 gd.1 gd.2
  have hil := itemsK_len d
  have hok := @ok_parts d
  obtain ⟨k1, pan, amt, stan, rrn, code, ⟨⟩⟩ := d
  obtain ⟨typ, l, ⟨⟩⟩ := m
  rw [G6_eq, awake 5000 (by omega), ocall_some]
  simp only [Bool.not_true, sel_false]
  rw [hsd, ocall_some]
  by_cases hl : lens 300 (k1, pan, amt, stan, rrn, code, ())
  case neg => rw [decide_eq_false hl]; rfl
  rw [decide_eq_true hl]
  simp only [Bool.not_true, sel_false]
  obtain ⟨b, hb, hbs⟩ := G35_is 5000 (by omega) typ l
  rw [hb, ocall_some]
  cases b with
  | false => rfl
  | true =>
    obtain ⟨s1, s2, s3⟩ := hbs rfl
    (try simp only [] at s1 s2 s3)
    simp only [Bool.not_true, sel_false]
    rw [hrr hl gd, ocall_some]
    have rc := G40_is 5000 (by omega) typ l (by omega) s3
    have rr := G41_is 5000 (by omega) typ l (by omega) s3
    rw [hw hl gd, ocall_some]
    have hsm := sameD (readD (typ, l, ())).1 (readD (typ, l, ())).1
    rw [decide_eq_true rfl] at hsm
    cases ho : dealOK (k1, pan, amt, stan, rrn, code, ()) with
    | true =>
      obtain ⟨a1, a7, _⟩ := hok ho
      rw [if_pos rfl]
      simp only [sel_true, Bool.not_true, sel_false]
      rw [sel_not, sel_pos trivial, hW a1 a7, ocall_some]
      (try simp only [])
      rw [G38_is 5000 _ _ _ _ (by omega) (by omega), ocall_some, decide_eq_true rfl]
      simp only [Bool.not_true, sel_false]
      rw [rc, ocall_some, rr, ocall_some]
      (try simp only [])
      rw [hri hl gd, ocall_some, ho]
      simp only [hsm, G42_is, G43_is, ocall_some]
      simp
    | false =>
      rw [if_neg (by simp)]
      simp only [sel_true, Bool.not_false, sel_false]
      rw [sel_not, sel_pos trivial, G38_is 5000 _ _ _ _ (by simp) (by simp), ocall_some, decide_eq_true rfl]
      simp only [Bool.not_true, sel_false]
      rw [rc, ocall_some, rr, ocall_some]
      (try simp only [])
      rw [hri hl gd, ocall_some, ho]
      simp only [hsm, G42_is, G43_is, ocall_some]
      simp
theorem pure (x0 : Ty.den (.st (.cons (.int .i64) (.cons .str (.cons (.int .u64) (.cons (.int .u32) (.cons .str (.cons .str .nil)))))))) (x1 : Ty.den (.st (.cons .str (.cons (.slice (.st (.cons (.int .i64) (.cons .str .nil)))) .nil)))) (x2 : Ty.den (.int .i64)) (g0 : Ty.Good (.st (.cons (.int .i64) (.cons .str (.cons (.int .u64) (.cons (.int .u32) (.cons .str (.cons .str .nil))))))) x0) (g1 : Ty.Good (.st (.cons .str (.cons (.slice (.st (.cons (.int .i64) (.cons .str .nil)))) .nil))) x1) (g2 : Ty.Good (.int .i64) x2) : ∃ k, F6 k (x0, (x1, (x2, PUnit.unit))) = some (true, PUnit.unit) :=
  ⟨5000, main x0 x1 x2 ⟨good_u64 g0.2.2.1, good_u32 g0.2.2.2.1⟩⟩
end Go.Proofs.YtjgnpmdbkgeakaaDoor.PureDealRight
end
section
set_option linter.unusedVariables false
set_option linter.unusedSimpArgs false
set_option maxRecDepth 100000
namespace Go.Proofs.YtjgnpmdbkgeakaaDoor.PureDealBytes
open Go Go.Proofs.YtjgnpmdbkgeakaaDoor Th G Bits PureDealRight
theorem b_xor8 {x y : Nat} (hx : x < 256) (hy : y < 256) : bits .xor .u8 (x : Int) (y : Int) = ((x ^^^ y : Nat) : Int) ∧ (x ^^^ y) < 256 := by
  have hb : (x ^^^ y) < 2 ^ 8 := Nat.xor_lt_two_pow (by omega) (by omega)
  have e : (BitVec.ofInt 8 (x : Int) ^^^ BitVec.ofInt 8 (y : Int)).toNat = x ^^^ y := by
    rw [BitVec.toNat_xor, BitVec.ofInt_natCast, BitVec.ofInt_natCast, BitVec.toNat_ofNat, BitVec.toNat_ofNat, Nat.mod_eq_of_lt (by omega), Nat.mod_eq_of_lt (by omega)]
  refine ⟨?_, by omega⟩
  show IntKind.u8.wrap (((BitVec.ofInt 8 (x : Int) ^^^ BitVec.ofInt 8 (y : Int)).toNat : Nat) : Int) = _
  rw [e]
  unfold IntKind.wrap
  simp only [IntKind.bits, IntKind.signed]
  simp
  omega
theorem xor_same {x y : Nat} : (x ^^^ y) = x ↔ y = 0 := by
  constructor
  · intro h
    have := congrArg (fun z => x ^^^ z) h
    simpa [← Nat.xor_assoc] using this
  · intro h; rw [h, Nat.xor_zero]
theorem fw_le {n kind size : Int} {s : Txt} (hd : defOf n = some (n, kind, size, ())) (h : rightF n s = true) : ((fieldW (n, s, ())).length : Int) ≤ 3 + size := by
  obtain ⟨d, hd', hs, _⟩ := right_def h
  rw [hd] at hd'
  cases hd'
  have hw := fieldW_some (x := (n, s, ())) hd
  have hl := writeF_len (n, kind, size, ()) s
  have hz : (s.length : Int) ≤ size := by
    unfold sized at hs
    split at hs
    · have := of_decide_eq_true hs; (try simp only [] at this); omega
    · simp only [Bool.and_eq_true, decide_eq_true_eq] at hs; exact hs.2
  rw [hw, hl]
  rcases ahead_cases (kind := kind) with e | e | e <;> rw [show G.ahead (n, kind, size, ()).2.1 = G.ahead kind from rfl, e] <;> omega
theorem deal_size {d : Deal} (hg : goodD d) (h : dealOK d = true) : (writeM (typeK d.1, itemsK d, ())).length ≤ 200 := by
  have hm := ok_right hg h
  obtain ⟨h1, h2, h3⟩ := msg_parts.1 hm
  have hi : ∀ x ∈ itemsK d, rightF x.1 x.2.1 = true := (items_ok _ 0 h1).1
  have h4 : (typeK d.1).length = 4 := known_len h2
  have hb := bytesB_le (bmM (itemsK d))
  have ht : (tailM (itemsK d)).length ≤ 150 := by
    obtain ⟨kind, pan, amt, stan, rrn, code, ⟨⟩⟩ := d
    unfold itemsK at hi ⊢
    (try simp only [] at hi ⊢)
    by_cases ca : asksK kind = true
    · rw [if_pos ca] at hi ⊢
      have a1 : ((fieldW (2, pan, ())).length : Int) ≤ 3 + 19 := fw_le (n := 2) (kind := 3) (size := 19) rfl (hi (2, pan, ()) (by simp))
      have a2 : ((fieldW (4, amtT amt, ())).length : Int) ≤ 3 + 12 := fw_le (n := 4) (kind := 1) (size := 12) rfl (hi (4, amtT amt, ()) (by simp))
      have a3 : ((fieldW (11, stanT stan, ())).length : Int) ≤ 3 + 6 := fw_le (n := 11) (kind := 1) (size := 6) rfl (hi (11, stanT stan, ()) (by simp))
      have a4 : ((fieldW (37, rrn, ())).length : Int) ≤ 3 + 12 := fw_le (n := 37) (kind := 2) (size := 12) rfl (hi (37, rrn, ()) (by simp))
      by_cases c5 : 5 ≤ kind
      · rw [if_pos c5] at hi ⊢
        have a5 : ((fieldW (90, originT stan, ())).length : Int) ≤ 3 + 42 := fw_le (n := 90) (kind := 1) (size := 42) rfl (hi (90, originT stan, ()) (by simp))
        simp only [List.cons_append, List.nil_append, tailM, List.length_append, List.length_nil]; omega
      · rw [if_neg c5]
        simp only [List.append_nil, tailM, List.length_append, List.length_nil]; omega
    · rw [if_neg ca] at hi ⊢
      have a3 : ((fieldW (11, stanT stan, ())).length : Int) ≤ 3 + 6 := fw_le (n := 11) (kind := 1) (size := 6) rfl (hi (11, stanT stan, ()) (by simp))
      have a4 : ((fieldW (37, rrn, ())).length : Int) ≤ 3 + 12 := fw_le (n := 37) (kind := 2) (size := 12) rfl (hi (37, rrn, ()) (by simp))
      have a5 : ((fieldW (39, code, ())).length : Int) ≤ 3 + 2 := fw_le (n := 39) (kind := 2) (size := 2) rfl (hi (39, code, ()) (by simp))
      simp only [tailM, List.length_append, List.length_nil]; omega
  rw [writeM_len]
  (try simp only [])
  omega
theorem right_len {m : G.Msg} (h : msgRight m = true) : ∀ x ∈ m.2.1, x.2.1.length ≤ 999 := by
  intro x hx
  obtain ⟨d, hd, hs, _⟩ := right_def ((items_ok m.2.1 0 (msg_parts.1 h).1).1 x hx)
  exact (sized_le (defOf_mem hd).1 hs).2
theorem readD_val {m : G.Msg} (h : (readD m).2 = 0) : (readD m).1 = deM m := by
  unfold readD at h ⊢
  split
  · rename_i h1
    rw [if_pos h1] at h
    split
    · rename_i h2
      rw [if_pos h2] at h
      split
      · rename_i h3; rw [if_pos h3] at h; exact absurd h (by decide)
      · rename_i h3
        rw [if_neg h3] at h
        split
        · rename_i h4; rw [if_pos h4] at h; exact absurd h (by decide)
        · rfl
    · rename_i h2; rw [if_neg h2] at h; exact absurd h (by decide)
  · rename_i h1; rw [if_neg h1] at h; exact absurd h (by decide)
theorem readDeal (m : G.Msg) (h : msgRight m = true) (hl : m.2.1.length ≤ 200) : G40 6000 (m, ()) = some ((readD m).1, (readD m).2, ()) := by
  obtain ⟨typ, l, ⟨⟩⟩ := m
  have hl' : l.length ≤ 200 := hl
  exact G40_is 6000 (by omega) typ l (by omega) fun x hx => by have := right_len h x hx; omega
theorem main (d : Deal) (at_ by_ : Int) (gd : goodD d) (ha : 0 ≤ at_ ∧ at_ ≤ 255) (hby : 0 ≤ by_ ∧ by_ ≤ 255) : G17 6000 (d, at_, by_, ()) = some (true, ()) := by
  have hsd := shortD 6000 d
  have hw := fun hl => G37_is 6000 300 (by omega) (by omega) d hl gd
  have hsm := sameD d d
  have hsm2 := fun x => sameD x d
  have hsz := deal_size gd
  have hrt := ok_right gd
  have hrw := read_write_deal gd
  have hil := itemsK_len d
  obtain ⟨dk, pan, amt, stan, rrn, code, ⟨⟩⟩ := d
  have hil : (itemsK (dk, pan, amt, stan, rrn, code, ())).length ≤ 5 := hil
  rw [G17_eq, awake 6000 (by omega), ocall_some]
  simp only [Bool.not_true, sel_false]
  rw [hsd, ocall_some]
  by_cases hl : lens 300 (dk, pan, amt, stan, rrn, code, ())
  case neg => rw [decide_eq_false hl]; rfl
  rw [decide_eq_true hl]
  simp only [Bool.not_true, sel_false]
  rw [hw hl]
  by_cases hok : dealOK (dk, pan, amt, stan, rrn, code, ()) = true
  case neg =>
    rw [if_neg hok, ocall_some]
    have h0 := G79_is 6000 (by omega) [] [] (by simp) (fun x hx => absurd hx (by simp))
    rw [if_neg (by decide)] at h0
    (try simp only [])
    rw [h0, ocall_some]
    rfl
  rw [if_pos hok, ocall_some]
  have hr := hrt hok
  have hxl := right_len hr
  have hW := G79_is 6000 (by omega) (typeK dk) (itemsK (dk, pan, amt, stan, rrn, code, ())) (by omega) (fun x hx => by have := hxl x hx; rw [maxLen_eq]; omega)
  rw [if_pos hr] at hW
  have hsz := hsz hok
  have hrw := hrw hok
  (try simp only [])
  rw [hW, ocall_some]
  have hb0 := writeM_ok (typeK dk, itemsK (dk, pan, amt, stan, rrn, code, ()), ())
  have hlen := writeM_len (typeK dk, itemsK (dk, pan, amt, stan, rrn, code, ()), ())
  have h4 : (typeK dk).length = 4 := known_len (msg_parts.1 hr).2.1
  have hR := read_write_msg hr
  have hlm : (itemsK (dk, pan, amt, stan, rrn, code, ())).length ≤ 200 := by omega
  generalize hM : ((typeK dk, itemsK (dk, pan, amt, stan, rrn, code, ()), ()) : G.Msg) = M at hr hsz hb0 hR hrw hlen
  have hsz' : (writeM M).length ≤ 200 := by rw [← hM]; rw [← hM] at hsz; exact hsz
  have hML : M.2.1.length ≤ 200 := by rw [← hM]; exact hlm
  have hpos : 4 ≤ (writeM M).length := by rw [hlen, ← hM]; (try simp only []); omega
  have hrw' : readD M = ((dk, pan, amt, stan, rrn, code, ()), 0) := hrw
  simp only [ofNat_len]
  rw [sel_not, sel_pos trivial, sel_neg (by omega), G80_is 6000 (by omega) _ hb0 (by omega), ocall_some, hR]
  have eM : (((M.1, M.2.1, ()) : G.Msg)) = M := rfl
  (try simp only [])
  rw [eM, readDeal M hr hML, ocall_some, hrw']
  (try simp only [])
  rw [sel_not, sel_pos trivial, sel_not, sel_pos trivial, sel_not, sel_pos trivial]
  have hsm' : (sameI dk dk && (sameS pan pan && (sameI amt amt && (sameI stan stan && (sameS rrn rrn && (sameS code code && true)))))) = true := by rw [hsm, decide_eq_true rfl]
  rw [hsm', Bool.not_true, sel_false, sel_neg (by omega), sel_pos (by omega), sel_not, sel_neg (by omega)]
  obtain ⟨a, rfl⟩ := Int.eq_ofNat_of_zero_le ha.1
  obtain ⟨y, rfl⟩ := Int.eq_ofNat_of_zero_le hby.1
  have hwr : IntKind.i64.wrap (a : Int) = a := wrap64 (by omega) (by omega)
  have hmod : (a : Int).tmod ((writeM M).length : Int) = ((a % (writeM M).length : Nat) : Int) := by rw [← Int.ofNat_tmod]
  have hlt : a % (writeM M).length < (writeM M).length := Nat.mod_lt _ (by omega)
  simp only [hwr, hmod, Int.toNat_natCast]
  rw [sel_pos (by omega), sel_pos (by omega), sel_pos hlt, sel_pos (by omega), sel_pos (by omega), sel_pos hlt, getD_of hlt]
  generalize a % (writeM M).length = i at hlt
  have hxi := hb0 (writeM M)[i] (List.getElem_mem _)
  obtain ⟨x, hx⟩ := Int.eq_ofNat_of_zero_le hxi.1
  have hx2 : x < 256 := by unfold byteOK at hxi; omega
  obtain ⟨hxor, hxlt⟩ := b_xor8 hx2 (y := y) (by omega)
  rw [hx, hxor]
  -- the bytes, one turned
  have hc : ((writeM M).set i ((x ^^^ y : Nat) : Int) = writeM M) ↔ (y : Int) = 0 := by
    constructor
    · intro h
      have := congrArg (fun l => l[i]?) h
      simp only [List.getElem?_set_self hlt, List.getElem?_eq_getElem hlt, Option.some.injEq, hx] at this
      have h2 : (x ^^^ y) = x := by omega
      have := xor_same.1 h2
      omega
    · intro h
      have h0 : y = 0 := by omega
      rw [h0, Nat.xor_zero, ← hx, List.set_getElem_self]
  have hcb : ∀ c ∈ (writeM M).set i ((x ^^^ y : Nat) : Int), byteOK c := by
    intro c hc
    rcases List.mem_or_eq_of_mem_set hc with h | h
    · exact hb0 c h
    · rw [h]; unfold byteOK; omega
  have hcl : ((writeM M).set i ((x ^^^ y : Nat) : Int)).length ≤ 1000000000 := by rw [List.length_set]; omega
  generalize (writeM M).set i ((x ^^^ y : Nat) : Int) = c at hc hcb hcl
  rw [G80_is 6000 (by omega) c hcb hcl, ocall_some]
  (try simp only [])
  by_cases he : (readM c).2 = 0
  case neg =>
    have hy : ¬ (y : Int) = 0 := fun h => he (by rw [hc.2 h, hR])
    rw [sel_not, sel_neg he, decide_eq_false hy]; rfl
  obtain ⟨w1, w2, w3⟩ := write_read_msg hcb he
  have eR : ((((readM c).1.1, (readM c).1.2.1, ()) : G.Msg)) = (readM c).1 := rfl
  rw [sel_not, sel_pos he, eR, readDeal _ w1 (by omega), ocall_some]
  by_cases hd : (readD (readM c).1).2 = 0
  · rw [sel_pos hd]
    have hv := readD_val hd
    obtain ⟨k1, k2⟩ := write_read_deal hd
    have hs2 := hsm2 (readD (readM c).1).1
    (try simp only [] at hs2)
    rw [hs2]
    have hiff : (readD (readM c).1).1 = (dk, pan, amt, stan, rrn, code, ()) ↔ (y : Int) = 0 := by
      constructor
      · intro h
        apply hc.1
        rw [hv] at h
        rw [h] at k1
        rw [← w2, ← k1, ← hM]
      · intro h
        rw [hc.2 h, hR, hrw']
    have hdd : decide ((readD (readM c).1).1 = (dk, pan, amt, stan, rrn, code, ())) = decide ((y : Int) = 0) := decide_eq_decide.2 hiff
    rw [hdd]
    simp
  · rw [sel_neg hd]
    have hy : ¬ (y : Int) = 0 := fun h => hd (by rw [hc.2 h, hR, hrw'])
    rw [decide_eq_false hy]; rfl
theorem pure (x0 : Ty.den (.st (.cons (.int .i64) (.cons .str (.cons (.int .u64) (.cons (.int .u32) (.cons .str (.cons .str .nil)))))))) (x1 : Ty.den (.int .u8)) (x2 : Ty.den (.int .u8)) (g0 : Ty.Good (.st (.cons (.int .i64) (.cons .str (.cons (.int .u64) (.cons (.int .u32) (.cons .str (.cons .str .nil))))))) x0) (g1 : Ty.Good (.int .u8) x1) (g2 : Ty.Good (.int .u8) x2) : ∃ k, F17 k (x0, (x1, (x2, PUnit.unit))) = some (true, PUnit.unit) :=
  ⟨6000, main x0 x1 x2 ⟨good_u64 g0.2.2.1, good_u32 g0.2.2.2.1⟩ (good_u8 g1) (good_u8 g2)⟩
end Go.Proofs.YtjgnpmdbkgeakaaDoor.PureDealBytes
end
section
set_option linter.unusedVariables false
set_option linter.unusedSimpArgs false
set_option maxRecDepth 100000
namespace Go.Proofs.YtjgnpmdbkgeakaaDoor.G
open Go Go.Proofs.YtjgnpmdbkgeakaaDoor Th Bits
theorem ref_next_loop (line : List Int) (hb : ∀ c ∈ line, byteOK c) (hl : line.length ≤ 100000000) (v4 : List Int) (v5 : Bool) (v6 v7 : List Int) (v8 : Int) (k : Nat) (hk : 3000 < k) : ∀ (j i : Nat), i + j = line.length → ∀ (r : List Int), (∀ c ∈ r, byteOK c) → firstF r = 0 → ∀ n, j < n →
    G85_6 k n (line, (i : Int), r, false, v4, v5, v6, v7, v8, ()) = some (if (nextA (r ++ line.drop i)).2.2.2 = 5 then .inl ((nextA (r ++ line.drop i)).1.1, (nextA (r ++ line.drop i)).1.2.1, v4, v5, v6, v7, v8, ())
      else .inr ((nextA (r ++ line.drop i)).1.1, (nextA (r ++ line.drop i)).1.2.1, (nextA (r ++ line.drop i)).2.1, (nextA (r ++ line.drop i)).2.2.1, (nextA (r ++ line.drop i)).2.2.2, ())) := by
  intro j
  induction j with
  | zero =>
    intro i hij r hr h0 n hn
    obtain ⟨n, rfl⟩ : ∃ m, n = m + 1 := ⟨n - 1, by omega⟩
    have e : nextA (r ++ line.drop i) = ((r, false, ()), [], [], 5) := by
      rw [List.drop_eq_nil_of_le (by omega), List.append_nil]; unfold nextA; rw [if_neg (by omega), if_neg (by omega)]
    rw [G85_6_eq, sel_neg (by simp only [ofNat_len]; omega), e]
    rfl
  | succ j ih =>
    intro i hij r hr h0 n hn
    obtain ⟨n, rfl⟩ : ∃ m, n = m + 1 := ⟨n - 1, by omega⟩
    have hlt : i < line.length := by omega
    have hc := hb line[i] (List.getElem_mem _)
    have hrl := first_le hr h0
    have hall : r ++ line.drop i = (r ++ [line[i]]) ++ line.drop (i + 1) := by rw [List.drop_eq_getElem_cons hlt]; simp
    have hs : List.drop ((i : Int)).toNat (List.take (IntKind.i64.wrap ((i : Int) + 1)).toNat line) = [line[i]] := by
      rcases slice1 hlt with h | h
      · exact h
      · omega
    have hw : IntKind.i64.wrap ((i : Int) + 1) = ((i + 1 : Nat) : Int) := by rw [wrap64 (by omega) (by omega)]; omega
    rw [G85_6_eq, sel_pos (by simp only [ofNat_len]; omega), sel_pos (by omega), sel_pos (by rw [hw]; omega), sel_pos (by rw [hw]; simp only [ofNat_len]; omega), sel_pos (Int.le_refl _), hs,
      G149_is k (r, false, ()) [line[i]] hr (bytes_one hc) (by simp) (by simp; omega) (by simp; omega), ocall_some, hall]
    rcases feed_one hr hc h0 with ⟨c1, c2⟩ | ⟨c1, c2⟩ | ⟨c1, c1', c2⟩
    · rw [c2]
      (try simp only [])
      rw [sel_not, sel_pos trivial, sel_neg (by decide), hw]
      exact ih (i + 1) (by omega) (r ++ [line[i]]) (bytes_app hr (bytes_one hc)) c1 n (by omega)
    · have e : nextA ((r ++ [line[i]]) ++ line.drop (i + 1)) = (([], true, ()), [], [], 12) := by unfold nextA; rw [c1, if_neg (by decide), if_pos (by decide)]
      rw [c2, e]
      (try simp only [])
      rw [sel_not, sel_neg (by decide)]
      rfl
    · have e : nextA ((r ++ [line[i]]) ++ line.drop (i + 1)) = (([], false, ()), line.drop (i + 1), (r ++ [line[i]]).drop 2, 0) := by
        unfold nextA; rw [c1, if_pos (by omega), Int.toNat_natCast, List.drop_left, List.take_left]
      rw [c2, e]
      (try simp only [])
      rw [sel_not, sel_pos trivial, sel_pos (by simp), hw, sel_pos (by omega), sel_pos (by simp only [ofNat_len]; omega), sel_pos (Int.le_refl _), sel_pos (Int.le_refl _), sel_pos (by simp), sel_pos (by simp), all_of_b, Int.toNat_natCast]
      rfl
theorem nextA_five {x : List Int} (h : (nextA x).2.2.2 = 5) : (nextA x).2.1 = [] ∧ (nextA x).2.2.1 = [] := by
  unfold nextA at h ⊢
  split
  · rename_i c; rw [if_pos c] at h; (try simp only [] at h); exact absurd h (by decide)
  · split <;> exact ⟨rfl, rfl⟩
theorem G85_is (k : Nat) (hk : 3000 < k) (r : Reader) (line : List Int) (hr : ∀ c ∈ r.1, byteOK c) (hrl : r.1.length ≤ 1000000000) (hb : ∀ c ∈ line, byteOK c) (hl : line.length ≤ 100000000) (hkl : line.length < k) :
    G85 k (r, line, ()) = some (((nextR r line).1, (nextR r line).2.1, (nextR r line).2.2.1, (nextR r line).2.2.2, ()), ()) := by
  have hR := G148_is k r hr (by omega)
  obtain ⟨rest, br, ⟨⟩⟩ := r
  have hr : ∀ c ∈ rest, byteOK c := hr
  rw [G85_eq, hR, ocall_some]
  unfold nextR
  cases hrr : rightR (rest, br, ()) with
  | false => rw [if_neg (by simp)]; rfl
  | true =>
  rw [if_pos rfl]
  simp only [Bool.not_true, sel_false]
  cases br with
  | true => rw [sel_true, if_pos rfl]
  | false =>
  have h0 : firstF rest = 0 := by
    unfold rightR at hrr
    rw [if_neg (by simp)] at hrr
    exact of_decide_eq_true hrr
  rw [sel_false, if_neg (by simp)]
  have hgo := ref_next_loop line hb hl [] false [] [] 0 k hk line.length 0 (by omega) rest hr h0 k (by omega)
  rw [List.drop_zero, Int.natCast_zero] at hgo
  rw [hgo, ocall_some]
  by_cases h5 : (nextA (rest ++ line)).2.2.2 = 5
  · obtain ⟨e1, e2⟩ := nextA_five h5
    rw [if_pos h5, esel_inl, h5, e1, e2]
  · rw [if_neg h5, esel_inr]
def sendM (d : Deal) : Msg := (typeK d.1, itemsK d, ())
def sendB (d : Deal) : List Int := writeM (sendM d)
theorem sendDeal (k : Nat) (hk : 2000 < k) (d : Deal) (gd : goodD d) (hl : lens 300 d) : G37 k (d, ()) = some (if dealOK d = true then (sendM d, 0, ()) else (([], [], ()), 1, ())) := G37_is k 300 (by omega) (by omega) d hl gd
theorem send_right {d : Deal} (gd : goodD d) (h : dealOK d = true) : msgRight (sendM d) = true := ok_right gd h
theorem send_bytes (d : Deal) : ∀ c ∈ sendB d, byteOK c := writeM_ok _
theorem send_size {d : Deal} (gd : goodD d) (h : dealOK d = true) : (sendB d).length ≤ 200 := PureDealBytes.deal_size gd h
theorem sendMsg (k : Nat) (hk : 2000 < k) {d : Deal} (gd : goodD d) (h : dealOK d = true) : G79 k (sendM d, ()) = some (sendB d, 0, ()) := by
  have hxl := right_len (send_right gd h)
  have hil := itemsK_len d
  have hW := G79_is k (by omega) (typeK d.1) (itemsK d) (by omega) (fun x hx => by have := hxl x hx; rw [maxLen_eq]; omega)
  rw [if_pos (show msgRight (typeK d.1, itemsK d, ()) = true from send_right gd h)] at hW
  exact hW
theorem event_send {d : Deal} (gd : goodD d) (h : dealOK d = true) (side : Int) : eventF side (sendB d) = if evK side d.1 ≠ 0 then ((evK side d.1, d, ()), true) else (zeroEv, false) := by
  have h1 : readM (sendB d) = (sendM d, 0) := read_write_msg (send_right gd h)
  have h2 : readD (sendM d) = (d, 0) := read_write_deal gd h
  unfold eventF
  rw [h1]
  (try simp only [])
  rw [h2]
  by_cases c : evK side d.1 ≠ 0
  · rw [if_pos c, if_pos ⟨trivial, rfl, c⟩]
  · rw [if_neg c, if_neg fun h => c h.2.2]
theorem nextR_bytes {r : Reader} {line : List Int} (hr : ∀ c ∈ r.1, byteOK c) (hb : ∀ c ∈ line, byteOK c) : ∀ c ∈ (nextR r line).1.1, byteOK c := by
  unfold nextR nextA
  repeat' split
  all_goals first | exact hr | exact bytes_app hr hb | exact (fun c hc => absurd hc (by simp))
def dA7 : Deal := (7, [], 0, 1, [82, 82, 78, 48, 48, 48, 48, 48, 48, 48, 48, 49], [48, 48], ())
theorem dA7_good : goodD dA7 := ⟨by decide, by decide⟩
theorem dA7_ok : dealOK dA7 = true := by decide
theorem dA7_lens : lens 300 dA7 := by unfold lens; decide
theorem nextA1 : nextR ([], false, ()) [0, 2, 97, 98, 0, 1, 99] = (([], false, ()), [0, 1, 99], [97, 98], 0) := by kernel_rfl
theorem nextA2 : nextR ([], false, ()) [0, 0] = (([], true, ()), [], [], 12) := by kernel_rfl
theorem G81_is (k : Nat) (hk : 4000 < k) : G81 k () = some (true, ()) := by
  have hD := sendDeal k (by omega) dA7 dA7_good dA7_lens
  rw [if_pos dA7_ok] at hD
  have hM := sendMsg k (by omega) dA7_good dA7_ok
  have hE := fun side => G82_is k (by omega) side (sendB dA7) (send_bytes _) (by have := send_size dA7_good dA7_ok; omega)
  have v2 : eventF 2 (sendB dA7) = ((5, dA7, ()), true) := by rw [event_send dA7_good dA7_ok]; rfl
  have v1 : eventF 1 (sendB dA7) = (zeroEv, false) := by rw [event_send dA7_good dA7_ok]; rfl
  have h2 := hE 2
  have h1 := hE 1
  rw [v2] at h2
  rw [v1] at h1
  have hN1 := G84_is k (by omega) ([], false, ()) [0, 2, 97, 98, 0, 1, 99] (by simp) (by simp) (by simp [byteOK]) (by simp) (by simp; omega)
  rw [nextA1] at hN1
  have hN2 := G84_is k (by omega) ([], false, ()) [0, 0] (by simp) (by simp) (by simp [byteOK]) (by simp) (by simp; omega)
  rw [nextA2] at hN2
  rw [G81_eq]
  have hD' : G37 k ((7, [], 0, 1, [82, 82, 78, 48, 48, 48, 48, 48, 48, 48, 48, 49], [48, 48], ()), ()) = some (sendM dA7, 0, ()) := hD
  rw [hD', ocall_some]
  have hM' : G79 k (((sendM dA7).1, (sendM dA7).2.1, ()), ()) = some (sendB dA7, 0, ()) := hM
  (try simp only [])
  rw [hM', ocall_some]
  (try simp only [])
  rw [h2, ocall_some, h1, ocall_some, hN1, ocall_some]
  (try simp only [])
  rw [hN2, ocall_some]
  (try simp only [])
  rfl
end Go.Proofs.YtjgnpmdbkgeakaaDoor.G
end
section
set_option linter.unusedVariables false
set_option linter.unusedSimpArgs false
namespace Go.Proofs.YtjgnpmdbkgeakaaDoor.PureLineRight
open Go Go.Proofs.YtjgnpmdbkgeakaaDoor Th Bits G
theorem same_event (e : G.Event) : (sameI e.1 e.1 && (sameI e.2.1.1 e.2.1.1 && (sameS e.2.1.2.1 e.2.1.2.1 && (sameI e.2.1.2.2.1 e.2.1.2.2.1 && (sameI e.2.1.2.2.2.1 e.2.1.2.2.2.1 && (sameS e.2.1.2.2.2.2.1 e.2.1.2.2.2.2.1 && (sameS e.2.1.2.2.2.2.2.1 e.2.1.2.2.2.2.2.1 && true))))) && true)) = true := by
  simp [sameI, sameS]
theorem main (side : Int) (b : List Int) (r : Reader) (hb : ∀ c ∈ b, byteOK c) (hr : ∀ c ∈ r.1, byteOK c) : G18 20000 (side, b, r, ()) = some (true, ()) := by
  have hn := G84_is 20000 (by omega) r b hr
  have hm := G85_is 20000 (by omega) r b hr
  have hbb := nextR_bytes hr hb
  have hs := G86_is 20000 (nextR r b).1 (nextR r b).1 hbb hbb
  rw [decide_eq_true rfl] at hs
  rw [show (r : Reader) = (r.1, r.2.1, ()) from rfl, G18_eq, G81_is 20000 (by omega), ocall_some, show ((r.1, r.2.1, ()) : Reader) = r from rfl]
  simp only [Bool.not_true, sel_false, ofNat_len]
  by_cases c : (5000 : Int) < b.length
  · rw [sel_pos c]
  rw [sel_neg c]
  by_cases c2 : (5000 : Int) < r.1.length
  · rw [sel_pos c2]
  rw [sel_neg c2, G82_is 20000 (by omega) side b hb (by omega), ocall_some, G83_is 20000 (by omega) side b hb (by omega), ocall_some,
    hn (by omega) hb (by omega) (by omega), ocall_some, hm (by omega) hb (by omega) (by omega), ocall_some]
  (try simp only [])
  rw [same_event, sel_true, beq_self_eq_true, sel_true]
  have hs' : G86 20000 (((nextR r b).1.1, (nextR r b).1.2.1, ()), ((nextR r b).1.1, (nextR r b).1.2.1, ()), ()) = some (true, ()) := hs
  rw [hs', ocall_some]
  simp
theorem pure (x0 : Ty.den (.int .i64)) (x1 : Ty.den (.slice (.int .u8))) (x2 : Ty.den (.st (.cons (.slice (.int .u8)) (.cons .bool .nil)))) (g0 : Ty.Good (.int .i64) x0) (g1 : Ty.Good (.slice (.int .u8)) x1) (g2 : Ty.Good (.st (.cons (.slice (.int .u8)) (.cons .bool .nil))) x2) : ∃ k, F18 k (x0, (x1, (x2, PUnit.unit))) = some (true, PUnit.unit) :=
  ⟨20000, main x0 x1 x2 (fun c hc => good_u8 (g1.2.2 c hc)) (fun c hc => good_u8 (g2.1.2.2 c hc))⟩
end Go.Proofs.YtjgnpmdbkgeakaaDoor.PureLineRight
end
section
set_option linter.unusedVariables false
set_option linter.unusedSimpArgs false
namespace Go.Proofs.YtjgnpmdbkgeakaaDoor
open Go Go.ChangeShapes Go.WideShapes Go.ChangeAt Go.RowKit Th
theorem own : ownKnob Tryd.prog.godebug = none := by kernel_rfl
theorem laidOut : laidOutB Tryd.prog = true := by kernel_rfl
theorem gTypes : Tryd.prog.globalNamed "paydesk/deal.types" = some 0 := by kernel_rfl
theorem tTypes : (Tryd.prog.globals[0]?).map (·.type) = some 229 := by kernel_rfl
theorem mapsRowed' : mapsRowed Tryd.prog = true := by kernel_rfl
theorem stopsHeard' : Tryd.prog.stopsHeard = true := by kernel_rfl
theorem stops' : Tryd.prog.stops = [] := by kernel_rfl
theorem stopKnobs' : Tryd.prog.stopKnobs = [] := by kernel_rfl
theorem plainKeys' : Tryd.prog.plainKeys = Rows.keyRightRow.plainKeys := by kernel_rfl
def ioL : List Char := [Char.ofNat 104, Char.ofNat 97, Char.ofNat 114, Char.ofNat 110, Char.ofNat 101, Char.ofNat 115, Char.ofNat 115, Char.ofNat 32, Char.ofNat 52, Char.ofNat 98, Char.ofNat 55, Char.ofNat 54, Char.ofNat 48, Char.ofNat 97, Char.ofNat 99, Char.ofNat 102, Char.ofNat 49, Char.ofNat 97, Char.ofNat 100, Char.ofNat 99, Char.ofNat 54, Char.ofNat 100, Char.ofNat 51, Char.ofNat 54, Char.ofNat 49, Char.ofNat 50, Char.ofNat 51, Char.ofNat 50, Char.ofNat 57, Char.ofNat 97, Char.ofNat 98, Char.ofNat 51, Char.ofNat 99, Char.ofNat 50, Char.ofNat 48, Char.ofNat 101, Char.ofNat 99, Char.ofNat 48, Char.ofNat 49, Char.ofNat 52, Char.ofNat 53, Char.ofNat 53, Char.ofNat 56, Char.ofNat 101, Char.ofNat 50, Char.ofNat 54, Char.ofNat 55, Char.ofNat 99, Char.ofNat 52, Char.ofNat 57, Char.ofNat 52, Char.ofNat 101, Char.ofNat 54, Char.ofNat 53, Char.ofNat 52, Char.ofNat 48, Char.ofNat 49, Char.ofNat 57, Char.ofNat 99, Char.ofNat 97, Char.ofNat 98, Char.ofNat 49, Char.ofNat 57, Char.ofNat 50, Char.ofNat 49, Char.ofNat 49, Char.ofNat 98, Char.ofNat 102, Char.ofNat 49, Char.ofNat 57, Char.ofNat 54, Char.ofNat 49, Char.ofNat 32, Char.ofNat 99, Char.ofNat 117, Char.ofNat 116, Char.ofNat 32, Char.ofNat 97, Char.ofNat 116, Char.ofNat 32, Char.ofNat 112, Char.ofNat 97, Char.ofNat 121, Char.ofNat 100, Char.ofNat 101, Char.ofNat 115, Char.ofNat 107, Char.ofNat 47, Char.ofNat 112, Char.ofNat 97, Char.ofNat 121, Char.ofNat 100, Char.ofNat 101, Char.ofNat 115, Char.ofNat 107, Char.ofNat 108, Char.ofNat 97, Char.ofNat 119, Char.ofNat 48, Char.ofNat 55, Char.ofNat 46, Char.ofNat 75, Char.ofNat 101, Char.ofNat 121, Char.ofNat 82, Char.ofNat 105, Char.ofNat 103, Char.ofNat 104, Char.ofNat 116, Char.ofNat 32, Char.ofNat 112, Char.ofNat 97, Char.ofNat 121, Char.ofNat 100, Char.ofNat 101, Char.ofNat 115, Char.ofNat 107, Char.ofNat 47, Char.ofNat 112, Char.ofNat 97, Char.ofNat 121, Char.ofNat 100, Char.ofNat 101, Char.ofNat 115, Char.ofNat 107, Char.ofNat 108, Char.ofNat 97, Char.ofNat 119, Char.ofNat 48, Char.ofNat 55, Char.ofNat 46, Char.ofNat 75, Char.ofNat 101, Char.ofNat 121, Char.ofNat 79, Char.ofNat 114, Char.ofNat 100, Char.ofNat 101, Char.ofNat 114, Char.ofNat 32, Char.ofNat 112, Char.ofNat 97, Char.ofNat 121, Char.ofNat 100, Char.ofNat 101, Char.ofNat 115, Char.ofNat 107, Char.ofNat 47, Char.ofNat 112, Char.ofNat 97, Char.ofNat 121, Char.ofNat 100, Char.ofNat 101, Char.ofNat 115, Char.ofNat 107, Char.ofNat 108, Char.ofNat 97, Char.ofNat 119, Char.ofNat 48, Char.ofNat 55, Char.ofNat 46, Char.ofNat 75, Char.ofNat 101, Char.ofNat 121, Char.ofNat 83, Char.ofNat 104, Char.ofNat 97, Char.ofNat 114, Char.ofNat 100, Char.ofNat 115, Char.ofNat 32, Char.ofNat 112, Char.ofNat 97, Char.ofNat 121, Char.ofNat 100, Char.ofNat 101, Char.ofNat 115, Char.ofNat 107, Char.ofNat 47, Char.ofNat 112, Char.ofNat 97, Char.ofNat 121, Char.ofNat 100, Char.ofNat 101, Char.ofNat 115, Char.ofNat 107, Char.ofNat 108, Char.ofNat 97, Char.ofNat 119, Char.ofNat 48, Char.ofNat 54, Char.ofNat 46, Char.ofNat 68, Char.ofNat 101, Char.ofNat 97, Char.ofNat 108, Char.ofNat 82, Char.ofNat 105, Char.ofNat 103, Char.ofNat 104, Char.ofNat 116, Char.ofNat 32, Char.ofNat 112, Char.ofNat 97, Char.ofNat 121, Char.ofNat 100, Char.ofNat 101, Char.ofNat 115, Char.ofNat 107, Char.ofNat 47, Char.ofNat 112, Char.ofNat 97, Char.ofNat 121, Char.ofNat 100, Char.ofNat 101, Char.ofNat 115, Char.ofNat 107, Char.ofNat 108, Char.ofNat 97, Char.ofNat 119, Char.ofNat 48, Char.ofNat 54, Char.ofNat 46, Char.ofNat 68, Char.ofNat 101, Char.ofNat 97, Char.ofNat 108, Char.ofNat 66, Char.ofNat 97, Char.ofNat 99, Char.ofNat 107, Char.ofNat 32, Char.ofNat 112, Char.ofNat 97, Char.ofNat 121, Char.ofNat 100, Char.ofNat 101, Char.ofNat 115, Char.ofNat 107, Char.ofNat 47, Char.ofNat 112, Char.ofNat 97, Char.ofNat 121, Char.ofNat 100, Char.ofNat 101, Char.ofNat 115, Char.ofNat 107, Char.ofNat 108, Char.ofNat 97, Char.ofNat 119, Char.ofNat 49, Char.ofNat 50, Char.ofNat 46, Char.ofNat 67, Char.ofNat 111, Char.ofNat 114, Char.ofNat 101, Char.ofNat 82, Char.ofNat 105, Char.ofNat 103, Char.ofNat 104, Char.ofNat 116, Char.ofNat 32, Char.ofNat 112, Char.ofNat 97, Char.ofNat 121, Char.ofNat 100, Char.ofNat 101, Char.ofNat 115, Char.ofNat 107, Char.ofNat 47, Char.ofNat 112, Char.ofNat 97, Char.ofNat 121, Char.ofNat 100, Char.ofNat 101, Char.ofNat 115, Char.ofNat 107, Char.ofNat 108, Char.ofNat 97, Char.ofNat 119, Char.ofNat 49, Char.ofNat 50, Char.ofNat 46, Char.ofNat 67, Char.ofNat 111, Char.ofNat 114, Char.ofNat 101, Char.ofNat 83, Char.ofNat 116, Char.ofNat 101, Char.ofNat 112, Char.ofNat 115, Char.ofNat 32, Char.ofNat 112, Char.ofNat 97, Char.ofNat 121, Char.ofNat 100, Char.ofNat 101, Char.ofNat 115, Char.ofNat 107, Char.ofNat 47, Char.ofNat 112, Char.ofNat 97, Char.ofNat 121, Char.ofNat 100, Char.ofNat 101, Char.ofNat 115, Char.ofNat 107, Char.ofNat 108, Char.ofNat 97, Char.ofNat 119, Char.ofNat 49, Char.ofNat 50, Char.ofNat 46, Char.ofNat 67, Char.ofNat 111, Char.ofNat 114, Char.ofNat 101, Char.ofNat 79, Char.ofNat 110, Char.ofNat 99, Char.ofNat 101, Char.ofNat 32, Char.ofNat 112, Char.ofNat 97, Char.ofNat 121, Char.ofNat 100, Char.ofNat 101, Char.ofNat 115, Char.ofNat 107, Char.ofNat 47, Char.ofNat 112, Char.ofNat 97, Char.ofNat 121, Char.ofNat 100, Char.ofNat 101, Char.ofNat 115, Char.ofNat 107, Char.ofNat 108, Char.ofNat 97, Char.ofNat 119, Char.ofNat 49, Char.ofNat 50, Char.ofNat 46, Char.ofNat 67, Char.ofNat 111, Char.ofNat 114, Char.ofNat 101, Char.ofNat 82, Char.ofNat 101, Char.ofNat 115, Char.ofNat 116, Char.ofNat 115, Char.ofNat 32, Char.ofNat 112, Char.ofNat 97, Char.ofNat 121, Char.ofNat 100, Char.ofNat 101, Char.ofNat 115, Char.ofNat 107, Char.ofNat 47, Char.ofNat 112, Char.ofNat 97, Char.ofNat 121, Char.ofNat 100, Char.ofNat 101, Char.ofNat 115, Char.ofNat 107, Char.ofNat 108, Char.ofNat 97, Char.ofNat 119, Char.ofNat 49, Char.ofNat 48, Char.ofNat 46, Char.ofNat 83, Char.ofNat 104, Char.ofNat 97, Char.ofNat 114, Char.ofNat 100, Char.ofNat 82, Char.ofNat 105, Char.ofNat 103, Char.ofNat 104, Char.ofNat 116, Char.ofNat 32, Char.ofNat 112, Char.ofNat 97, Char.ofNat 121, Char.ofNat 100, Char.ofNat 101, Char.ofNat 115, Char.ofNat 107, Char.ofNat 47, Char.ofNat 112, Char.ofNat 97, Char.ofNat 121, Char.ofNat 100, Char.ofNat 101, Char.ofNat 115, Char.ofNat 107, Char.ofNat 108, Char.ofNat 97, Char.ofNat 119, Char.ofNat 49, Char.ofNat 48, Char.ofNat 46, Char.ofNat 83, Char.ofNat 104, Char.ofNat 97, Char.ofNat 114, Char.ofNat 100, Char.ofNat 83, Char.ofNat 119, Char.ofNat 97, Char.ofNat 112, Char.ofNat 115, Char.ofNat 32, Char.ofNat 112, Char.ofNat 97, Char.ofNat 121, Char.ofNat 100, Char.ofNat 101, Char.ofNat 115, Char.ofNat 107, Char.ofNat 47, Char.ofNat 112, Char.ofNat 97, Char.ofNat 121, Char.ofNat 100, Char.ofNat 101, Char.ofNat 115, Char.ofNat 107, Char.ofNat 108, Char.ofNat 97, Char.ofNat 119, Char.ofNat 49, Char.ofNat 53, Char.ofNat 46, Char.ofNat 76, Char.ofNat 101, Char.ofNat 100, Char.ofNat 103, Char.ofNat 101, Char.ofNat 114, Char.ofNat 82, Char.ofNat 105, Char.ofNat 103, Char.ofNat 104, Char.ofNat 116, Char.ofNat 32, Char.ofNat 112, Char.ofNat 97, Char.ofNat 121, Char.ofNat 100, Char.ofNat 101, Char.ofNat 115, Char.ofNat 107, Char.ofNat 47, Char.ofNat 112, Char.ofNat 97, Char.ofNat 121, Char.ofNat 100, Char.ofNat 101, Char.ofNat 115, Char.ofNat 107, Char.ofNat 108, Char.ofNat 97, Char.ofNat 119, Char.ofNat 49, Char.ofNat 53, Char.ofNat 46, Char.ofNat 76, Char.ofNat 101, Char.ofNat 100, Char.ofNat 103, Char.ofNat 101, Char.ofNat 114, Char.ofNat 79, Char.ofNat 110, Char.ofNat 99, Char.ofNat 101, Char.ofNat 32, Char.ofNat 112, Char.ofNat 97, Char.ofNat 121, Char.ofNat 100, Char.ofNat 101, Char.ofNat 115, Char.ofNat 107, Char.ofNat 47, Char.ofNat 112, Char.ofNat 97, Char.ofNat 121, Char.ofNat 100, Char.ofNat 101, Char.ofNat 115, Char.ofNat 107, Char.ofNat 108, Char.ofNat 97, Char.ofNat 119, Char.ofNat 49, Char.ofNat 53, Char.ofNat 46, Char.ofNat 76, Char.ofNat 101, Char.ofNat 100, Char.ofNat 103, Char.ofNat 101, Char.ofNat 114, Char.ofNat 84, Char.ofNat 119, Char.ofNat 105, Char.ofNat 99, Char.ofNat 101, Char.ofNat 32, Char.ofNat 112, Char.ofNat 97, Char.ofNat 121, Char.ofNat 100, Char.ofNat 101, Char.ofNat 115, Char.ofNat 107, Char.ofNat 47, Char.ofNat 112, Char.ofNat 97, Char.ofNat 121, Char.ofNat 100, Char.ofNat 101, Char.ofNat 115, Char.ofNat 107, Char.ofNat 108, Char.ofNat 97, Char.ofNat 119, Char.ofNat 48, Char.ofNat 54, Char.ofNat 46, Char.ofNat 68, Char.ofNat 101, Char.ofNat 97, Char.ofNat 108, Char.ofNat 66, Char.ofNat 121, Char.ofNat 116, Char.ofNat 101, Char.ofNat 115, Char.ofNat 32, Char.ofNat 112, Char.ofNat 97, Char.ofNat 121, Char.ofNat 100, Char.ofNat 101, Char.ofNat 115, Char.ofNat 107, Char.ofNat 47, Char.ofNat 112, Char.ofNat 97, Char.ofNat 121, Char.ofNat 100, Char.ofNat 101, Char.ofNat 115, Char.ofNat 107, Char.ofNat 108, Char.ofNat 97, Char.ofNat 119, Char.ofNat 49, Char.ofNat 52, Char.ofNat 46, Char.ofNat 76, Char.ofNat 105, Char.ofNat 110, Char.ofNat 101, Char.ofNat 82, Char.ofNat 105, Char.ofNat 103, Char.ofNat 104, Char.ofNat 116, Char.ofNat 32, Char.ofNat 112, Char.ofNat 97, Char.ofNat 121, Char.ofNat 100, Char.ofNat 101, Char.ofNat 115, Char.ofNat 107, Char.ofNat 47, Char.ofNat 112, Char.ofNat 97, Char.ofNat 121, Char.ofNat 100, Char.ofNat 101, Char.ofNat 115, Char.ofNat 107, Char.ofNat 108, Char.ofNat 97, Char.ofNat 119, Char.ofNat 49, Char.ofNat 52, Char.ofNat 46, Char.ofNat 76, Char.ofNat 105, Char.ofNat 110, Char.ofNat 101, Char.ofNat 80, Char.ofNat 97, Char.ofNat 114, Char.ofNat 116, Char.ofNat 115, Char.ofNat 32, Char.ofNat 112, Char.ofNat 97, Char.ofNat 121, Char.ofNat 100, Char.ofNat 101, Char.ofNat 115, Char.ofNat 107, Char.ofNat 47, Char.ofNat 112, Char.ofNat 97, Char.ofNat 121, Char.ofNat 100, Char.ofNat 101, Char.ofNat 115, Char.ofNat 107, Char.ofNat 108, Char.ofNat 97, Char.ofNat 119, Char.ofNat 49, Char.ofNat 52, Char.ofNat 46, Char.ofNat 76, Char.ofNat 105, Char.ofNat 110, Char.ofNat 101, Char.ofNat 69, Char.ofNat 118, Char.ofNat 101, Char.ofNat 110, Char.ofNat 116, Char.ofNat 115, Char.ofNat 32, Char.ofNat 112, Char.ofNat 97, Char.ofNat 121, Char.ofNat 100, Char.ofNat 101, Char.ofNat 115, Char.ofNat 107, Char.ofNat 47, Char.ofNat 112, Char.ofNat 97, Char.ofNat 121, Char.ofNat 100, Char.ofNat 101, Char.ofNat 115, Char.ofNat 107, Char.ofNat 108, Char.ofNat 97, Char.ofNat 119, Char.ofNat 49, Char.ofNat 55, Char.ofNat 46, Char.ofNat 80, Char.ofNat 111, Char.ofNat 115, Char.ofNat 116, Char.ofNat 66, Char.ofNat 97, Char.ofNat 99, Char.ofNat 107, Char.ofNat 32, Char.ofNat 112, Char.ofNat 97, Char.ofNat 121, Char.ofNat 100, Char.ofNat 101, Char.ofNat 115, Char.ofNat 107, Char.ofNat 47, Char.ofNat 112, Char.ofNat 97, Char.ofNat 121, Char.ofNat 100, Char.ofNat 101, Char.ofNat 115, Char.ofNat 107, Char.ofNat 108, Char.ofNat 97, Char.ofNat 119, Char.ofNat 50, Char.ofNat 49, Char.ofNat 46, Char.ofNat 84, Char.ofNat 114, Char.ofNat 97, Char.ofNat 99, Char.ofNat 101, Char.ofNat 79, Char.ofNat 116, Char.ofNat 104, Char.ofNat 101, Char.ofNat 114, Char.ofNat 115]
theorem io0 : Tryd.prog.initOrder = String.ofList ioL := by kernel_rfl
theorem io : Tryd.prog.initOrder.toList = ioL := by rw [io0, String.toList_ofList]
def ioW : List (List Char) := wordsSigns ioL
theorem ws : wordsSigns Tryd.prog.initOrder.toList = ioW := by rw [io]; rfl
def mainOf (l : List (List Char)) : Option (Bool × List Char) := match l with
  | h :: s :: _ => if !isSumSigns s then none else if h == "harness".toList then some (true, s) else if h == "ownmain".toList then some (false, s) else none
  | _ => none
theorem mainIs_of {P : Program} {W : List (List Char)} (h : wordsSigns P.initOrder.toList = W) : P.mainIs = mainOf W := by
  unfold Program.mainIs; rw [h]; rfl
theorem sha : (ioL.drop 8).take 64 = "4b760acf1adc6d3612329ab3c20ec014558e267c494e654019cab19211bf1961".toList := by
  have : "4b760acf1adc6d3612329ab3c20ec014558e267c494e654019cab19211bf1961" = String.ofList ((ioL.drop 8).take 64) := by kernel_rfl
  rw [this, String.toList_ofList]
theorem main0 : mainOf ioW = some (true, (ioL.drop 8).take 64) := by kernel_rfl
theorem mainIs' : Tryd.prog.mainIs = some (true, "4b760acf1adc6d3612329ab3c20ec014558e267c494e654019cab19211bf1961".toList) := by
  rw [← sha, ← main0]; exact mainIs_of ws
def mayOf (l : List (List Char)) (laysLater bearsReflect : Bool) (fits : List String → Bool) : Bool := match behindMainWord l with
  | c :: rest =>
    ((c == "gc".toList || c == "spec".toList) && (rest.isEmpty || rest.head? == some "stop".toList)) ||
    (c == "carried".toList && rest.take 2 == ["gc".toList, "cut".toList] && !laysLater && !bearsReflect) ||
    ((stripLifts liftWords (c :: rest)).2.head? == some "cut".toList &&
      ((stripLifts liftWords (c :: rest)).1.contains "finals" || !laysLater) && ((stripLifts liftWords (c :: rest)).1.contains "reflectrows" || !bearsReflect) &&
      ((stripLifts liftWords (c :: rest)).1.contains "reflectrows" || !(stripLifts liftWords (c :: rest)).1.contains "leanrows") &&
      fits (stripLifts liftWords (c :: rest)).1)
  | [] => false
theorem may_of {P : Program} {W : List (List Char)} (h : wordsSigns P.initOrder.toList = W) : P.mayEnter = mayOf W P.laysLater P.bearsReflect P.doorFits := by
  unfold Program.mayEnter; rw [h]; rfl
theorem lays : Tryd.prog.laysLater = false := by kernel_rfl
theorem bears : Tryd.prog.bearsReflect = false := by kernel_rfl
theorem strip0 : mayOf ioW false false (fun l => decide (l = [])) = true := by kernel_rfl
theorem fits0 : Tryd.prog.doorFits [] = true := by kernel_rfl
theorem may_mono {W : List (List Char)} {a b : Bool} {f g : List String → Bool} (hfg : ∀ l, f l = true → g l = true) (h : mayOf W a b f = true) : mayOf W a b g = true := by
  unfold mayOf at h ⊢
  split at h
  · simp only [Bool.or_eq_true, Bool.and_eq_true] at h ⊢
    rcases h with (h | h) | h
    · exact .inl (.inl h)
    · exact .inl (.inr h)
    · exact .inr ⟨h.1, hfg _ h.2⟩
  · exact h
theorem mayEnter' : Tryd.prog.mayEnter = true := by
  rw [may_of ws, lays, bears]
  exact may_mono (fun l h => by rw [decide_eq_true_eq] at h; rw [h]; exact fits0) strip0
def liftsOf (l : List (List Char)) : List String :=
  let r := stripLifts liftWords (behindMainWord l)
  if r.2.head? == some "cut".toList then r.1 else []
theorem headLifts_of {P : Program} {W : List (List Char)} (h : wordsSigns P.initOrder.toList = W) : P.headLifts = liftsOf W := by
  unfold Program.headLifts; rw [h]; rfl
theorem headLifts' : Tryd.prog.headLifts = [] := (headLifts_of ws).trans (by kernel_rfl)
def finalOf (l : List (List Char)) (hl : List String) : Bool :=
  let ws := behindMainWord l
  (ws.head? == some "carried".toList && ws.take 3 != ["carried".toList, "gc".toList, "cut".toList]) || hl.contains "finals"
theorem liftsFinal_of {P : Program} {W : List (List Char)} (h : wordsSigns P.initOrder.toList = W) : P.liftsFinal = finalOf W P.headLifts := by
  unfold Program.liftsFinal; rw [h]; rfl
theorem liftsFinal' : Tryd.prog.liftsFinal = Rows.keyRightRow.lifted := by rw [liftsFinal_of ws, headLifts']; kernel_rfl
def makeOf (l : List (List Char)) (hl : List String) : Option Make :=
  match behindMainWord l with
  | c :: rest => if c == "gc".toList || c == "spec".toList then some .whole else if c == "cut".toList || (c == "finals".toList && rest.head? == some "cut".toList) then some .cut else if c == "carried".toList then some .carried else if hl.isEmpty then none else some (.lifted hl)
  | [] => none
theorem make_of {P : Program} {W : List (List Char)} (h : wordsSigns P.initOrder.toList = W) : P.make = makeOf W P.headLifts := by
  unfold Program.make; rw [h]; rfl
theorem make' : Tryd.prog.make = some Rows.keyRightRow.make := by rw [make_of ws, headLifts']; kernel_rfl
abbrev laidL : List (String × DataW Unit) := [("paydesk/deal.types", Rows.laid_paydesk_deal_types)]
theorem door_met (os : Os) (args : Array Value) : laidMetH Tryd.prog laidL ((World.doorLaid Tryd.prog 400 os).forCall (fun _ _ => 0) ⟨#[], args, []⟩).memory :=
  laidMetH_of_parts3 (fuel := 8) (laidMet_of_run' 8 (by kernel_rfl) (by kernel_rfl)) (by kernel_rfl) (by kernel_rfl)
theorem glob_of_laid {W : World} (h : laidMetH Tryd.prog laidL W) : GlobOK W (Old W) := by
  rw [MakeChecks.laidMetH_plain _ _ _ (by kernel_rfl)] at h
  obtain ⟨ps, ⟨g0, t0, cs0, f0, p0, q0, hg0, ht0, hv0, hd0, _, _⟩, _, _⟩ := h
  obtain rfl := Option.some.inj (gTypes.symm.trans hg0)
  obtain rfl := Option.some.inj (tTypes.symm.trans ht0)
  obtain ⟨xs, m1, rfl, hx1, hlen, hn8, hel⟩ := DataW.trod_array Tryd.underlying229 hd0
  have c9 : Tryd.prog.cellsOf 9 = 1 := by kernel_rfl
  have cA : Tryd.prog.cellsOf 229 = 8 := by kernel_rfl
  simp only [Prod.mk.injEq] at hx1
  have hx1 : (DataW.agg [.lit (.string []), .lit (.string [48, 49, 48, 48]), .lit (.string [48, 49, 49, 48]), .lit (.string [48, 52, 48, 48]), .lit (.string [48, 52, 49, 48]), .lit (.string [48, 52, 50, 48]), .lit (.string [48, 52, 50, 49]), .lit (.string [48, 52, 51, 48])] : DataW Unit) = .agg (xs.map (·.1)) := hx1.1
  simp only [DataW.agg.injEq] at hx1
  have key : ∀ (j : Nat) (s : List UInt8), ([[], [48, 49, 48, 48], [48, 49, 49, 48], [48, 52, 48, 48], [48, 52, 49, 48], [48, 52, 50, 48], [48, 52, 50, 49], [48, 52, 51, 48]] : List (List UInt8))[j]? = some s → W.cell? ⟨0, j, none⟩ = some (strV s) := by
    intro j s hs
    have hj : j < 8 := by have := (List.getElem?_eq_some_iff.1 hs).1; simpa using this
    have he := hel j hj
    rw [c9, Nat.mul_one] at he
    have hxj : xs[j]? = some xs[j] := by simp [show j < xs.length by omega]
    rw [hxj] at he
    obtain ⟨b, e1, e2, _⟩ := DataW.trod_string Tryd.underlying9 he
    have hlit : xs[j].1 = .lit (.string s) := by
      have e3 : (xs.map (·.1))[j]? = some xs[j].1 := by rw [List.getElem?_map, hxj]; rfl
      rw [← hx1] at e3
      have h8 : j = 0 ∨ j = 1 ∨ j = 2 ∨ j = 3 ∨ j = 4 ∨ j = 5 ∨ j = 6 ∨ j = 7 := by omega
      rcases h8 with rfl | rfl | rfl | rfl | rfl | rfl | rfl | rfl <;> (simp only [List.getElem?_cons_zero, List.getElem?_cons_succ, Option.some.injEq] at e3 hs; subst hs; exact e3.symm)
    rw [e2] at hlit
    have hb : b.data.toList = s := by simpa using hlit
    have hc : cs0[j]? = some (.string b) := by
      have : (cs0.toList.drop j).take 1 = [.string b] := e1
      have h1 : ((cs0.toList.drop j).take 1)[0]? = some (.string b) := by rw [this]; rfl
      rw [List.getElem?_take_of_lt (by omega), List.getElem?_drop, Nat.add_zero, Array.getElem?_toList] at h1
      exact h1
    rw [World.var?_cell gTypes hv0 j, hc]
    unfold strV
    rw [← hb]
  have h0 : 0 < W.heap.size := by
    have := key 0 [] rfl
    unfold World.cell? at this
    split at this
    · rename_i hb; exact (Array.getElem?_eq_some_iff.1 hb).1
    · cases this
  intro n r hr
  have hn : n = 0 := by
    unfold gtab at hr
    cases hb : Nat.beq n 0 with
    | false => rw [hb] at hr; cases hr
    | true => exact Nat.eq_of_beq_eq_true hb
  subst hn
  have hr : r = ⟨9, .str, [[], [48, 49, 48, 48], [48, 49, 49, 48], [48, 52, 48, 48], [48, 52, 49, 48], [48, 52, 50, 48], [48, 52, 50, 49], [48, 52, 51, 48]]⟩ := (Option.some.inj hr).symm
  subst hr
  refine ⟨_, rfl, fun j x hx => ⟨[strV x], rfl, fun i u hu => ?_, rfl⟩⟩
  have hi : i = 0 := by have := (List.getElem?_eq_some_iff.1 hu).1; simp at this; omega
  subst hi
  have hu : u = strV x := by simpa using hu.symm
  subst hu
  have ha : (⟨0, 0, none⟩ : Addr).add (j * (Ty.size .str) + 0) = ⟨0, j, none⟩ := by
    show (⟨0, 0, none⟩ : Addr).add (j * 1 + 0) = _
    unfold Addr.add; split <;> simp_all
  rw [ha]
  exact ⟨key j x hx, h0⟩
end Go.Proofs.YtjgnpmdbkgeakaaDoor
end
section
set_option linter.unusedVariables false
set_option linter.unusedSimpArgs false
namespace Go.Proofs.YtjgnpmdbkgeakaaDoor.lineRight
open Go.ChangeShapes Go.WideShapes Go.ChangeAt Go.RowKit Go.Proofs.YtjgnpmdbkgeakaaDoor Th G
open Go.ChangeMaps (open_string shut_string)
theorem own : ownKnob Tryd.prog.godebug = none := by kernel_rfl
theorem laidOut : laidOutB Tryd.prog = true := by kernel_rfl
set_option maxRecDepth 100000 in
theorem lifted (os : Os) (started : os.Started) (H : Type) (enc : TypeId × Value → H) :
    ReturnsInHanded {} Tryd.checked os 18 .any (fun w args => (Rows.lineRightSpec.pre enc Tryd.prog Tryd.f18 [] false w args ∧ laidMetH Tryd.prog laidL w) ∧ sizedMet enc Tryd.prog Tryd.f18 (OpenSpec.ofChange Rows.lineRightSpec) false w args) (Rows.lineRightSpec.post enc Tryd.prog Tryd.f18 false true false false) := by
  refine returnsInHanded_of_change_and (C := Tryd.checked) (X := fun w _ => laidMetH Tryd.prog laidL w) (fun _ _ _ hh h => h.of_heap hh) own started (by kernel_rfl) Tryd.func18
    (ChangeSpec.witness_shaped (enc := enc) (C := Tryd.checked) (os := os) (X := fun w _ => laidMetH Tryd.prog laidL w) false (World.doorLaid Tryd.prog 400 os) #[.int .i64 0, .slice none 0 0, .agg #[.slice none 0 0, .bool false]] 8 rfl (World.shaped_of_RefB (by kernel_rfl) (by kernel_rfl)) (by kernel_rfl) (by kernel_rfl) (by kernel_rfl) (door_met os _)) ?_
  intro W base args ds gs before hval0 hW hcnd hsz0 hL _
  have hsz : (DataW.weightsEach Tryd.prog (Tryd.f18.params.toList ++ Rows.lineRightSpec.plain.varTypes Tryd.prog) (ds ++ gs)).all (· ≤ reachBytes) = true := hsz0
  have hval : ∀ (j : Nat) t v, Tryd.f18.params[j]? = some t → args[j]? = some v → Value.okWide Tryd.prog W .any base t v := hval0
  have hW' := hW
  obtain ⟨p, q, hA0, hV, rfl, hfz, hnd⟩ := hW
  have hA : DataW.TrodAll enc Tryd.prog W 0 (fun _ => true) true Tryd.f18.params.toList args.toList ds p := hA0
  rw [Tryd.params18] at hA hval hsz
  obtain ⟨v0, vs0, d0, ds0, p0, q0, hargs, rfl, rfl, h0, r0⟩ := trodAll_cons hA
  obtain ⟨v1, vs1, d1, ds1, p1, q1, rfl, rfl, rfl, h1, r1⟩ := trodAll_cons r0
  obtain ⟨v2, vs2, d2, ds2, p2, q2, rfl, rfl, rfl, h2, r2⟩ := trodAll_cons r1
  obtain ⟨rfl, rfl, rfl⟩ := trodAll_nil r2
  obtain rfl : args = #[v0, v1, v2] := by cases args; simp_all
  obtain ⟨rfl, rfl⟩ := trodVars_none hV
  obtain ⟨x0, a0, g0⟩ := open_arg (T := (.int .i64)) (by kernel_rfl) (hval 0 3 v0 rfl rfl) h0 (weights_of hsz (j := 0) (t := 3) rfl rfl)
  have k0 := h0
  have lt0 : ∀ x ∈ p0, x.block < W.heap.size := by obtain ⟨m, hm⟩ := k0; exact DataW.trod_lt m _ _ _ hm
  obtain ⟨x1, a1, g1⟩ := open_arg (T := (.slice (.int .u8))) (by kernel_rfl) (hval 1 110 v1 rfl rfl) h1 (weights_of hsz (j := 1) (t := 110) rfl rfl)
  have k1 := h1
  have lt1 : ∀ x ∈ p1, x.block < W.heap.size := by obtain ⟨m, hm⟩ := k1; exact DataW.trod_lt m _ _ _ hm
  obtain ⟨x2, a2, g2⟩ := open_arg (T := (.st (.cons (.slice (.int .u8)) (.cons .bool .nil)))) (by kernel_rfl) (hval 2 115 v2 rfl rfl) h2 (weights_of hsz (j := 2) (t := 115) rfl rfl)
  have k2 := h2
  have lt2 : ∀ x ∈ p2, x.block < W.heap.size := by obtain ⟨m, hm⟩ := k2; exact DataW.trod_lt m _ _ _ hm
  obtain ⟨k, hk⟩ := PureLineRight.pure x0 x1 x2 g0 g1 g2
  clear hA0 hval0 hsz0 hsz
  refine (law_of (fn18 k [Ty.av (.int .i64) x0, Ty.av (.slice (.int .u8)) x1, Ty.av (.st (.cons (.slice (.int .u8)) (.cons .bool .nil))) x2] (x0, (x1, (x2, PUnit.unit))) (true, PUnit.unit) rfl rfl hk) (glob_of_laid hL) (us := [v0, v1, v2]) ⟨a0, a1, a2, trivial⟩).mono fun e W' ⟨he, bel⟩ => ?_
  subst he
  exact ⟨_, rfl, _, _, _, [], _, [], hW', trodAll_mk1 (shut_bool Tryd.underlying4 _), (trodAll_cons_mk (Below.trod laidOut (by kernel_rfl) (of_decide_eq_true (by kernel_rfl)) k0 bel lt0) (trodAll_cons_mk (Below.trod laidOut (by kernel_rfl) (of_decide_eq_true (by kernel_rfl)) k1 bel lt1) (trodAll_cons_mk (Below.trod laidOut (by kernel_rfl) (of_decide_eq_true (by kernel_rfl)) k2 bel lt2) trodAll_mk0))), rfl, bel.frame _, fun h => by cases h⟩
theorem inP : Tryd.prog.inPlace 18 = [] := by kernel_rfl
theorem unf : Tryd.prog.unfollowed 18 = true := by kernel_rfl
theorem rec' : Tryd.prog.recurses 18 = true := by kernel_rfl
theorem nam : Tryd.prog.varsNamed 18 = ["paydesk/deal.types"] := by kernel_rfl
theorem lk : false = Tryd.prog.looks [] := by kernel_rfl
theorem gb : false = Rows.lineRightRow.goesBy Tryd.prog := by kernel_rfl
theorem facts : joinedFacts Tryd.prog 18 Tryd.f18 Rows.lineRightSpec Rows.lineRightRow = true := by
  unfold joinedFacts
  rw [laidOut, mapsRowed', stopsHeard', mayEnter', plainKeys', liftsFinal', make', stops', stopKnobs', inP, unf, rec', nam]
  kernel_rfl
theorem over : Rows.lineRightRow.holds Tryd.pinned (OpenSpec.ofChange Rows.lineRightSpec) :=
  OpenClaim.holds_of_wide 18 Tryd.f18 rfl rfl rfl rfl rfl rfl rfl ⟨rfl, rfl, rfl, rfl, rfl⟩ rfl rfl rfl rfl rfl (by kernel_rfl) Tryd.func18 facts
    (of_decide_eq_true (by kernel_rfl)) (by unfold Func.isWrapper; first | (rw [if_pos (by decide +kernel)]; kernel_rfl) | (rw [if_neg (by decide +kernel)]; exact ⟨rfl, rfl⟩))
    (fun os started H enc _ => lifted os started H enc)
end Go.Proofs.YtjgnpmdbkgeakaaDoor.lineRight
namespace Go.Proofs.YtjgnpmdbkgeakaaDoor
theorem lineRight_card_holds : Rows.LineRightCardSaid :=
  Claim7.holds_tied_plain_at .later [] [.data] true (true, "4b760acf1adc6d3612329ab3c20ec014558e267c494e654019cab19211bf1961") false
    lineRight.over (fun _ h => by cases h) (by kernel_rfl) (fun _ h => by cases h) lineRight_row_tie rfl ⟨rfl, rfl⟩ mainIs' rfl
    (fun f fn hf hfn => by
      obtain rfl : f = 18 := Option.some.inj ((show Tryd.prog.funcNamed "paydesk/paydesklaw14.LineRight" = some 18 by kernel_rfl).symm.trans hf) |>.symm
      obtain rfl : fn = Tryd.f18 := (Option.some.inj (Tryd.func18.symm.trans hfn)).symm
      exact ⟨lineRight.lk, fun j t ht => by
        rw [Tryd.params18] at ht
        have hm : t ∈ [3, 110, 115] := by simpa using Array.mem_of_getElem? ht
        have hall : ([3, 110, 115].all fun u => !Tryd.prog.wantsStandIn u) = true := by kernel_rfl
        exact (show Tryd.prog.wantsStandIn t = false by simpa using List.all_eq_true.1 hall t hm)⟩)
    lineRight.gb
end Go.Proofs.YtjgnpmdbkgeakaaDoor
end
