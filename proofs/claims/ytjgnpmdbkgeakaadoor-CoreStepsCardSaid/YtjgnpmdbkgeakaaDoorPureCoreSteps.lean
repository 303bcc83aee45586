/- What comes of CoreSteps: always true. -/
import Derived.Test.YtjgnpmdbkgeakaaDoorCore6
import Derived.Test.YtjgnpmdbkgeakaaDoorPureCoreRight
import Derived.Test.YtjgnpmdbkgeakaaDoorEqQ
set_option linter.unusedVariables false
set_option linter.unusedSimpArgs false
set_option maxRecDepth 100000
namespace Go.Proofs.YtjgnpmdbkgeakaaDoor.PureCoreSteps
open Go Go.Proofs.YtjgnpmdbkgeakaaDoor Th G PureCoreRight

def PD (d : Deal) : Prop := lens 300 d ∧ goodD d
theorem told_l {v : G.Event} (hl : lens 300 v.2.1) (hg : goodD v.2.1) (k : Int) {c : Txt} (hc : c.length ≤ 300) : PD (told v k c) := ⟨⟨Nat.zero_le _, hl.2.1, hc⟩, ⟨Int.le_refl 0, by show (0 : Int) ≤ 18446744073709551615; decide⟩, hg.2⟩
theorem asked_l {e : Entry} (hl : lensE 300 e) (hg : goodE e) (k : Int) : PD (asked e k) := ⟨⟨hl.2.1, hl.1, Nat.zero_le _⟩, hg.2, hg.1⟩
theorem nil_l : ∀ d ∈ ([] : List Deal), PD d := fun d hd => absurd hd (by simp)
theorem one_l {x : Deal} (h : PD x) : ∀ d ∈ [x], PD d := fun d hd => by simp only [List.mem_singleton] at hd; rw [hd]; exact h
theorem two_l {x y : Deal} (h : PD x) (h2 : PD y) : ∀ d ∈ [x, y], PD d := fun d hd => by
  simp only [List.mem_cons, List.not_mem_nil, or_false] at hd
  rcases hd with rfl | rfl
  · exact h
  · exact h2

def QS (s : Step) : Prop := lensE 300 s.1 ∧ goodE s.1 ∧ (∀ d ∈ s.2.1, PD d) ∧ (∀ d ∈ s.2.2.1, PD d)

theorem step_lens {e : Entry} {v : G.Event} (tries : Int) (hle : lensE 300 e) (hge : goodE e) (hl : lens 300 v.2.1) (hg : goodD v.2.1) :
    QS (stepK e v tries) := by
  have t := fun (k : Int) {c : Txt} (hc : c.length ≤ 300) => told_l hl hg k hc
  have a := fun (k : Int) => asked_l hle hge k
  have le : ∀ (st : Int) (c : Txt) (tr ca : Int), c.length ≤ 300 → lensE 300 (e.1, st, e.2.2.1, e.2.2.2.1, c, tr, ca, ()) := fun st c tr ca hc => ⟨hle.1, hle.2.1, hc⟩
  unfold stepK
  split
  · split
    · exact ⟨⟨hl.2.1, hl.1, Nat.zero_le _⟩, ⟨hg.2, hg.1⟩, nil_l, one_l ⟨⟨hl.1, hl.2.1, Nat.zero_le _⟩, hg.1, hg.2⟩⟩
    split
    · exact ⟨hle, hge, one_l (t 2 (by decide)), nil_l⟩
    split
    · exact ⟨hle, hge, nil_l, nil_l⟩
    · exact ⟨hle, hge, one_l (t 2 hle.2.2), nil_l⟩
  split
  · split
    · exact ⟨⟨hle.1, hle.2.1, hl.2.2⟩, hge, one_l (t 2 hl.2.2), nil_l⟩
    · exact ⟨hle, hge, nil_l, nil_l⟩
  split
  · split
    · exact ⟨hle, hge, one_l (t 4 (by decide)), nil_l⟩
    split
    · exact ⟨hle, hge, one_l (t 4 (by decide)), nil_l⟩
    split
    · exact ⟨⟨hle.1, hle.2.1, hle.2.2⟩, hge, one_l (t 4 (by decide)), one_l (a 5)⟩
    split
    · exact ⟨⟨hle.1, hle.2.1, by simp⟩, hge, two_l (t 2 (by decide)) (t 4 (by decide)), one_l (a 5)⟩
    · exact ⟨hle, hge, one_l (t 4 (by decide)), nil_l⟩
  split
  · split
    · exact ⟨⟨hle.1, hle.2.1, by simp⟩, hge, one_l (t 2 (by decide)), one_l (a 5)⟩
    split
    · split
      · exact ⟨⟨hle.1, hle.2.1, hle.2.2⟩, hge, nil_l, one_l (a 6)⟩
      · exact ⟨⟨hle.1, hle.2.1, hle.2.2⟩, hge, nil_l, nil_l⟩
    · exact ⟨hle, hge, nil_l, nil_l⟩
  · split
    · exact ⟨⟨hle.1, hle.2.1, hle.2.2⟩, hge, nil_l, nil_l⟩
    split
    · exact ⟨⟨hle.1, hle.2.1, hle.2.2⟩, hge, nil_l, nil_l⟩
    · exact ⟨hle, hge, nil_l, nil_l⟩

theorem loop12 (a1 : Int) (a2 : Txt) (a3 : Int) (a4 : Txt) (a5 : Int) (a6 : Txt) (a7 a8 a9 dk : Int) (dpan : Txt) (damt dstan : Int) (drrn dcode : Txt) (s1 : Int) (s2 : Txt) (s3 : Int) (s4 : Txt) (s5 : Int) (sc : Txt) (s7 s8 : Int) (A I : List Deal) (tm : Int) (rc : Bool) (hA : A.length ≤ 1000)
    (hall : ∀ d ∈ A, PD d ∧ dealOK d = true ∧ keyE d = (dstan, drrn, ()) ∧ (d.1 = 2 ∨ d.1 = 4) ∧ (d.1 = 2 → d.2.2.2.2.2.1 = sc ∨ d.2.2.2.2.2.1 = [57, 52])) : ∀ (j p : Nat), p + j = A.length → ∀ n, j < n →
    G9_12 5000 n ((p : Int), a1, a2, a3, a4, a5, a6, a7, a8, a9, dk, dpan, damt, dstan, drrn, dcode, s1, s2, s3, s4, s5, sc, s7, s8, A, I, tm, rc, ()) =
      some (.inl (a1, a2, a3, a4, a5, a6, a7, a8, a9, dk, dpan, damt, dstan, drrn, dcode, s1, s2, s3, s4, s5, sc, s7, s8, A, I, tm, rc, ())) := by
  intro j
  induction j with
  | zero =>
    intro p hp n hn
    obtain ⟨n, rfl⟩ : ∃ m, n = m + 1 := ⟨n - 1, by omega⟩
    rw [G9_12_eq, sel_neg (by simp only [ofNat_len]; omega)]
  | succ j ih =>
    intro p hp n hn
    obtain ⟨n, rfl⟩ : ∃ m, n = m + 1 := ⟨n - 1, by omega⟩
    have hlt : p < A.length := by omega
    have next := ih (p + 1) (by omega) n (by omega)
    rw [Int.natCast_add, Int.natCast_one] at next
    obtain ⟨hpd, hok, hkey, hk, hc⟩ := hall A[p] (List.getElem_mem _)
    rw [G9_12_eq, sel_pos (by simp only [ofNat_len]; omega), sel_pos (by omega), sel_pos (by simp only [ofNat_len]; omega)]
    simp only [Int.toNat_natCast, getD_of hlt]
    rw [wrap64 (by omega) (by omega), next]
    generalize A[p] = d at hpd hok hkey hk hc
    obtain ⟨k1, k2, k3, k4, k5, k6, ⟨⟩⟩ := d
    have hkey' : k4 = dstan ∧ k5 = drrn := by
      simp only [keyE, Prod.mk.injEq, and_true] at hkey; exact hkey
    obtain ⟨rfl, rfl⟩ := hkey'
    (try simp only [] at hk hc)
    rw [G33_is 5000 300 (by omega) (by omega) _ hpd.1 hpd.2, ocall_some, hok]
    simp only [Bool.not_true, sel_false]
    rw [G26_is, ocall_some, G26_is, ocall_some]
    simp only [sameI, sameS, decide_true, Bool.and_true, Bool.not_true, sel_false]
    rcases hk with h | h
    · rw [sel_not, sel_pos h, sel_pos h]
      rcases hc h with h2 | h2
      · rw [sel_not, sel_pos h2]
      · by_cases h3 : k6 = sc
        · rw [sel_not, sel_pos h3]
        · rw [sel_not, sel_neg h3, sel_not, sel_pos h2]
    · rw [sel_not, sel_neg (by omega), sel_not, sel_pos h, sel_neg (by omega)]

theorem loop18 (a1 : Int) (a2 : Txt) (a3 : Int) (a4 : Txt) (a5 : Int) (a6 : Txt) (a7 a8 a9 dk : Int) (dpan : Txt) (damt dstan : Int) (drrn dcode : Txt) (s1 : Int) (s2 : Txt) (s3 : Int) (s4 : Txt) (s5 : Int) (sc : Txt) (s7 s8 : Int) (A I : List Deal) (tm : Int) (rc : Bool) (hI : I.length ≤ 1000)
    (hall : ∀ d ∈ I, PD d ∧ dealOK d = true ∧ keyE d = (dstan, drrn, ()) ∧ tm = 1 ∧ (d.1 = 1 ↔ a3 = 0) ∧ d.2.1 = s4 ∧ d.2.2.1 = s5) : ∀ (j p : Nat), p + j = I.length → ∀ n, j < n →
    G9_18 5000 n ((p : Int), a1, a2, a3, a4, a5, a6, a7, a8, a9, dk, dpan, damt, dstan, drrn, dcode, s1, s2, s3, s4, s5, sc, s7, s8, A, I, tm, rc, ()) =
      some (.inl (a1, a2, a3, a4, a5, a6, a7, a8, s1, s2, s3, s4, s5, sc, s7, s8, A, I, tm, rc, ())) := by
  intro j
  induction j with
  | zero =>
    intro p hp n hn
    obtain ⟨n, rfl⟩ : ∃ m, n = m + 1 := ⟨n - 1, by omega⟩
    rw [G9_18_eq, sel_neg (by simp only [ofNat_len]; omega)]
  | succ j ih =>
    intro p hp n hn
    obtain ⟨n, rfl⟩ : ∃ m, n = m + 1 := ⟨n - 1, by omega⟩
    have hlt : p < I.length := by omega
    have next := ih (p + 1) (by omega) n (by omega)
    rw [Int.natCast_add, Int.natCast_one] at next
    obtain ⟨hpd, hok, hkey, htm, hk, h4, h5⟩ := hall I[p] (List.getElem_mem _)
    rw [G9_18_eq, sel_pos (by simp only [ofNat_len]; omega), sel_pos (by omega), sel_pos (by simp only [ofNat_len]; omega)]
    simp only [Int.toNat_natCast, getD_of hlt]
    rw [wrap64 (by omega) (by omega), next]
    generalize I[p] = d at hpd hok hkey hk h4 h5
    obtain ⟨k1, k2, k3, k4, k5, k6, ⟨⟩⟩ := d
    have hkey' : k4 = dstan ∧ k5 = drrn := by
      simp only [keyE, Prod.mk.injEq, and_true] at hkey; exact hkey
    obtain ⟨rfl, rfl⟩ := hkey'
    (try simp only [] at hk h4 h5)
    rw [G33_is 5000 300 (by omega) (by omega) _ hpd.1 hpd.2, ocall_some, hok]
    simp only [Bool.not_true, sel_false]
    rw [G26_is, ocall_some, G26_is, ocall_some]
    simp only [sameI, sameS, decide_true, Bool.and_true, Bool.not_true, sel_false]
    rw [sel_not, sel_pos htm]
    have hb : (decide (k1 = 1) == decide (a3 = 0)) = true := by
      by_cases c : k1 = 1
      · simp [c, hk.1 c]
      · have c2 : ¬ a3 = 0 := fun h => c (hk.2 h)
        simp [c, c2]
    have hb2 : (!decide (k1 = 1) == decide (a3 = 0)) = false := by rw [hb]; rfl
    simp only [hb, Bool.not_true, sel_false, hb2]
    rw [sel_not, sel_pos h4, sel_not, sel_pos h5]

theorem main (e : Entry) (kind : Int) (d : Deal) (tries : Int) (ge : goodE e) (gt : -9223372036854775808 ≤ e.2.2.2.2.2.1 ∧ e.2.2.2.2.2.1 ≤ 9223372036854775807) (gd : goodD d) : G9 5000 (e, (kind, d, ()), tries, ()) = some (true, ()) := by
  have hsd := shortDD 5000 d
  have hse := shortE 5000 e
  have hdo := fun a b => G47_is 5000 300 (by omega) (by omega) (by omega) e kind d tries a ge b gd gt
  have hsl := fun a b => step_lens (e := e) (v := (kind, d, ())) tries a ge b gd
  rw [G9_eq, awake 5000 (by omega), ocall_some]
  obtain ⟨⟨ks, kr, ⟨⟩⟩, st, pan, amt, code, tr, cause, ⟨⟩⟩ := e
  obtain ⟨dk, dpan, damt, stan, rrn, dcode, ⟨⟩⟩ := d
  simp only [Bool.not_true, sel_false]
  rw [hse, ocall_some]
  by_cases h1 : kr.length ≤ 300 ∧ pan.length ≤ 300 ∧ code.length ≤ 300
  case neg => rw [decide_eq_false h1]; rfl
  rw [decide_eq_true h1]
  simp only [Bool.not_true, sel_false]
  rw [hsd, ocall_some]
  by_cases hl : lens 300 (dk, dpan, damt, stan, rrn, dcode, ())
  case neg => rw [decide_eq_false hl]; rfl
  rw [decide_eq_true hl]
  simp only [Bool.not_true, sel_false]
  rw [hdo h1 hl, ocall_some]
  by_cases hm : mayK ((ks, kr, ()), st, pan, amt, code, tr, cause, ()) (kind, (dk, dpan, damt, stan, rrn, dcode, ()), ()) tries = true
  case neg =>
    have hd : doK ((ks, kr, ()), st, pan, amt, code, tr, cause, ()) (kind, (dk, dpan, damt, stan, rrn, dcode, ()), ()) tries = (zeroS, 1) := by unfold doK; rw [if_neg hm]
    rw [hd]
    have hs := G52_is 5000 zeroS zeroS (by decide) (by decide) (by omega)
    rw [decide_eq_true rfl] at hs
    simp only [zeroS, zeroE] at hs ⊢
    rw [sel_not, sel_neg (by decide), hs]; rfl
  have hd : doK ((ks, kr, ()), st, pan, amt, code, tr, cause, ()) (kind, (dk, dpan, damt, stan, rrn, dcode, ()), ()) tries = (stepK ((ks, kr, ()), st, pan, amt, code, tr, cause, ()) (kind, (dk, dpan, damt, stan, rrn, dcode, ()), ()) tries, 0) := by unfold doK; rw [if_pos hm]
  rw [hd]
  have hok := step_ok hm
  obtain ⟨l1, l2, l3, l4⟩ := hsl h1 hl
  generalize stepK ((ks, kr, ()), st, pan, amt, code, tr, cause, ()) (kind, (dk, dpan, damt, stan, rrn, dcode, ()), ()) tries = s at hok l1 l2 l3 l4
  obtain ⟨o1, o2, o3, o4, o5, o6, o7⟩ := hok
  obtain ⟨⟨⟨s1, s2, ⟨⟩⟩, s3, s4, s5, sc, s7, s8, ⟨⟩⟩, A, I, tm, rc, ⟨⟩⟩ := s
  (try simp only [] at l1 l2 l3 l4 o1 o2 o3 o4 o5 o6 o7)
  have h12 := loop12 ks kr st pan amt code tr cause kind dk dpan damt stan rrn dcode s1 s2 s3 s4 s5 sc s7 s8 A I tm rc (by omega) (fun d hd => ⟨l3 d hd, o3 d hd⟩) A.length 0 (by omega) 5000 (by omega)
  have h18 := loop18 ks kr st pan amt code tr cause kind dk dpan damt stan rrn dcode s1 s2 s3 s4 s5 sc s7 s8 A I tm rc (by omega) (fun d hd => ⟨l4 d hd, o4 d hd⟩) I.length 0 (by omega) 5000 (by omega)
  rw [Int.natCast_zero] at h12 h18
  simp only [h12, h18, ocall_some, esel_inl, ofNat_len]
  rw [sel_not, sel_pos trivial]
  have hsm : (sameI s1 0 && (sameS s2 [] && true) && (sameI s3 0 && (sameS s4 [] && (sameI s5 0 && (sameS sc [] && (sameI s7 0 && (sameI s8 0 && true))))))) = decide ((((s1, s2, ()), s3, s4, s5, sc, s7, s8, ()) : Entry) = zeroE) := sameE ((s1, s2, ()), s3, s4, s5, sc, s7, s8, ()) zeroE
  rw [hsm]
  -- behind the entry's own tests
  have tail : ∀ b : Bool, sel b (some ((false : Bool), ())) (some (false, ())) = some (false, ()) := by intro b; cases b <;> rfl
  have hrec : sel (!rc) (some (true, ())) (sel (decide (s3 = 6)) (some (decide (st = 4), ())) (some (false, ()))) = some ((true : Bool), ()) := by
    cases rc with
    | false => rfl
    | true =>
      obtain ⟨p1, p2⟩ := o5 rfl
      have p2 : st = 4 := p2
      rw [Bool.not_true, sel_false, sel_pos p1, decide_eq_true p2]
  simp only [hrec]
  have fin : sel (decide ((1 : Int) < I.length)) (some (false, ())) (sel (decide ((2 : Int) < A.length)) (some (false, ())) (sel (decide (0 < st)) (sel (!decide (s4 = pan)) (some (false, ())) (sel (!decide (s5 = amt)) (some (false, ())) (sel (!decide (code = [])) (sel (!decide (sc = code)) (some (false, ())) (some (true, ()))) (some (true, ()))))) (some (true, ())))) = some ((true : Bool), ()) := by
    rw [sel_neg (by omega), sel_neg (by omega)]
    by_cases h0 : 0 < st
    · obtain ⟨p1, p2, p3⟩ := o2 h0
      rw [sel_pos h0, sel_not, sel_pos p1, sel_not, sel_pos p2]
      by_cases hc : code = []
      · rw [sel_not, sel_pos hc]
      · rw [sel_not, sel_neg hc, sel_not, sel_pos (p3 hc)]
    · rw [sel_neg h0]
  by_cases hz : (((s1, s2, ()), s3, s4, s5, sc, s7, s8, ()) : Entry) = zeroE
  · rw [decide_eq_true hz, Bool.not_true, sel_false]
    exact fin
  · rw [decide_eq_false hz, Bool.not_false, sel_true]
    rcases o1 with ⟨h, _⟩ | ⟨he, hke⟩
    · exact absurd h hz
    rw [G53_is 5000 300 (by omega) (by omega) (by omega) _ l1 l2, ocall_some, he]
    simp only [Bool.not_true, sel_false]
    rw [G26_is, ocall_some]
    have hke' : s1 = stan ∧ s2 = rrn := by simp only [keyE, Prod.mk.injEq, and_true] at hke; exact hke
    obtain ⟨rfl, rfl⟩ := hke'
    simp only [sameI, sameS, decide_true, Bool.and_true, Bool.not_true, sel_false]
    exact fin

theorem pure (x0 : Ty.den (.st (.cons (.st (.cons (.int .u32) (.cons .str .nil))) (.cons (.int .i64) (.cons .str (.cons (.int .u64) (.cons .str (.cons (.int .i64) (.cons (.int .i64) .nil))))))))) (x1 : Ty.den (.st (.cons (.int .i64) (.cons (.st (.cons (.int .i64) (.cons .str (.cons (.int .u64) (.cons (.int .u32) (.cons .str (.cons .str .nil))))))) .nil)))) (x2 : Ty.den (.int .i64)) (g0 : Ty.Good (.st (.cons (.st (.cons (.int .u32) (.cons .str .nil))) (.cons (.int .i64) (.cons .str (.cons (.int .u64) (.cons .str (.cons (.int .i64) (.cons (.int .i64) .nil)))))))) x0) (g1 : Ty.Good (.st (.cons (.int .i64) (.cons (.st (.cons (.int .i64) (.cons .str (.cons (.int .u64) (.cons (.int .u32) (.cons .str (.cons .str .nil))))))) .nil))) x1) (g2 : Ty.Good (.int .i64) x2) : ∃ k, F9 k (x0, (x1, (x2, PUnit.unit))) = some (true, PUnit.unit) :=
  ⟨5000, main x0 x1.1 x1.2.1 x2 ⟨good_u32 g0.1.1, good_u64 g0.2.2.2.1⟩ (good_i64 g0.2.2.2.2.2.1) ⟨good_u64 g1.2.1.2.2.1, good_u32 g1.2.1.2.2.2.1⟩⟩
end Go.Proofs.YtjgnpmdbkgeakaaDoor.PureCoreSteps
