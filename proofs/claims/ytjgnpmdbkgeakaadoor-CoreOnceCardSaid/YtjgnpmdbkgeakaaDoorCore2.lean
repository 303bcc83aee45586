/- The step of the core. -/
import Derived.Test.YtjgnpmdbkgeakaaDoorCore
set_option linter.unusedVariables false
set_option linter.unusedSimpArgs false
set_option maxRecDepth 100000
namespace Go.Proofs.YtjgnpmdbkgeakaaDoor.G
open Go Go.Proofs.YtjgnpmdbkgeakaaDoor Th

def told (v : Event) (kind : Int) (code : Txt) : Deal := (kind, [], 0, v.2.1.2.2.2.1, v.2.1.2.2.2.2.1, code, ())
def asked (e : Entry) (kind : Int) : Deal := (kind, e.2.2.1, e.2.2.2.1, e.1.1, e.1.2.1, [], ())
def oddK (e : Entry) (v : Event) : Bool := !decide (e.2.2.1 = v.2.1.2.1) || !decide (e.2.2.2.1 = v.2.1.2.2.1)
def stepK (e : Entry) (v : Event) (tries : Int) : Step :=
  if v.1 = 1 then
    if e.2.1 = 0 then ((keyE v.2.1, 1, v.2.1.2.1, v.2.1.2.2.1, [], 0, 0, ()), [], [(1, v.2.1.2.1, v.2.1.2.2.1, v.2.1.2.2.2.1, v.2.1.2.2.2.2.1, [], ())], 1, false, ())
    else if oddK e v = true then (e, [told v 2 [57, 52]], [], 0, false, ())
    else if e.2.1 = 1 then (e, [], [], 0, false, ()) else (e, [told v 2 e.2.2.2.2.1], [], 0, false, ())
  else if v.1 = 2 then
    if e.2.1 = 1 then ((e.1, if v.2.1.2.2.2.2.2.1 = [48, 48] then 2 else 3, e.2.2.1, e.2.2.2.1, v.2.1.2.2.2.2.2.1, e.2.2.2.2.2), [told v 2 v.2.1.2.2.2.2.2.1], [], 2, false, ())
    else (e, [], [], 0, false, ())
  else if v.1 = 3 then
    if e.2.1 = 0 then (e, [told v 4 [50, 53]], [], 0, false, ())
    else if oddK e v = true then (e, [told v 4 [57, 52]], [], 0, false, ())
    else if e.2.1 = 2 then ((e.1, 4, e.2.2.1, e.2.2.2.1, e.2.2.2.2.1, e.2.2.2.2.2.1, 2, ()), [told v 4 [48, 48]], [asked e 5], 1, false, ())
    else if e.2.1 = 1 then ((e.1, 4, e.2.2.1, e.2.2.2.1, [49, 55], e.2.2.2.2.2.1, 2, ()), [told v 2 [49, 55], told v 4 [48, 48]], [asked e 5], 1, false, ())
    else (e, [told v 4 [48, 48]], [], 0, false, ())
  else if v.1 = 4 then
    if e.2.1 = 1 then ((e.1, 4, e.2.2.1, e.2.2.2.1, [54, 56], e.2.2.2.2.2.1, 1, ()), [told v 2 [54, 56]], [asked e 5], 1, false, ())
    else if e.2.1 = 4 then
      if e.2.2.2.2.2.1 < tries then ((e.1, 4, e.2.2.1, e.2.2.2.1, e.2.2.2.2.1, e.2.2.2.2.2.1 + 1, e.2.2.2.2.2.2), [], [asked e 6], 1, false, ())
      else ((e.1, 6, e.2.2), [], [], 0, true, ())
    else (e, [], [], 0, false, ())
  else
    if e.2.1 = 4 then ((e.1, 5, e.2.2), [], [], 2, false, ())
    else if e.2.1 = 6 then ((e.1, 5, e.2.2), [], [], 0, false, ())
    else (e, [], [], 0, false, ())
def doK (e : Entry) (v : Event) (tries : Int) : Step × Int := if mayK e v tries = true then (stepK e v tries, 0) else (zeroS, 1)

theorem G47_is (k L : Nat) (h2 : 2 ≤ L) (hL : L ≤ 1000000) (hk : L + 100 < k) (e : Entry) (kind : Int) (d : Deal) (tries : Int) (hle : lensE L e) (hge : goodE e) (hl : lens L d) (hg : goodD d) (ht : -9223372036854775808 ≤ e.2.2.2.2.2.1 ∧ e.2.2.2.2.2.1 ≤ 9223372036854775807) :
    G47 k (e, (kind, d, ()), tries, ()) = some ((doK e (kind, d, ()) tries).1, (doK e (kind, d, ()) tries).2, ()) := by
  have hm := G122_is k L h2 hL hk e kind d tries hle hge hl hg
  obtain ⟨⟨ks, kr, ⟨⟩⟩, state, pan, amt, code, tr, cause, ⟨⟩⟩ := e
  obtain ⟨dk, dpan, damt, stan, rrn, dcode, ⟨⟩⟩ := d
  (try simp only [] at ht)
  rw [G47_eq]
  (try simp only [])
  rw [hm, ocall_some]
  unfold doK
  cases hmay : mayK ((ks, kr, ()), state, pan, amt, code, tr, cause, ()) (kind, (dk, dpan, damt, stan, rrn, dcode, ()), ()) tries with
  | false => rw [if_neg (by simp)]; rfl
  | true =>
  have ht16 : tries ≤ 16 := by
    unfold mayK at hmay
    simp only [Bool.and_eq_true, decide_eq_true_eq] at hmay
    exact hmay.1.2
  rw [if_pos rfl]
  unfold stepK
  simp only [Bool.not_true, sel_false]
  rw [G123_eq]
  by_cases h1 : kind = 1
  · rw [sel_pos h1, if_pos h1, ocall_some, esel_inl, G179_eq]
    (try simp only [])
    by_cases s0 : state = 0
    · rw [sel_pos s0, if_pos s0, G26_is, ocall_some, G204_eq]
      (try simp only [])
      rw [sel_pos (by decide)]
      rfl
    rw [sel_neg s0, if_neg s0, G205_eq]
    (try simp only [])
    have ho : oddK ((ks, kr, ()), state, pan, amt, code, tr, cause, ()) (kind, (dk, dpan, damt, stan, rrn, dcode, ()), ()) = (!decide (pan = dpan) || !decide (amt = damt)) := rfl
    rw [ho]
    by_cases c1 : pan = dpan
    · by_cases c2 : amt = damt
      · rw [decide_eq_true c1, decide_eq_true c2]
        simp only [Bool.not_true, sel_false, ocall_some, Bool.or_false, Bool.false_eq_true, if_false]
        by_cases s1 : state = 1
        · rw [sel_not, sel_pos s1, if_pos s1]; rfl
        · rw [sel_not, sel_neg s1, if_neg s1, G206_eq]
          (try simp only [])
          rw [sel_pos (by decide)]
          rfl
      · rw [decide_eq_true c1, decide_eq_false c2]
        simp only [Bool.not_true, sel_false, ocall_some, Bool.not_false, Bool.or_true, sel_true, if_true]
        rw [G206_eq]
        (try simp only [])
        rw [sel_pos (by decide)]
        rfl
    · rw [decide_eq_false c1]
      simp only [Bool.not_false, sel_true, ocall_some, Bool.true_or, if_true]
      rw [G206_eq]
      (try simp only [])
      rw [sel_pos (by decide)]
      rfl
  rw [sel_neg h1, if_neg h1]
  by_cases h2 : kind = 2
  · rw [sel_pos h2, if_pos h2, ocall_some, esel_inr, esel_inl, G180_eq]
    (try simp only [])
    by_cases s1 : state = 1
    · rw [sel_not, sel_pos s1, if_pos s1]
      by_cases cc : dcode = [48, 48]
      · rw [sel_pos cc, if_pos cc, G206_eq]
        (try simp only [])
        rw [sel_pos (by decide)]
        rfl
      · rw [sel_neg cc, if_neg cc, G206_eq]
        (try simp only [])
        rw [sel_pos (by decide)]
        rfl
    · rw [sel_not, sel_neg s1, if_neg s1]; rfl
  rw [sel_neg h2, if_neg h2]
  by_cases h3 : kind = 3
  · rw [sel_pos h3, if_pos h3, ocall_some, esel_inr, esel_inr, esel_inl, G181_eq]
    (try simp only [])
    obtain ⟨m, rfl⟩ : ∃ m, k = m + 1 := ⟨k - 1, by omega⟩
    by_cases s0 : state = 0
    · rw [sel_pos s0, if_pos s0, G181_g1_eq, esel_inr, G206_eq]
      (try simp only [])
      rw [sel_pos (by decide)]
      rfl
    rw [sel_neg s0, if_neg s0, G205_eq]
    (try simp only [])
    have ho : oddK ((ks, kr, ()), state, pan, amt, code, tr, cause, ()) (kind, (dk, dpan, damt, stan, rrn, dcode, ()), ()) = (!decide (pan = dpan) || !decide (amt = damt)) := rfl
    rw [ho]
    by_cases c1 : pan = dpan
    · by_cases c2 : amt = damt
      · rw [decide_eq_true c1, decide_eq_true c2]
        simp only [Bool.not_true, sel_false, ocall_some, Bool.or_false, Bool.false_eq_true, if_false]
        by_cases s2 : state = 2
        · rw [sel_pos s2, if_pos s2, G181_g1_eq, esel_inl, G207_eq]
          (try simp only [])
          rw [G204_eq]
          (try simp only [])
          rw [sel_pos (by decide)]
          simp only [ocall_some]
          rw [G206_eq]
          (try simp only [])
          rw [sel_pos (by decide)]
          rfl
        rw [sel_neg s2, if_neg s2]
        by_cases s1 : state = 1
        · rw [sel_not, sel_pos s1, if_pos s1, G206_eq]
          (try simp only [])
          rw [sel_pos (by decide)]
          simp only [ocall_some]
          rw [G207_eq]
          (try simp only [])
          rw [G204_eq]
          (try simp only [])
          rw [sel_pos (by decide)]
          simp only [ocall_some]
          rw [G206_eq]
          (try simp only [])
          rw [sel_pos (by simp)]
          rfl
        · rw [sel_not, sel_neg s1, if_neg s1, G181_g1_eq, esel_inr, G206_eq]
          (try simp only [])
          rw [sel_pos (by decide)]
          rfl
      · rw [decide_eq_true c1, decide_eq_false c2]
        simp only [Bool.not_true, sel_false, ocall_some, Bool.not_false, Bool.or_true, sel_true, if_true]
        rw [G181_g1_eq, esel_inr, G206_eq]
        (try simp only [])
        rw [sel_pos (by decide)]
        rfl
    · rw [decide_eq_false c1]
      simp only [Bool.not_false, sel_true, ocall_some, Bool.true_or, if_true]
      rw [G181_g1_eq, esel_inr, G206_eq]
      (try simp only [])
      rw [sel_pos (by decide)]
      rfl
  rw [sel_neg h3, if_neg h3]
  by_cases h4 : kind = 4
  · rw [sel_pos h4, if_pos h4, ocall_some, esel_inr, esel_inr, esel_inr, esel_inl, G182_eq]
    (try simp only [])
    by_cases s1 : state = 1
    · rw [sel_pos s1, if_pos s1, G206_eq]
      (try simp only [])
      rw [sel_pos (by decide), ocall_some, G207_eq]
      (try simp only [])
      rw [G204_eq]
      (try simp only [])
      rw [sel_pos (by decide)]
      rfl
    rw [sel_neg s1, if_neg s1]
    by_cases s4 : state = 4
    · rw [sel_not, sel_pos s4, if_pos s4]
      by_cases ct : tr < tries
      · rw [sel_pos ct, if_pos ct, G204_eq]
        (try simp only [])
        rw [sel_pos (by decide), wrap64 (by omega) (by omega)]
        subst s4
        rfl
      · rw [sel_neg ct, if_neg ct]; rfl
    · rw [sel_not, sel_neg s4, if_neg s4]; rfl
  rw [sel_neg h4, if_neg h4, ocall_some, esel_inr, esel_inr, esel_inr, esel_inr, G183_eq]
  (try simp only [])
  by_cases s4 : state = 4
  · rw [sel_pos s4, if_pos s4]; rfl
  rw [sel_neg s4, if_neg s4]
  by_cases s6 : state = 6
  · rw [sel_pos s6, if_pos s6]; rfl
  · rw [sel_neg s6, if_neg s6]; rfl
end Go.Proofs.YtjgnpmdbkgeakaaDoor.G
