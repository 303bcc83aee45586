/- The document's answer for the core's step. -/
import Derived.Test.YtjgnpmdbkgeakaaDoorCore2
import Derived.Test.YtjgnpmdbkgeakaaDoorEqO
set_option linter.unusedVariables false
set_option linter.unusedSimpArgs false
set_option maxRecDepth 100000
namespace Go.Proofs.YtjgnpmdbkgeakaaDoor.G
open Go Go.Proofs.YtjgnpmdbkgeakaaDoor Th

theorem G124_is (k : Nat) (v : Event) : G124 k (v, ()) = some (keyE v.2.1, ()) := by rw [G124_eq]; rfl
theorem G126_is (k : Nat) (v : Event) (kind : Int) (code : Txt) : G126 k (v, kind, code, ()) = some (told v kind code, ()) := by rw [G126_eq]; rfl
theorem G125_is (k : Nat) (e : Entry) (kind : Int) : G125 k (e, kind, ()) = some (asked e kind, ()) := by rw [G125_eq]; rfl
theorem G127_is (k : Nat) (e : Entry) (code : Txt) (cause : Int) : G127 k (e, code, cause, ()) = some ((e.1, 4, e.2.2.1, e.2.2.2.1, code, e.2.2.2.2.2.1, cause, ()), ()) := by rw [G127_eq]

theorem G51_is (k : Nat) (s : Int) : G51 k (s, ()) = some (decide (s = 2 ∨ s = 3 ∨ s = 5 ∨ s = 6), ()) := by
  rw [G51_eq]
  simp only [sel_dec]
  by_cases h1 : s = 2
  · simp [h1]
  by_cases h2 : s = 3
  · simp [h2]
  by_cases h3 : s = 5
  · simp [h3]
  by_cases h5 : s = 6 <;> simp [h1, h2, h3, h5]

theorem shortE (k : Nat) (e : Entry) : G46 k (e, ()) = some (decide (e.1.2.1.length ≤ 300 ∧ e.2.2.1.length ≤ 300 ∧ e.2.2.2.2.1.length ≤ 300), ()) := by
  rw [G46_eq, G25_eq, ocall_some]
  simp only [ofNat_len]
  have a1 : decide ((e.1.2.1.length : Int) ≤ 300) = decide (e.1.2.1.length ≤ 300) := decide_eq_decide.2 (by omega)
  have a2 : decide ((e.2.2.1.length : Int) ≤ 300) = decide (e.2.2.1.length ≤ 300) := decide_eq_decide.2 (by omega)
  have a3 : decide ((e.2.2.2.2.1.length : Int) ≤ 300) = decide (e.2.2.2.2.1.length ≤ 300) := decide_eq_decide.2 (by omega)
  rw [a1, a2, a3]
  by_cases h1 : e.1.2.1.length ≤ 300 <;> by_cases h2 : e.2.2.1.length ≤ 300 <;> by_cases h3 : e.2.2.2.2.1.length ≤ 300 <;> simp [h1, h2, h3]

/-- the state's own rules -/
theorem staged_two {state : Int} {code : Txt} {tries cause : Int} (h : stagedOK state code tries cause = true) : state = 2 → code = [48, 48] := by
  intro e
  unfold stagedOK at h
  rw [if_neg (by omega), if_pos e] at h
  simp only [Bool.and_eq_true, decide_eq_true_eq] at h
  exact h.2
theorem staged_pos {state : Int} {code : Txt} {tries cause : Int} (h : stagedOK state code tries cause = true) : 1 ≤ state ∧ state ≤ 6 := by
  unfold stagedOK at h
  split at h
  · omega
  split at h
  · omega
  split at h
  · omega
  split at h
  · omega
  · cases h

theorem G48_is (k L : Nat) (h2 : 2 ≤ L) (hL : L ≤ 1000000) (hk : L + 100 < k) (e : Entry) (kind : Int) (d : Deal) (tries : Int) (hle : lensE L e) (hge : goodE e) (hl : lens L d) (hg : goodD d) (ht : -9223372036854775808 ≤ e.2.2.2.2.2.1 ∧ e.2.2.2.2.2.1 ≤ 9223372036854775807) :
    G48 k (e, (kind, d, ()), tries, ()) = some ((doK e (kind, d, ()) tries).1, decide ((doK e (kind, d, ()) tries).2 = 0), ()) := by
  have hr := G50_is k L hL hk kind d hl hg
  have he := G65_is k (by omega) e L hL (by omega) hle
  have hs := sameE e zeroE
  have hkk := sameK e.1 (keyE d)
  obtain ⟨⟨ks, kr, ⟨⟩⟩, state, pan, amt, code, tr, cause, ⟨⟩⟩ := e
  obtain ⟨dk, dpan, damt, stan, rrn, dcode, ⟨⟩⟩ := d
  rw [G48_eq]
  unfold doK mayK
  rw [hr, ocall_some]
  cases hev : eventOK (kind, (dk, dpan, damt, stan, rrn, dcode, ()), ()) with
  | false => rw [if_neg (by simp)]; rfl
  | true =>
  simp only [Bool.not_true]
  rw [sel_false]
  by_cases t0 : tries < 0
  · rw [sel_pos t0, decide_eq_false (show ¬ 0 ≤ tries by omega), if_neg (by simp)]; rfl
  rw [sel_neg t0, decide_eq_true (show 0 ≤ tries by omega)]
  by_cases t1 : 16 < tries
  · rw [sel_pos t1, decide_eq_false (show ¬ tries ≤ 16 by omega), if_neg (by simp)]; rfl
  rw [sel_neg t1, decide_eq_true (show tries ≤ 16 by omega)]
  have hs' : (sameI ks (OfNat.ofNat 0) && (sameS kr [] && true) && (sameI state (OfNat.ofNat 0) && (sameS pan [] && (sameI amt (OfNat.ofNat 0) && (sameS code [] && (sameI tr (OfNat.ofNat 0) && (sameI cause (OfNat.ofNat 0) && true))))))) = decide ((((ks, kr, ()), state, pan, amt, code, tr, cause, ()) : Entry) = zeroE) := hs
  simp only [hs']
  cases hz : decide ((((ks, kr, ()), state, pan, amt, code, tr, cause, ()) : Entry) = zeroE) with
  | true =>
    have hz' := of_decide_eq_true hz
    simp only [zeroE, Prod.mk.injEq, and_true] at hz'
    obtain ⟨⟨rfl, rfl⟩, rfl, rfl, rfl, rfl, rfl, rfl⟩ := hz'
    rw [if_pos (by simp)]
    unfold stepK oddK
    (try simp only [])
    generalize decide (([] : Txt) = dpan) = bp
    generalize decide ((0 : Int) = damt) = ba
    simp only [sel_true, G124_is, G126_is, G125_is, ocall_some]
    by_cases h1 : kind = 1
    · subst h1
      cases bp <;> cases ba <;> simp [keyE, told, asked]
    by_cases h2 : kind = 2
    · subst h2
      cases bp <;> cases ba <;> simp [keyE, told, asked]
    by_cases h3 : kind = 3
    · subst h3
      cases bp <;> cases ba <;> simp [keyE, told, asked]
    by_cases h4 : kind = 4
    · subst h4
      cases bp <;> cases ba <;> simp [keyE, told, asked]
    by_cases h5 : kind = 5
    · subst h5
      cases bp <;> cases ba <;> simp [keyE, told, asked]
    cases bp <;> cases ba <;> simp [h1, h2, h3, h4, h5, keyE, told, asked]
  | false =>
    simp only [sel_false, Bool.false_or, he, ocall_some, G124_is]
    cases hE : entryOK ((ks, kr, ()), state, pan, amt, code, tr, cause, ()) with
    | false => rw [if_neg (by simp)]; rfl
    | true =>
    have hkk' : (sameI ks (keyE (dk, dpan, damt, stan, rrn, dcode, ())).1 && (sameS kr (keyE (dk, dpan, damt, stan, rrn, dcode, ())).2.1 && true)) = decide (((ks, kr, ()) : Key) = keyE (dk, dpan, damt, stan, rrn, dcode, ())) := hkk
    simp only [hkk']
    cases hK : decide (((ks, kr, ()) : Key) = keyE (dk, dpan, damt, stan, rrn, dcode, ())) with
    | false => rw [if_neg (by simp)]; rfl
    | true =>
    rw [if_pos (by simp)]
    have hst : stagedOK state code tr cause = true := by
      unfold entryOK at hE
      simp only [Bool.and_eq_true] at hE
      exact hE.2
    obtain ⟨s1, s6⟩ := staged_pos hst
    have s2 := staged_two hst
    (try simp only [] at ht)
    unfold stepK oddK
    simp only [Bool.not_true, sel_false, sel_true, G126_is, G125_is, G127_is, ocall_some]
    generalize decide (pan = dpan) = bp
    generalize decide (amt = damt) = ba
    have hc : state = 1 ∨ state = 2 ∨ state = 3 ∨ state = 4 ∨ state = 5 ∨ state = 6 := by omega
    by_cases h1 : kind = 1
    · subst h1
      rcases hc with rfl | rfl | rfl | rfl | rfl | rfl <;> cases bp <;> cases ba <;> simp [told, asked]
    by_cases h2 : kind = 2
    · subst h2
      by_cases cc : dcode = [48, 48] <;> rcases hc with rfl | rfl | rfl | rfl | rfl | rfl <;> cases bp <;> cases ba <;> simp [told, asked, cc, sel_dec]
    by_cases h3 : kind = 3
    · subst h3
      rcases hc with rfl | rfl | rfl | rfl | rfl | rfl <;> cases bp <;> cases ba <;> simp [told, asked] <;> simp_all
    by_cases h4 : kind = 4
    · subst h4
      have w1 : tr < tries → IntKind.i64.wrap (tr + 1) = tr + 1 := fun h => wrap64 (by omega) (by omega)
      by_cases ct : tr < tries
      · rw [w1 ct]
        have nt : ¬ tries ≤ tr := by omega
        rcases hc with rfl | rfl | rfl | rfl | rfl | rfl <;> cases bp <;> cases ba <;> simp [told, asked, ct, nt]
      · have nt : tries ≤ tr := by omega
        rcases hc with rfl | rfl | rfl | rfl | rfl | rfl <;> cases bp <;> cases ba <;> simp [told, asked, ct, nt]
    by_cases h5 : kind = 5
    · subst h5
      rcases hc with rfl | rfl | rfl | rfl | rfl | rfl <;> cases bp <;> cases ba <;> simp [told, asked]
    exfalso
    unfold eventOK kindE at hev
    rw [if_neg h4, if_neg h1, if_neg h2, if_neg h3, if_neg h5] at hev
    simp only [Bool.and_eq_true, decide_eq_true_eq] at hev
    omega
end Go.Proofs.YtjgnpmdbkgeakaaDoor.G
