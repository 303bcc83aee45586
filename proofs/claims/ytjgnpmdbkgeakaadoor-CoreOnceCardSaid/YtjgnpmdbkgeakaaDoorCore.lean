/- What the functions of the core, and those of the document's answer, answer. -/
import Derived.Test.YtjgnpmdbkgeakaaDoorDeal4
import Derived.Test.YtjgnpmdbkgeakaaDoorKey
import Derived.Test.YtjgnpmdbkgeakaaDoorEqN
set_option linter.unusedVariables false
set_option linter.unusedSimpArgs false
set_option maxRecDepth 100000
namespace Go.Proofs.YtjgnpmdbkgeakaaDoor.G
open Go Go.Proofs.YtjgnpmdbkgeakaaDoor Th

/-- Key, State, Pan, Amount, Code, Tries, Cause -/
abbrev Entry := Key × Int × Txt × Int × Txt × Int × Int × Unit
abbrev Event := Int × Deal × Unit
abbrev Step := Entry × List Deal × List Deal × Int × Bool × Unit

def stagedOK (state : Int) (code : Txt) (tries cause : Int) : Bool :=
  if state = 1 then decide (tries = 0) && decide (cause = 0) && decide (code = [])
  else if state = 2 then decide (tries = 0) && decide (cause = 0) && decide (code = [48, 48])
  else if state = 3 then decide (tries = 0) && decide (cause = 0) && !decide (code = [48, 48]) && rightF 39 code
  else if state = 4 ∨ state = 5 ∨ state = 6 then rightF 39 code && decide (0 ≤ tries) && decide (tries ≤ 16) && decide (cause = 1 ∨ cause = 2)
  else false
def entryOK (e : Entry) : Bool := keyOK e.1 && isFine e.2.2.1 && decide (e.2.2.1.length < 20) && decide (e.2.2.2.1 < 1000000000000) && stagedOK e.2.1 e.2.2.2.2.1 e.2.2.2.2.2.1 e.2.2.2.2.2.2.1

theorem G130_is (k : Nat) (hk : 20 < k) (key : Key) (state : Int) (pan : Txt) (amt : Int) (code : Txt) (tries cause : Int) (hc : code.length ≤ 1000000) (hck : code.length < k) :
    G130 k ((key, state, pan, amt, code, tries, cause, ()), ()) = some (stagedOK state code tries cause, ()) := by
  have hr := G117_is k hk 39 code (by rw [maxLen_eq]; omega) hck
  rw [G130_eq]
  unfold stagedOK
  (try simp only [])
  have tail : ∀ b : Bool, sel b (sel (decide (0 ≤ tries)) (sel (decide (tries ≤ 16)) (sel (decide (cause = 1)) (some (true, ())) (some (decide (cause = 2), ()))) (some (false, ()))) (some (false, ()))) (some (false, ())) =
      some (b && decide (0 ≤ tries) && decide (tries ≤ 16) && decide (cause = 1 ∨ cause = 2), ()) := by
    intro b
    cases b with
    | false => rfl
    | true =>
      by_cases h0 : 0 ≤ tries <;> by_cases h1 : tries ≤ 16 <;> by_cases h2 : cause = 1 <;> simp [sel_dec, h0, h1, h2]
  simp only [hr, ocall_some, tail]
  by_cases h4 : state < 4
  · rw [sel_pos h4]
    by_cases ht : tries = 0
    · by_cases hu : cause = 0
      · rw [decide_eq_true ht, decide_eq_true hu]
        simp only [Bool.not_true, sel_false, Bool.true_and]
        by_cases h1 : state = 1
        · rw [sel_pos h1, if_pos h1]
        rw [sel_neg h1, if_neg h1]
        by_cases h2 : state = 2
        · rw [sel_pos h2, if_pos h2]
        rw [sel_neg h2, if_neg h2]
        by_cases h3 : state = 3
        · rw [sel_pos h3, if_pos h3]
          cases decide (code = [48, 48]) <;> rfl
        rw [sel_neg h3, if_neg h3, sel_neg (by omega), sel_neg (by omega), sel_neg (by omega), if_neg (by omega)]
      · rw [decide_eq_true ht, decide_eq_false hu]
        simp only [Bool.not_true, sel_false, Bool.not_false, sel_true, Bool.and_false, Bool.false_and]
        rw [if_neg (show ¬ (state = 4 ∨ state = 5 ∨ state = 6) by omega)]
        simp
    · rw [decide_eq_false ht]
      simp only [Bool.not_false, sel_true, Bool.false_and]
      rw [if_neg (show ¬ (state = 4 ∨ state = 5 ∨ state = 6) by omega)]
      simp
  · rw [sel_neg h4, sel_neg (by omega), sel_neg (by omega), sel_neg (by omega), if_neg (by omega), if_neg (by omega), if_neg (by omega)]
    by_cases h44 : state = 4
    · rw [sel_pos h44, sel_pos h44, if_pos (.inl h44)]
    rw [sel_neg h44]
    by_cases h5 : state = 5
    · rw [sel_pos h5, sel_pos h5, if_pos (.inr (.inl h5))]
    rw [sel_neg h5]
    by_cases h6 : state = 6
    · rw [sel_pos h6, if_pos (.inr (.inr h6))]
    rw [sel_neg h6, if_neg (by omega)]

def goodE (e : Entry) : Prop := (0 ≤ e.1.1 ∧ e.1.1 ≤ 4294967295) ∧ 0 ≤ e.2.2.2.1 ∧ e.2.2.2.1 ≤ 18446744073709551615
def lensE (L : Nat) (e : Entry) : Prop := e.1.2.1.length ≤ L ∧ e.2.2.1.length ≤ L ∧ e.2.2.2.2.1.length ≤ L

theorem G53_is (k L : Nat) (h2 : 2 ≤ L) (hL : L ≤ 1000000) (hk : L + 100 < k) (e : Entry) (hl : lensE L e) (hg : goodE e) : G53 k (e, ()) = some (entryOK e, ()) := by
  obtain ⟨⟨ks, kr, ⟨⟩⟩, state, pan, amt, code, tries, cause, ⟨⟩⟩ := e
  obtain ⟨l1, l2, l3⟩ := hl
  (try simp only [] at l1 l2 l3)
  rw [G53_eq]
  unfold entryOK
  (try simp only [])
  rw [G27_is k L hL hk (ks, kr, ()) l1 h2 hg.1, ocall_some]
  (try simp only [])
  generalize keyOK (ks, kr, ()) = b1
  cases b1 with
  | false => rfl
  | true =>
    simp only [sel_true, Bool.true_and]
    rw [G107_is k pan (by omega) (by omega), ocall_some]
    cases hf : isFine pan with
    | false => rfl
    | true =>
      simp only [sel_true, Bool.true_and]
      rw [G117_is k (by omega) 2 pan (by rw [maxLen_eq]; omega) (by omega), ocall_some, rf2_fine hf]
      cases decide (pan.length < 20) with
      | false => rfl
      | true =>
        simp only [sel_true, Bool.true_and]
        by_cases ha : amt < 1000000000000
        · rw [sel_pos ha, decide_eq_true ha, G130_is k (by omega) (ks, kr, ()) state pan amt code tries cause (by omega) (by omega), ocall_some]; rfl
        · rw [sel_neg ha, decide_eq_false ha]; rfl

theorem G65_is (k : Nat) (hk : 100 < k) (e : Entry) (L : Nat) (hL : L ≤ 1000000) (hLk : L < k) (hl : lensE L e) : G65 k (e, ()) = some (entryOK e, ()) := by
  obtain ⟨⟨ks, kr, ⟨⟩⟩, state, pan, amt, code, tries, cause, ⟨⟩⟩ := e
  obtain ⟨l1, l2, l3⟩ := hl
  (try simp only [] at l1 l2 l3)
  rw [G65_eq]
  unfold entryOK
  (try simp only [])
  rw [G28_is k hk (ks, kr, ()) (by (try simp only []); omega) (by (try simp only []); omega), ocall_some]
  (try simp only [])
  generalize keyOK (ks, kr, ()) = b1
  cases b1 with
  | false => rfl
  | true =>
  simp only [Bool.not_true, sel_false, Bool.true_and]
  rw [G110_is k pan (by omega) (by omega), ocall_some]
  cases hf : isFine pan with
  | false => rfl
  | true =>
  simp only [Bool.not_true, sel_false, Bool.true_and]
  by_cases hp : pan.length < 20
  case neg => rw [sel_pos (by simp only [ofNat_len]; omega), decide_eq_false hp]; rfl
  rw [sel_neg (by simp only [ofNat_len]; omega), decide_eq_true hp]
  by_cases ha : amt < 1000000000000
  case neg => rw [sel_pos (by omega), decide_eq_false ha]; rfl
  rw [sel_neg (by omega), decide_eq_true ha]
  simp only [Bool.true_and]
  have hr := G101_is k (by omega) 39 code (by rw [maxLen_eq]; omega) (by omega)
  simp only [hr, ocall_some]
  unfold stagedOK
  by_cases h1 : state = 1
  · rw [sel_pos h1, if_pos h1]
    by_cases ht : tries = 0
    · by_cases hu : cause = 0
      · rw [decide_eq_true ht, decide_eq_true hu]
        simp only [Bool.not_true, sel_false, Bool.true_and]
        rw [sel_pos h1]
        by_cases hc : code = []
        · rw [sel_pos hc, decide_eq_true hc]
        · rw [sel_neg hc, decide_eq_false hc, sel_neg (by omega), sel_neg (by omega)]
      · rw [decide_eq_true ht, decide_eq_false hu]; rfl
    · rw [decide_eq_false ht]; rfl
  rw [sel_neg h1, if_neg h1]
  by_cases h2 : state = 2
  · rw [sel_pos h2, if_pos h2]
    by_cases ht : tries = 0
    · by_cases hu : cause = 0
      · rw [decide_eq_true ht, decide_eq_true hu]
        simp only [Bool.not_true, sel_false, Bool.true_and]
        rw [sel_neg h1, sel_pos h2]
        by_cases hc : code = [48, 48]
        · rw [sel_pos hc, decide_eq_true hc]
        · rw [sel_neg hc, decide_eq_false hc, sel_neg (by omega)]
      · rw [decide_eq_true ht, decide_eq_false hu]; rfl
    · rw [decide_eq_false ht]; rfl
  rw [sel_neg h2, if_neg h2]
  by_cases h3 : state = 3
  · rw [sel_pos h3, if_pos h3]
    by_cases ht : tries = 0
    · by_cases hu : cause = 0
      · rw [decide_eq_true ht, decide_eq_true hu]
        simp only [Bool.not_true, sel_false, Bool.true_and]
        rw [sel_neg h1, sel_neg h2, sel_pos h3]
        by_cases hc : code = [48, 48]
        · rw [decide_eq_true hc]; rfl
        · rw [decide_eq_false hc]; rfl
      · rw [decide_eq_true ht, decide_eq_false hu]; rfl
    · rw [decide_eq_false ht]; rfl
  rw [sel_neg h3, if_neg h3]
  by_cases h4 : 3 < state
  · rw [sel_pos h4]
    by_cases h7 : state < 7
    · rw [sel_pos h7, if_pos (by omega)]
      cases rightF 39 code with
      | false => rfl
      | true =>
        simp only [sel_true, Bool.true_and]
        by_cases c0 : 0 ≤ tries
        · by_cases c1 : tries ≤ 16
          · rw [sel_pos c0, sel_pos (by omega), decide_eq_true c0, decide_eq_true c1]
            by_cases c2 : 0 < cause
            · rw [sel_pos c2]
              have : decide (cause < 3) = decide (cause = 1 ∨ cause = 2) := decide_eq_decide.2 (by omega)
              rw [this]; rfl
            · rw [sel_neg c2, decide_eq_false (show ¬ (cause = 1 ∨ cause = 2) by omega)]; rfl
          · rw [sel_pos c0, sel_neg (by omega), decide_eq_false c1]; simp
        · rw [sel_neg c0, decide_eq_false c0]; simp
    · rw [sel_neg h7, if_neg (by omega)]
  · rw [sel_neg h4, if_neg (by omega)]

/-! events -/
def kindE (kind : Int) : Int := if kind = 1 then 1 else if kind = 2 then 2 else if kind = 3 then 3 else if kind = 5 then 7 else 0
def eventOK (v : Event) : Bool :=
  if v.1 = 4 then decide (v.2.1.1 = 0) && decide (v.2.1.2.1 = []) && decide (v.2.1.2.2.1 = 0) && decide (v.2.1.2.2.2.2.2.1 = []) && keyOK (v.2.1.2.2.2.1, v.2.1.2.2.2.2.1, ())
  else decide (0 < v.2.1.1) && decide (v.2.1.1 = kindE v.1) && dealOK v.2.1

theorem G128_is (k : Nat) (kind : Int) : G128 k (kind, ()) = some (kindE kind, ()) := by
  rw [G128_eq]
  unfold kindE
  simp only [sel_dec]
  by_cases h1 : kind = 1
  · simp [h1]
  by_cases h2 : kind = 2
  · simp [h2]
  by_cases h3 : kind = 3
  · simp [h3]
  by_cases h5 : kind = 5 <;> simp [h1, h2, h3, h5]

theorem G49_is (k L : Nat) (h2 : 2 ≤ L) (hL : L ≤ 1000000) (hk : L + 100 < k) (kind : Int) (d : Deal) (hl : lens L d) (hg : goodD d) : G49 k ((kind, d, ()), ()) = some (eventOK (kind, d, ()), ()) := by
  have hr := G33_is k L hL hk d hl hg
  obtain ⟨dk, pan, amt, stan, rrn, code, ⟨⟩⟩ := d
  obtain ⟨l1, l2, l3⟩ := hl
  rw [G49_eq]
  unfold eventOK
  (try simp only [])
  by_cases h4 : kind = 4
  · rw [sel_pos h4, if_pos h4, G26_is, ocall_some]
    (try simp only [])
    rw [G27_is k L hL hk (stan, rrn, ()) l2 h2 hg.2, ocall_some]
    simp only [sameI, sameS, decide_true, Bool.true_and, Bool.and_true]
    by_cases c1 : dk = 0 <;> by_cases c2 : pan = [] <;> by_cases c3 : amt = 0 <;> by_cases c4 : code = [] <;> simp [c1, c2, c3, c4]
  · rw [sel_neg h4, if_neg h4, G128_is, ocall_some, hr, ocall_some]
    by_cases c1 : 0 < dk
    · rw [sel_pos c1, decide_eq_true c1]
      by_cases c2 : dk = kindE kind
      · rw [sel_pos c2, decide_eq_true c2]; rfl
      · rw [sel_neg c2, decide_eq_false c2]; rfl
    · rw [sel_neg c1, decide_eq_false c1]; rfl

theorem G50_is (k L : Nat) (hL : L ≤ 1000000) (hk : L + 100 < k) (kind : Int) (d : Deal) (hl : lens L d) (hg : goodD d) : G50 k ((kind, d, ()), ()) = some (eventOK (kind, d, ()), ()) := by
  have hr := G36_is k L hL hk d hl hg
  obtain ⟨dk, pan, amt, stan, rrn, code, ⟨⟩⟩ := d
  obtain ⟨l1, l2, l3⟩ := hl
  (try simp only [] at l1 l2 l3)
  rw [G50_eq]
  unfold eventOK kindE
  simp only [hr, ocall_some]
  by_cases h1 : kind = 1
  · rw [sel_pos h1, if_neg (show ¬ kind = 4 by omega), if_pos h1]
    by_cases c : dk = 1
    · rw [sel_pos c, decide_eq_true c, decide_eq_true (show 0 < dk by omega)]; rfl
    · rw [sel_neg c, decide_eq_false c]; simp
  rw [sel_neg h1]
  by_cases h2 : kind = 2
  · rw [sel_pos h2, if_neg (show ¬ kind = 4 by omega), if_neg h1, if_pos h2]
    by_cases c : dk = 2
    · rw [sel_pos c, decide_eq_true c, decide_eq_true (show 0 < dk by omega)]; rfl
    · rw [sel_neg c, decide_eq_false c]; simp
  rw [sel_neg h2]
  by_cases h3 : kind = 3
  · rw [sel_pos h3, if_neg (show ¬ kind = 4 by omega), if_neg h1, if_neg h2, if_pos h3]
    by_cases c : dk = 3
    · rw [sel_pos c, decide_eq_true c, decide_eq_true (show 0 < dk by omega)]; rfl
    · rw [sel_neg c, decide_eq_false c]; simp
  rw [sel_neg h3]
  by_cases h4 : kind = 4
  · rw [sel_pos h4, if_pos h4, G124_eq, ocall_some]
    (try simp only [])
    rw [G28_is k (by omega) (stan, rrn, ()) (by (try simp only []); omega) (by (try simp only []); omega), ocall_some]
    by_cases c1 : dk = 0 <;> by_cases c2 : pan = [] <;> by_cases c3 : amt = 0 <;> by_cases c4 : code = [] <;> simp [sel_dec, c1, c2, c3, c4]
  rw [sel_neg h4, if_neg h4]
  by_cases h5 : kind = 5
  · rw [sel_pos h5, if_neg h1, if_neg h2, if_neg h3, if_pos h5]
    by_cases c : dk = 7
    · rw [sel_pos c, decide_eq_true c, decide_eq_true (show 0 < dk by omega)]; rfl
    · rw [sel_neg c, decide_eq_false c]; simp
  rw [sel_neg h5, if_neg h1, if_neg h2, if_neg h3, if_neg h5]
  by_cases c : dk = 0
  · rw [decide_eq_false (show ¬ 0 < dk by omega)]; simp
  · rw [decide_eq_false c]; simp

/-! steps -/
def zeroE : Entry := ((0, [], ()), 0, [], 0, [], 0, 0, ())
def zeroS : Step := (zeroE, [], [], 0, false, ())
set_option synthInstance.maxSize 4000 in
set_option synthInstance.maxHeartbeats 400000 in
instance decE : DecidableEq Entry := fun a b => inferInstanceAs (Decidable ((a : (Int × Txt × Unit) × Int × Txt × Int × Txt × Int × Int × Unit) = b))
def keyE (d : Deal) : Key := (d.2.2.2.1, d.2.2.2.2.1, ())
def mayK (e : Entry) (v : Event) (tries : Int) : Bool := eventOK v && decide (0 ≤ tries) && decide (tries ≤ 16) && (decide (e = zeroE) || entryOK e && decide (e.1 = keyE v.2.1))

theorem sameE (a b : Entry) : (sameI a.1.1 b.1.1 && (sameS a.1.2.1 b.1.2.1 && true) && (sameI a.2.1 b.2.1 && (sameS a.2.2.1 b.2.2.1 && (sameI a.2.2.2.1 b.2.2.2.1 && (sameS a.2.2.2.2.1 b.2.2.2.2.1 && (sameI a.2.2.2.2.2.1 b.2.2.2.2.2.1 && (sameI a.2.2.2.2.2.2.1 b.2.2.2.2.2.2.1 && true))))))) = decide (a = b) := by
  obtain ⟨⟨a1, a2, ⟨⟩⟩, a3, a4, a5, a6, a7, a8, ⟨⟩⟩ := a
  obtain ⟨⟨b1, b2, ⟨⟩⟩, b3, b4, b5, b6, b7, b8, ⟨⟩⟩ := b
  simp only [sameI, sameS]
  by_cases h : (((a1, a2, ()), a3, a4, a5, a6, a7, a8, ()) : Entry) = ((b1, b2, ()), b3, b4, b5, b6, b7, b8, ())
  · rw [decide_eq_true h]
    simp only [Prod.mk.injEq, and_true] at h
    obtain ⟨⟨h1, h2⟩, h3, h4, h5, h6, h7, h8⟩ := h
    simp [h1, h2, h3, h4, h5, h6, h7, h8]
  · rw [decide_eq_false h]
    simp only [Prod.mk.injEq, and_true] at h
    cases hb : (decide (a1 = b1) && (decide (a2 = b2) && true) && (decide (a3 = b3) && (decide (a4 = b4) && (decide (a5 = b5) && (decide (a6 = b6) && (decide (a7 = b7) && (decide (a8 = b8) && true))))))) with
    | false => rfl
    | true =>
      exfalso
      simp only [Bool.and_eq_true, decide_eq_true_eq, and_true] at hb
      exact h ⟨hb.1, hb.2⟩

theorem G122_is (k L : Nat) (h2 : 2 ≤ L) (hL : L ≤ 1000000) (hk : L + 100 < k) (e : Entry) (kind : Int) (d : Deal) (tries : Int) (hle : lensE L e) (hge : goodE e) (hl : lens L d) (hg : goodD d) :
    G122 k (e, (kind, d, ()), tries, ()) = some (mayK e (kind, d, ()) tries, ()) := by
  have hr := G49_is k L h2 hL hk kind d hl hg
  have he := G53_is k L h2 hL hk e hle hge
  have hs := sameE e zeroE
  have hkk := sameK e.1 (keyE d)
  rw [G122_eq]
  unfold mayK
  obtain ⟨⟨ks, kr, ⟨⟩⟩, state, pan, amt, code, tr, cause, ⟨⟩⟩ := e
  obtain ⟨dk, dpan, damt, stan, rrn, dcode, ⟨⟩⟩ := d
  (try simp only [] at *)
  rw [hr, ocall_some]
  generalize eventOK (kind, (dk, dpan, damt, stan, rrn, dcode, ()), ()) = b1
  cases b1 with
  | false => rfl
  | true =>
  simp only [Bool.not_true, sel_false, Bool.true_and]
  by_cases t0 : tries < 0
  · rw [sel_pos t0, decide_eq_false (show ¬ 0 ≤ tries by omega)]; rfl
  rw [sel_neg t0, decide_eq_true (show 0 ≤ tries by omega)]
  by_cases t1 : 16 < tries
  · rw [sel_pos t1, decide_eq_false (show ¬ tries ≤ 16 by omega)]; rfl
  rw [sel_neg t1, decide_eq_true (show tries ≤ 16 by omega)]
  simp only [Bool.true_and]
  have hs' : (sameI ks (OfNat.ofNat 0) && (sameS kr [] && true) && (sameI state (OfNat.ofNat 0) && (sameS pan [] && (sameI amt (OfNat.ofNat 0) && (sameS code [] && (sameI tr (OfNat.ofNat 0) && (sameI cause (OfNat.ofNat 0) && true))))))) = decide ((((ks, kr, ()), state, pan, amt, code, tr, cause, ()) : Entry) = zeroE) := hs
  rw [hs', he, ocall_some, G26_is, ocall_some]
  cases decide ((((ks, kr, ()), state, pan, amt, code, tr, cause, ()) : Entry) = zeroE) with
  | true => rfl
  | false =>
    simp only [sel_false, Bool.false_or]
    generalize entryOK ((ks, kr, ()), state, pan, amt, code, tr, cause, ()) = b2
    cases b2 with
    | false => rfl
    | true =>
      simp only [sel_true, Bool.true_and]
      have hkk' : (sameI ks stan && (sameS kr rrn && true)) = decide (((ks, kr, ()) : Key) = (stan, rrn, ())) := hkk
      rw [hkk']; rfl
end Go.Proofs.YtjgnpmdbkgeakaaDoor.G
