/- What steps of the core, one behind the other, keep; and what is final. -/
import Derived.Test.YtjgnpmdbkgeakaaDoorCore5
set_option linter.unusedVariables false
set_option linter.unusedSimpArgs false
set_option maxRecDepth 100000
namespace Go.Proofs.YtjgnpmdbkgeakaaDoor.G
open Go Go.Proofs.YtjgnpmdbkgeakaaDoor Th

theorem step_rests {e : Entry} {v : Event} {tries : Int} (h : mayK e v tries = true) (hf : e.2.1 = 2 ∨ e.2.1 = 3 ∨ e.2.1 = 5 ∨ e.2.1 = 6) (hne : (stepK e v tries).1 ≠ e) :
    (e.2.1 = 2 ∧ v.1 = 3 ∧ (stepK e v tries).1.2.1 = 4 ∧ (stepK e v tries).1.2.2.2.2.2.2.1 = 2) ∨ (e.2.1 = 6 ∧ v.1 = 5 ∧ (stepK e v tries).1.2.1 = 5) := by
  have hk := kind_parts (may_parts h).1
  unfold stepK at hne ⊢
  by_cases h1 : v.1 = 1
  · rw [if_pos h1, if_neg (by omega)] at hne
    split at hne
    · exact absurd rfl hne
    split at hne
    · exact absurd rfl hne
    · exact absurd rfl hne
  rw [if_neg h1] at hne ⊢
  by_cases h2 : v.1 = 2
  · rw [if_pos h2, if_neg (by omega)] at hne; exact absurd rfl hne
  rw [if_neg h2] at hne ⊢
  by_cases h3 : v.1 = 3
  · rw [if_pos h3, if_neg (by omega)] at hne ⊢
    split at hne
    · exact absurd rfl hne
    rename_i ho
    rw [if_neg ho]
    by_cases c2 : e.2.1 = 2
    · rw [if_pos c2]; exact .inl ⟨c2, h3, rfl, rfl⟩
    · rw [if_neg c2, if_neg (by omega)] at hne; exact absurd rfl hne
  rw [if_neg h3] at hne ⊢
  by_cases h4 : v.1 = 4
  · rw [if_pos h4, if_neg (by omega), if_neg (by omega)] at hne; exact absurd rfl hne
  rw [if_neg h4, if_neg (by omega)] at hne ⊢
  by_cases c6 : e.2.1 = 6
  · rw [if_pos c6]; exact .inr ⟨c6, by omega, rfl⟩
  · rw [if_neg c6] at hne; exact absurd rfl hne

/-! one behind the other -/
def foldA (sc : Txt) : List Deal → Txt → Option Txt
  | [], c => some c
  | d :: l, c => if d.1 = 2 ∧ ¬ (d.2.2.2.2.2.1 = [57, 52] ∧ sc ≠ [57, 52]) then (if c ≠ [] ∧ d.2.2.2.2.2.1 ≠ c then none else foldA sc l d.2.2.2.2.2.1) else foldA sc l c
def cntI (n : Int) : List Deal → Int
  | [] => 0
  | d :: l => (if d.1 = n then 1 else 0) + cntI n l
def OnceI (k : Key) (tries : Int) (e : Entry) (code : Txt) (asks adv ag : Int) : Prop :=
  code = e.2.2.2.2.1 ∧ lensE 300 e ∧ goodE e ∧
  (e = zeroE ∧ asks = 0 ∧ adv = 0 ∧ ag = 0 ∨ entryOK e = true ∧ e.1 = k ∧ asks = 1 ∧ adv = (if 4 ≤ e.2.1 then 1 else 0) ∧ ag = e.2.2.2.2.2.1 ∧ e.2.2.2.2.2.1 ≤ tries ∧ (e.2.2.2.2.2.2.1 = 1 → e.2.2.2.2.1 ≠ [48, 48]))

theorem once_step {e : Entry} {v : Event} {tries : Int} {k : Key} {code : Txt} {a b c : Int} (h : mayK e v tries = true) (hkk : keyE v.2.1 = k) (hi : OnceI k tries e code a b c) (hl : lens 300 v.2.1) (hg : goodD v.2.1) :
    foldA (stepK e v tries).1.2.2.2.2.1 (stepK e v tries).2.1 code = some (stepK e v tries).1.2.2.2.2.1 ∧ ¬ ((stepK e v tries).1.2.2.2.2.1 = [48, 48] ∧ (stepK e v tries).1.2.2.2.2.2.2.1 = 1) ∧
    OnceI k tries (stepK e v tries).1 (stepK e v tries).1.2.2.2.2.1 (a + cntI 1 (stepK e v tries).2.2.1) (b + cntI 5 (stepK e v tries).2.2.1) (c + cntI 6 (stepK e v tries).2.2.1) := by
  have hok := step_ok h
  obtain ⟨hv, t0, t16, he⟩ := may_parts h
  have hkind := kind_parts hv
  obtain ⟨rfl, hle, hge, hi⟩ := hi
  -- the entry stays, nothing goes to the issuer
  have same : ∀ (l : List Deal) (t : Int) (r : Bool), foldA e.2.2.2.2.1 l e.2.2.2.2.1 = some e.2.2.2.2.1 → ¬ (e.2.2.2.2.1 = [48, 48] ∧ e.2.2.2.2.2.2.1 = 1) →
      foldA e.2.2.2.2.1 l e.2.2.2.2.1 = some e.2.2.2.2.1 ∧ ¬ (e.2.2.2.2.1 = [48, 48] ∧ e.2.2.2.2.2.2.1 = 1) ∧ OnceI k tries e e.2.2.2.2.1 (a + cntI 1 []) (b + cntI 5 []) (c + cntI 6 []) := by
    intro l t r h1 h2
    refine ⟨h1, h2, rfl, hle, hge, ?_⟩
    simp only [cntI, Int.add_zero]
    exact hi
  have hc00 : ¬ (e.2.2.2.2.1 = [48, 48] ∧ e.2.2.2.2.2.2.1 = 1) := by
    rintro ⟨h1, h2⟩
    rcases hi with ⟨rfl, _⟩ | ⟨_, _, _, _, _, _, h3⟩
    · exact absurd h2 (by decide)
    · exact h3 h2 h1
  have f94 : foldA e.2.2.2.2.1 [told v 2 [57, 52]] e.2.2.2.2.1 = some e.2.2.2.2.1 := by
    by_cases hc : e.2.2.2.2.1 = [57, 52] <;> simp [foldA, told, hc]
  have fcode : foldA e.2.2.2.2.1 [told v 2 e.2.2.2.2.1] e.2.2.2.2.1 = some e.2.2.2.2.1 := by
    by_cases hc : e.2.2.2.2.1 = [57, 52] <;> simp [foldA, told, hc]
  have f4 : ∀ x, foldA e.2.2.2.2.1 [told v 4 x] e.2.2.2.2.1 = some e.2.2.2.2.1 := by
    intro x; simp [foldA, told]
  have fnil : foldA e.2.2.2.2.1 [] e.2.2.2.2.1 = some e.2.2.2.2.1 := rfl
  rcases hi with ⟨hz, ha, hb, hc⟩ | ⟨hE, hEk, ha, hb, hc, hct, hcc⟩
  · subst hz ha hb hc
    have hz : zeroE.2.1 = 0 := rfl
    unfold stepK at hok ⊢
    by_cases h1 : v.1 = 1
    · rw [if_pos h1, if_pos hz] at hok ⊢
      have hE := hok.1
      rcases hE with ⟨h0, _⟩ | ⟨hE, _⟩
      · exact absurd (congrArg (fun e : Entry => e.2.1) h0) (by simp [zeroE])
      refine ⟨rfl, fun h0 => absurd h0.2 (by simp), rfl, ⟨hl.2.1, hl.1, by simp⟩, ⟨⟨hg.2.1, hg.2.2⟩, hg.1⟩, .inr ⟨hE, hkk, ?_, ?_, ?_, t0, fun h0 => absurd h0 (by simp)⟩⟩ <;> simp [cntI]
    rw [if_neg h1] at ⊢
    by_cases h2 : v.1 = 2
    · rw [if_pos h2, if_neg (by rw [hz]; decide)]; exact same [] 0 false fnil hc00
    rw [if_neg h2]
    by_cases h3 : v.1 = 3
    · rw [if_pos h3, if_pos hz]; exact same _ 0 false (f4 _) hc00
    rw [if_neg h3]
    by_cases h4 : v.1 = 4
    · rw [if_pos h4, if_neg (by rw [hz]; decide), if_neg (by rw [hz]; decide)]; exact same [] 0 false fnil hc00
    · rw [if_neg h4, if_neg (by rw [hz]; decide), if_neg (by rw [hz]; decide)]; exact same [] 0 false fnil hc00
  · obtain ⟨q1, q2, q3, q4, q5⟩ := entry_parts.1 hE
    obtain ⟨s1, s6⟩ := staged_pos q5
    obtain ⟨key, state, pan, amt, code, tr, cause, ⟨⟩⟩ := e
    (try simp only [] at q1 q2 q3 q4 q5 s1 s6 hEk hb hc hct hcc)
    subst ha hb hc hEk
    obtain ⟨le1, le2, le3⟩ := hle
    unfold stepK at hok ⊢
    (try simp only [] at same hc00 f94 fcode f4 fnil le1 le2 le3 hok ⊢)
    by_cases h1 : v.1 = 1
    · rw [if_pos h1, if_neg (by omega)]
      split
      · exact same _ 0 false f94 hc00
      split
      · exact same _ 0 false fnil hc00
      · exact same _ 0 false fcode hc00
    rw [if_neg h1] at hok ⊢
    by_cases h2 : v.1 = 2
    · rw [if_pos h2] at hok ⊢
      by_cases c1 : state = 1
      case neg => rw [if_neg c1]; exact same _ 0 false fnil hc00
      rw [if_pos c1] at hok ⊢
      subst c1
      obtain ⟨rfl, rfl, rfl⟩ := staged1.1 q5
      have hE2 := hok.1
      rcases hE2 with ⟨h0, _⟩ | ⟨hE2, _⟩
      · have := congrArg (fun e : Entry => e.2.1) h0
        (try simp only [] at this)
        split at this <;> exact absurd this (by decide)
      refine ⟨?_, fun h0 => absurd h0.2 (by simp), rfl, ⟨le1, le2, hl.2.2⟩, hge, .inr ⟨hE2, rfl, ?_, ?_, ?_, t0, fun h0 => absurd h0 (by simp)⟩⟩
      · by_cases hcd : v.2.1.2.2.2.2.2.1 = [57, 52] <;> simp [foldA, told, hcd]
      · simp [cntI]
      · simp only [cntI]; split <;> split <;> simp_all
      · simp [cntI]
    rw [if_neg h2] at hok ⊢
    by_cases h3 : v.1 = 3
    · rw [if_pos h3, if_neg (by omega)] at hok ⊢
      split
      · exact same _ 0 false (f4 _) hc00
      rename_i ho
      rw [if_neg ho] at hok
      by_cases c2 : state = 2
      · rw [if_pos c2] at hok ⊢
        subst c2
        obtain ⟨rfl, rfl, rfl⟩ := staged2.1 q5
        have hE2 := hok.1
        rcases hE2 with ⟨h0, _⟩ | ⟨hE2, _⟩
        · exact absurd (congrArg (fun e : Entry => e.2.1) h0) (by simp [zeroE])
        refine ⟨f4 _, fun h0 => absurd h0.2 (by simp), rfl, ⟨le1, le2, le3⟩, hge, .inr ⟨hE2, rfl, ?_, ?_, ?_, t0, fun h0 => absurd h0 (by simp)⟩⟩ <;> simp [cntI, asked]
      rw [if_neg c2] at hok ⊢
      by_cases c1 : state = 1
      · rw [if_pos c1] at hok ⊢
        subst c1
        obtain ⟨rfl, rfl, rfl⟩ := staged1.1 q5
        have hE2 := hok.1
        rcases hE2 with ⟨h0, _⟩ | ⟨hE2, _⟩
        · exact absurd (congrArg (fun e : Entry => e.2.1) h0) (by simp [zeroE])
        refine ⟨by simp [foldA, told], fun h0 => absurd h0.2 (by simp), rfl, ⟨le1, le2, by simp⟩, hge, .inr ⟨hE2, rfl, ?_, ?_, ?_, t0, fun h0 => absurd h0 (by simp)⟩⟩ <;> simp [cntI, asked]
      · rw [if_neg c1]; exact same _ 0 false (f4 _) hc00
    rw [if_neg h3] at hok ⊢
    by_cases h4 : v.1 = 4
    · rw [if_pos h4] at hok ⊢
      by_cases c1 : state = 1
      · rw [if_pos c1] at hok ⊢
        subst c1
        obtain ⟨rfl, rfl, rfl⟩ := staged1.1 q5
        have hE2 := hok.1
        rcases hE2 with ⟨h0, _⟩ | ⟨hE2, _⟩
        · exact absurd (congrArg (fun e : Entry => e.2.1) h0) (by simp [zeroE])
        refine ⟨by simp [foldA, told], fun h0 => absurd h0.1 (by simp), rfl, ⟨le1, le2, by simp⟩, hge, .inr ⟨hE2, rfl, ?_, ?_, ?_, t0, fun _ => by simp⟩⟩ <;> simp [cntI, asked]
      rw [if_neg c1] at hok ⊢
      by_cases c4 : state = 4
      case neg => rw [if_neg c4]; exact same _ 0 false fnil hc00
      rw [if_pos c4] at hok ⊢
      subst c4
      by_cases ct : c < tries
      · rw [if_pos ct] at hok ⊢
        have hE2 := hok.1
        rcases hE2 with ⟨h0, _⟩ | ⟨hE2, _⟩
        · exact absurd (congrArg (fun e : Entry => e.2.1) h0) (by simp [zeroE])
        refine ⟨fnil, hc00, rfl, ⟨le1, le2, le3⟩, hge, .inr ⟨hE2, rfl, ?_, ?_, ?_, ?_, hcc⟩⟩
        · simp [cntI, asked]
        · simp [cntI, asked]
        · simp [cntI, asked]
        · (try simp only []); omega
      · rw [if_neg ct] at hok ⊢
        have hE2 := hok.1
        rcases hE2 with ⟨h0, _⟩ | ⟨hE2, _⟩
        · exact absurd (congrArg (fun e : Entry => e.2.1) h0) (by simp [zeroE])
        refine ⟨fnil, hc00, rfl, ⟨le1, le2, le3⟩, hge, .inr ⟨hE2, rfl, ?_, ?_, ?_, hct, hcc⟩⟩ <;> simp [cntI]
    rw [if_neg h4] at hok ⊢
    by_cases c4 : state = 4
    · rw [if_pos c4] at hok ⊢
      subst c4
      have hE2 := hok.1
      rcases hE2 with ⟨h0, _⟩ | ⟨hE2, _⟩
      · exact absurd (congrArg (fun e : Entry => e.2.1) h0) (by simp [zeroE])
      refine ⟨fnil, hc00, rfl, ⟨le1, le2, le3⟩, hge, .inr ⟨hE2, rfl, ?_, ?_, ?_, hct, hcc⟩⟩ <;> simp [cntI]
    rw [if_neg c4] at hok ⊢
    by_cases c6 : state = 6
    · rw [if_pos c6] at hok ⊢
      subst c6
      have hE2 := hok.1
      rcases hE2 with ⟨h0, _⟩ | ⟨hE2, _⟩
      · exact absurd (congrArg (fun e : Entry => e.2.1) h0) (by simp [zeroE])
      refine ⟨fnil, hc00, rfl, ⟨le1, le2, le3⟩, hge, .inr ⟨hE2, rfl, ?_, ?_, ?_, hct, hcc⟩⟩ <;> simp [cntI]
    · rw [if_neg c6]; exact same _ 0 false fnil hc00
end Go.Proofs.YtjgnpmdbkgeakaaDoor.G
