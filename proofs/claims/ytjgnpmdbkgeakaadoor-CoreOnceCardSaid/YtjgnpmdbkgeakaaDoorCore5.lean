/- What a step of the core keeps. -/
import Derived.Test.YtjgnpmdbkgeakaaDoorCore4
set_option linter.unusedVariables false
set_option linter.unusedSimpArgs false
set_option maxRecDepth 100000
namespace Go.Proofs.YtjgnpmdbkgeakaaDoor.G
open Go Go.Proofs.YtjgnpmdbkgeakaaDoor Th

theorem rf39 (s : Txt) : rightF 39 s = (decide (s.length = 2) && s.all Signs.plain) := by
  have : defOf 39 = some (39, 2, 2, ()) := rfl
  unfold rightF; rw [this]
  simp [sized, ahead, signs, Signs.signsOf]
  by_cases h : s.length = 2 <;> simp [h]; omega

theorem may_parts {e : Entry} {v : Event} {tries : Int} (h : mayK e v tries = true) : eventOK v = true ∧ 0 ≤ tries ∧ tries ≤ 16 ∧ (e = zeroE ∨ entryOK e = true ∧ e.1 = keyE v.2.1) := by
  unfold mayK at h
  simp only [Bool.and_eq_true, Bool.or_eq_true, decide_eq_true_eq] at h
  exact ⟨h.1.1.1, h.1.1.2, h.1.2, h.2⟩

theorem entry_parts {e : Entry} : entryOK e = true ↔ keyOK e.1 = true ∧ isFine e.2.2.1 = true ∧ e.2.2.1.length < 20 ∧ e.2.2.2.1 < 1000000000000 ∧ stagedOK e.2.1 e.2.2.2.2.1 e.2.2.2.2.2.1 e.2.2.2.2.2.2.1 = true := by
  unfold entryOK
  simp only [Bool.and_eq_true, decide_eq_true_eq, and_assoc]

theorem key_parts {k : Key} : keyOK k = true ↔ k.1 ≤ 999999 ∧ rightF 37 k.2.1 = true := by
  unfold keyOK
  simp only [Bool.and_eq_true, decide_eq_true_eq]

theorem ev_parts {v : Event} (h : eventOK v = true) : keyOK (keyE v.2.1) = true ∧ (v.1 = 4 ∨ dealOK v.2.1 = true ∧ v.2.1.1 = kindE v.1 ∧ 0 < v.2.1.1) := by
  unfold eventOK at h
  by_cases h4 : v.1 = 4
  · rw [if_pos h4] at h
    simp only [Bool.and_eq_true] at h
    exact ⟨h.2, .inl h4⟩
  · rw [if_neg h4] at h
    simp only [Bool.and_eq_true, decide_eq_true_eq] at h
    obtain ⟨⟨h1, h2⟩, h3⟩ := h
    have hd := h3
    unfold dealOK at hd
    simp only [Bool.and_eq_true, decide_eq_true_eq] at hd
    exact ⟨key_parts.2 ⟨hd.1.1.2, hd.1.2⟩, .inr ⟨h3, h2, h1⟩⟩

theorem ask_parts {v : Event} (h : eventOK v = true) (hk : v.1 = 1) : isFine v.2.1.2.1 = true ∧ v.2.1.2.1.length < 20 ∧ v.2.1.2.2.1 < 1000000000000 ∧ v.2.1.2.2.2.2.2.1 = [] := by
  rcases (ev_parts h).2 with h4 | ⟨hd, hk2, _⟩
  · omega
  · rw [hk] at hk2
    have : v.2.1.1 = 1 := hk2
    unfold dealOK at hd
    rw [this] at hd
    have ha : asksK 1 = true := by decide
    rw [if_pos ha] at hd
    simp only [Bool.and_eq_true, decide_eq_true_eq] at hd
    exact ⟨hd.2.1.1.1, hd.2.1.1.2, hd.2.1.2, hd.2.2⟩
theorem answer_parts {v : Event} (h : eventOK v = true) (hk : v.1 = 2) : rightF 39 v.2.1.2.2.2.2.2.1 = true := by
  rcases (ev_parts h).2 with h4 | ⟨hd, hk2, _⟩
  · omega
  · rw [hk] at hk2
    have : v.2.1.1 = 2 := hk2
    unfold dealOK at hd
    rw [this] at hd
    have ha : ¬ asksK 2 = true := by decide
    rw [if_neg ha] at hd
    simp only [Bool.and_eq_true, decide_eq_true_eq] at hd
    exact hd.2.1.1
theorem kind_parts {v : Event} (h : eventOK v = true) : v.1 = 1 ∨ v.1 = 2 ∨ v.1 = 3 ∨ v.1 = 4 ∨ v.1 = 5 := by
  rcases (ev_parts h).2 with h4 | ⟨hd, hk2, hp⟩
  · omega
  · unfold kindE at hk2
    split at hk2
    · omega
    split at hk2
    · omega
    split at hk2
    · omega
    split at hk2
    · omega
    · omega

theorem told_ok {v : Event} (hk : keyOK (keyE v.2.1) = true) {kind : Int} (h : kind = 2 ∨ kind = 4) {code : Txt} (hc : rightF 39 code = true) : dealOK (told v kind code) = true := by
  obtain ⟨h1, h2⟩ := key_parts.1 hk
  have h1' : v.2.1.2.2.2.1 ≤ 999999 := h1
  have h2' : rightF 37 v.2.1.2.2.2.2.1 = true := h2
  unfold dealOK told
  have ha : ¬ asksK kind = true := by rcases h with h | h <;> rw [h] <;> decide
  rw [if_neg ha]
  simp only [h2', hc, decide_eq_true h1', decide_true, Bool.and_true]
  rcases h with h | h <;> rw [h] <;> rfl
theorem asked_ok {e : Entry} (hk : keyOK e.1 = true) (hf : isFine e.2.2.1 = true) (hl : e.2.2.1.length < 20) (ha : e.2.2.2.1 < 1000000000000) {kind : Int} (h : kind = 1 ∨ kind = 5 ∨ kind = 6) : dealOK (asked e kind) = true := by
  obtain ⟨h1, h2⟩ := key_parts.1 hk
  unfold dealOK asked
  have hq : asksK kind = true := by rcases h with h | h | h <;> rw [h] <;> decide
  rw [if_pos hq]
  simp only [h2, hf, decide_eq_true h1, decide_eq_true hl, decide_eq_true ha, decide_true, Bool.and_true]
  rcases h with h | h | h <;> rw [h] <;> rfl

/-- what a step tells, and keeps -/
def StepOK (e : Entry) (v : Event) (s : Step) : Prop :=
  (s.1 = zeroE ∧ e = zeroE ∨ entryOK s.1 = true ∧ s.1.1 = keyE v.2.1) ∧ (0 < e.2.1 → s.1.2.2.1 = e.2.2.1 ∧ s.1.2.2.2.1 = e.2.2.2.1 ∧ (e.2.2.2.2.1 ≠ [] → s.1.2.2.2.2.1 = e.2.2.2.2.1)) ∧
  (∀ d ∈ s.2.1, dealOK d = true ∧ keyE d = keyE v.2.1 ∧ (d.1 = 2 ∨ d.1 = 4) ∧ (d.1 = 2 → d.2.2.2.2.2.1 = s.1.2.2.2.2.1 ∨ d.2.2.2.2.2.1 = [57, 52])) ∧
  (∀ d ∈ s.2.2.1, dealOK d = true ∧ keyE d = keyE v.2.1 ∧ s.2.2.2.1 = 1 ∧ (d.1 = 1 ↔ e.2.1 = 0) ∧ d.2.1 = s.1.2.2.1 ∧ d.2.2.1 = s.1.2.2.2.1) ∧
  (s.2.2.2.2.1 = true → s.1.2.1 = 6 ∧ e.2.1 = 4) ∧ s.2.1.length ≤ 2 ∧ s.2.2.1.length ≤ 1

theorem staged4 {state : Int} {code : Txt} {tries cause : Int} (h : state = 4 ∨ state = 5 ∨ state = 6) : stagedOK state code tries cause = true ↔ rightF 39 code = true ∧ 0 ≤ tries ∧ tries ≤ 16 ∧ (cause = 1 ∨ cause = 2) := by
  unfold stagedOK
  rw [if_neg (by omega), if_neg (by omega), if_neg (by omega), if_pos h]
  simp only [Bool.and_eq_true, decide_eq_true_eq, and_assoc]
theorem staged1 {code : Txt} {tries cause : Int} : stagedOK 1 code tries cause = true ↔ tries = 0 ∧ cause = 0 ∧ code = [] := by
  unfold stagedOK
  rw [if_pos rfl]
  simp only [Bool.and_eq_true, decide_eq_true_eq, and_assoc]
theorem staged2 {code : Txt} {tries cause : Int} : stagedOK 2 code tries cause = true ↔ tries = 0 ∧ cause = 0 ∧ code = [48, 48] := by
  unfold stagedOK
  rw [if_neg (by omega), if_pos rfl]
  simp only [Bool.and_eq_true, decide_eq_true_eq, and_assoc]
theorem staged3 {code : Txt} {tries cause : Int} : stagedOK 3 code tries cause = true ↔ tries = 0 ∧ cause = 0 ∧ code ≠ [48, 48] ∧ rightF 39 code = true := by
  unfold stagedOK
  rw [if_neg (by omega), if_neg (by omega), if_pos rfl]
  simp [and_assoc]
theorem code_of {e : Entry} (h : entryOK e = true) (h1 : e.2.1 ≠ 1) : rightF 39 e.2.2.2.2.1 = true := by
  have hs := (entry_parts.1 h).2.2.2.2
  obtain ⟨a, b⟩ := staged_pos hs
  have hc : e.2.1 = 2 ∨ e.2.1 = 3 ∨ e.2.1 = 4 ∨ e.2.1 = 5 ∨ e.2.1 = 6 := by omega
  rcases hc with c | c | c | c | c
  · rw [c] at hs
    rw [(staged2.1 hs).2.2]; rfl
  · rw [c] at hs
    exact (staged3.1 hs).2.2.2
  · exact ((staged4 (by omega)).1 hs).1
  · exact ((staged4 (by omega)).1 hs).1
  · exact ((staged4 (by omega)).1 hs).1

theorem step_ok {e : Entry} {v : Event} {tries : Int} (h : mayK e v tries = true) : StepOK e v (stepK e v tries) := by
  obtain ⟨hv, t0, t16, he⟩ := may_parts h
  obtain ⟨hk, _⟩ := ev_parts hv
  have hkk := kind_parts hv
  rcases he with he | ⟨he, hke⟩
  · subst he
    have hz : zeroE.2.1 = 0 := rfl
    unfold stepK
    by_cases h1 : v.1 = 1
    · obtain ⟨p1, p2, p3, p4⟩ := ask_parts hv h1
      rw [if_pos h1, if_pos hz]
      refine ⟨.inr ⟨entry_parts.2 ⟨hk, p1, p2, p3, ?_⟩, rfl⟩, fun h0 => absurd h0 (by decide), fun d hd => absurd hd (by simp), ?_, fun h => absurd h (by simp), by simp, by simp⟩
      · exact staged1.2 ⟨rfl, rfl, rfl⟩
      · intro d hd
        simp only [List.mem_singleton] at hd
        subst hd
        exact ⟨asked_ok (e := (keyE v.2.1, 1, v.2.1.2.1, v.2.1.2.2.1, [], 0, 0, ())) hk p1 p2 p3 (.inl rfl), rfl, rfl, ⟨fun _ => rfl, fun _ => rfl⟩, rfl, rfl⟩
    rw [if_neg h1]
    by_cases h2 : v.1 = 2
    · rw [if_pos h2, if_neg (by rw [hz]; decide)]
      exact ⟨.inl ⟨rfl, rfl⟩, fun h0 => absurd h0 (by decide), fun d hd => absurd hd (by simp), fun d hd => absurd hd (by simp), fun h => absurd h (by simp), by simp, by simp⟩
    rw [if_neg h2]
    by_cases h3 : v.1 = 3
    · rw [if_pos h3, if_pos hz]
      refine ⟨.inl ⟨rfl, rfl⟩, fun h0 => absurd h0 (by decide), ?_, fun d hd => absurd hd (by simp), fun h => absurd h (by simp), by simp, by simp⟩
      intro d hd
      simp only [List.mem_singleton] at hd
      subst hd
      exact ⟨told_ok hk (.inr rfl) (by rfl), rfl, .inr rfl, fun h => absurd h (by simp [told])⟩
    rw [if_neg h3]
    by_cases h4 : v.1 = 4
    · rw [if_pos h4, if_neg (by rw [hz]; decide), if_neg (by rw [hz]; decide)]
      exact ⟨.inl ⟨rfl, rfl⟩, fun h0 => absurd h0 (by decide), fun d hd => absurd hd (by simp), fun d hd => absurd hd (by simp), fun h => absurd h (by simp), by simp, by simp⟩
    · rw [if_neg h4, if_neg (by rw [hz]; decide), if_neg (by rw [hz]; decide)]
      exact ⟨.inl ⟨rfl, rfl⟩, fun h0 => absurd h0 (by decide), fun d hd => absurd hd (by simp), fun d hd => absurd hd (by simp), fun h => absurd h (by simp), by simp, by simp⟩
  · obtain ⟨q1, q2, q3, q4, q5⟩ := entry_parts.1 he
    obtain ⟨s1, s6⟩ := staged_pos q5
    have hce := code_of he
    obtain ⟨key, state, pan, amt, code, tr, cause, ⟨⟩⟩ := e
    (try simp only [] at q1 q2 q3 q4 q5 s1 s6 hce hke)
    unfold stepK
    (try simp only [])
    have same : ∀ (l : List Deal) (t : Int), (∀ d ∈ l, dealOK d = true ∧ keyE d = keyE v.2.1 ∧ (d.1 = 2 ∨ d.1 = 4) ∧ (d.1 = 2 → d.2.2.2.2.2.1 = code ∨ d.2.2.2.2.2.1 = [57, 52])) → l.length ≤ 2 →
        StepOK (key, state, pan, amt, code, tr, cause, ()) v ((key, state, pan, amt, code, tr, cause, ()), l, [], t, false, ()) := by
      intro l t hl hn
      exact ⟨.inr ⟨he, hke⟩, fun _ => ⟨rfl, rfl, fun _ => rfl⟩, hl, fun d hd => absurd hd (by simp), fun h => absurd h (by simp), hn, by simp⟩
    have tell : ∀ (kind : Int) (c : Txt), kind = 2 ∨ kind = 4 → rightF 39 c = true → (kind = 2 → c = code ∨ c = [57, 52]) →
        (∀ d ∈ [told v kind c], dealOK d = true ∧ keyE d = keyE v.2.1 ∧ (d.1 = 2 ∨ d.1 = 4) ∧ (d.1 = 2 → d.2.2.2.2.2.1 = code ∨ d.2.2.2.2.2.1 = [57, 52])) := by
      intro kind c h1 h2 h3 d hd
      simp only [List.mem_singleton] at hd
      subst hd
      exact ⟨told_ok hk h1 h2, rfl, h1, h3⟩
    have nil : ∀ d ∈ ([] : List Deal), dealOK d = true ∧ keyE d = keyE v.2.1 ∧ (d.1 = 2 ∨ d.1 = 4) ∧ (d.1 = 2 → d.2.2.2.2.2.1 = code ∨ d.2.2.2.2.2.1 = [57, 52]) := fun d hd => absurd hd (by simp)
    have r94 : rightF 39 [57, 52] = true := by rfl
    have r00 : rightF 39 [48, 48] = true := by rfl
    have ask1 : ∀ kind : Int, kind = 5 ∨ kind = 6 → ∀ st : Entry, st.2.2.1 = pan → st.2.2.2.1 = amt → (∀ d ∈ [asked (key, state, pan, amt, code, tr, cause, ()) kind], dealOK d = true ∧ keyE d = keyE v.2.1 ∧ (1 : Int) = 1 ∧ (d.1 = 1 ↔ state = 0) ∧ d.2.1 = st.2.2.1 ∧ d.2.2.1 = st.2.2.2.1) := by
      intro kind hkind st e1 e2 d hd
      simp only [List.mem_singleton] at hd
      subst hd
      refine ⟨asked_ok q1 q2 q3 q4 (.inr hkind), hke, rfl, ⟨fun h => ?_, fun h => ?_⟩, e1.symm, e2.symm⟩
      · simp only [asked] at h; omega
      · omega
    by_cases h1 : v.1 = 1
    · rw [if_pos h1, if_neg (by omega)]
      by_cases ho : oddK (key, state, pan, amt, code, tr, cause, ()) v = true
      · rw [if_pos ho]
        exact same _ _ (tell 2 [57, 52] (.inl rfl) r94 (fun _ => .inr rfl)) (by simp)
      rw [if_neg ho]
      by_cases c1 : state = 1
      · rw [if_pos c1]; exact same _ _ nil (by simp)
      · rw [if_neg c1]; exact same _ _ (tell 2 code (.inl rfl) (hce c1) (fun _ => .inl rfl)) (by simp)
    rw [if_neg h1]
    by_cases h2 : v.1 = 2
    · rw [if_pos h2]
      by_cases c1 : state = 1
      case neg => rw [if_neg c1]; exact same _ _ nil (by simp)
      rw [if_pos c1]
      have ra := answer_parts hv h2
      subst c1
      obtain ⟨rfl, rfl, rfl⟩ := staged1.1 q5
      refine ⟨.inr ⟨entry_parts.2 ⟨q1, q2, q3, q4, ?_⟩, hke⟩, fun _ => ⟨rfl, rfl, fun h => absurd rfl h⟩, ?_, fun d hd => absurd hd (by simp), fun h => absurd h (by simp), by simp, by simp⟩
      · by_cases cc : v.2.1.2.2.2.2.2.1 = [48, 48]
        · simp only [if_pos cc]; exact staged2.2 ⟨rfl, rfl, cc⟩
        · simp only [if_neg cc]; exact staged3.2 ⟨rfl, rfl, cc, ra⟩
      · intro d hd
        simp only [List.mem_singleton] at hd
        subst hd
        exact ⟨told_ok hk (.inl rfl) ra, rfl, .inl rfl, fun _ => .inl rfl⟩
    rw [if_neg h2]
    by_cases h3 : v.1 = 3
    · rw [if_pos h3, if_neg (by omega)]
      by_cases ho : oddK (key, state, pan, amt, code, tr, cause, ()) v = true
      · rw [if_pos ho]
        exact same _ _ (tell 4 [57, 52] (.inr rfl) r94 (fun h => absurd h (by decide))) (by simp)
      rw [if_neg ho]
      by_cases c2 : state = 2
      · rw [if_pos c2]
        subst c2
        obtain ⟨rfl, rfl, rfl⟩ := staged2.1 q5
        refine ⟨.inr ⟨entry_parts.2 ⟨q1, q2, q3, q4, (staged4 (.inl rfl)).2 ⟨r00, (by show (0 : Int) ≤ 0; decide), (by show (0 : Int) ≤ 16; decide), .inr rfl⟩⟩, hke⟩, fun _ => ⟨rfl, rfl, fun _ => rfl⟩, tell 4 [48, 48] (.inr rfl) r00 (fun h => absurd h (by decide)), ask1 5 (.inl rfl) _ rfl rfl, fun h => absurd h (by simp), by simp, by simp⟩
      rw [if_neg c2]
      by_cases c1 : state = 1
      · rw [if_pos c1]
        subst c1
        obtain ⟨rfl, rfl, rfl⟩ := staged1.1 q5
        refine ⟨.inr ⟨entry_parts.2 ⟨q1, q2, q3, q4, (staged4 (.inl rfl)).2 ⟨by rfl, (by show (0 : Int) ≤ 0; decide), (by show (0 : Int) ≤ 16; decide), .inr rfl⟩⟩, hke⟩, fun _ => ⟨rfl, rfl, fun h => absurd rfl h⟩, ?_, ask1 5 (.inl rfl) _ rfl rfl, fun h => absurd h (by simp), by simp, by simp⟩
        intro d hd
        simp only [List.mem_cons, List.not_mem_nil, or_false] at hd
        rcases hd with rfl | rfl
        · exact ⟨told_ok hk (.inl rfl) (by rfl), rfl, .inl rfl, fun _ => .inl rfl⟩
        · exact ⟨told_ok hk (.inr rfl) (by rfl), rfl, .inr rfl, fun h => absurd h (by simp [told])⟩
      · rw [if_neg c1]
        exact same _ _ (tell 4 [48, 48] (.inr rfl) r00 (fun h => absurd h (by decide))) (by simp)
    rw [if_neg h3]
    by_cases h4 : v.1 = 4
    · rw [if_pos h4]
      by_cases c1 : state = 1
      · rw [if_pos c1]
        subst c1
        obtain ⟨rfl, rfl, rfl⟩ := staged1.1 q5
        refine ⟨.inr ⟨entry_parts.2 ⟨q1, q2, q3, q4, (staged4 (.inl rfl)).2 ⟨by rfl, (by show (0 : Int) ≤ 0; decide), (by show (0 : Int) ≤ 16; decide), .inl rfl⟩⟩, hke⟩, fun _ => ⟨rfl, rfl, fun h => absurd rfl h⟩, ?_, ask1 5 (.inl rfl) _ rfl rfl, fun h => absurd h (by simp), by simp, by simp⟩
        intro d hd
        simp only [List.mem_singleton] at hd
        subst hd
        exact ⟨told_ok hk (.inl rfl) (by rfl), rfl, .inl rfl, fun _ => .inl rfl⟩
      rw [if_neg c1]
      by_cases c4 : state = 4
      case neg => rw [if_neg c4]; exact same _ _ nil (by simp)
      rw [if_pos c4]
      subst c4
      obtain ⟨r1, r2, r3, r4⟩ := (staged4 (.inl rfl)).1 q5
      by_cases ct : tr < tries
      · rw [if_pos ct]
        exact ⟨.inr ⟨entry_parts.2 ⟨q1, q2, q3, q4, (staged4 (.inl rfl)).2 ⟨r1, by (try simp only []); omega, by (try simp only []); omega, r4⟩⟩, hke⟩, fun _ => ⟨rfl, rfl, fun _ => rfl⟩, nil, ask1 6 (.inr rfl) _ rfl rfl, fun h => absurd h (by simp), by simp, by simp⟩
      · rw [if_neg ct]
        exact ⟨.inr ⟨entry_parts.2 ⟨q1, q2, q3, q4, (staged4 (.inr (.inr rfl))).2 ⟨r1, r2, r3, r4⟩⟩, hke⟩, fun _ => ⟨rfl, rfl, fun _ => rfl⟩, nil, fun d hd => absurd hd (by simp), fun _ => ⟨rfl, rfl⟩, by simp, by simp⟩
    rw [if_neg h4]
    by_cases c4 : state = 4
    · rw [if_pos c4]
      subst c4
      exact ⟨.inr ⟨entry_parts.2 ⟨q1, q2, q3, q4, (staged4 (.inr (.inl rfl))).2 ((staged4 (.inl rfl)).1 q5)⟩, hke⟩, fun _ => ⟨rfl, rfl, fun _ => rfl⟩, nil, fun d hd => absurd hd (by simp), fun h => absurd h (by simp), by simp, by simp⟩
    rw [if_neg c4]
    by_cases c6 : state = 6
    · rw [if_pos c6]
      subst c6
      exact ⟨.inr ⟨entry_parts.2 ⟨q1, q2, q3, q4, (staged4 (.inr (.inl rfl))).2 ((staged4 (.inr (.inr rfl))).1 q5)⟩, hke⟩, fun _ => ⟨rfl, rfl, fun _ => rfl⟩, nil, fun d hd => absurd hd (by simp), fun h => absurd h (by simp), by simp, by simp⟩
    · rw [if_neg c6]; exact same _ _ nil (by simp)
end Go.Proofs.YtjgnpmdbkgeakaaDoor.G
