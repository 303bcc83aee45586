/- A deal and its message: there and back. -/
import Derived.Test.YtjgnpmdbkgeakaaDoorDeal3
set_option linter.unusedVariables false
set_option linter.unusedSimpArgs false
set_option maxRecDepth 100000
namespace Go.Proofs.YtjgnpmdbkgeakaaDoor.G
open Go Go.Proofs.YtjgnpmdbkgeakaaDoor Th

theorem kindT_type {kind : Int} (h1 : 1 ≤ kind) (h7 : kind ≤ 7) : kindT (typeK kind) = kind := by
  have : kind = 1 ∨ kind = 2 ∨ kind = 3 ∨ kind = 4 ∨ kind = 5 ∨ kind = 6 ∨ kind = 7 := by omega
  rcases this with rfl | rfl | rfl | rfl | rfl | rfl | rfl <;> decide

theorem getOK_stan {stan : Int} (h0 : 0 ≤ stan) (h : stan ≤ 999999) : IntKind.u32.wrap (((getOK (stanT stan)).1 : Nat) : Int) = stan := by
  rw [stanT_of h0 h, get_digs 6 stan.toNat (by omega) (by omega) (by show stan.toNat < 1000000; omega)]
  (try simp only [])
  rw [wrapu32 (by omega) (by omega)]
  omega
theorem getOK_amt {amt : Int} (h0 : 0 ≤ amt) (h : amt < 1000000000000) : (((getOK (amtT amt)).1 : Nat) : Int) = amt := by
  rw [amtT_of h0 h, get_digs 12 amt.toNat (by omega) (by omega) (by show amt.toNat < 1000000000000; omega)]
  (try simp only [])
  omega

theorem ok_parts {d : Deal} (h : dealOK d = true) : 1 ≤ d.1 ∧ d.1 ≤ 7 ∧ d.2.2.2.1 ≤ 999999 ∧ rightF 37 d.2.2.2.2.1 = true ∧
    ((asksK d.1 = true ∧ isFine d.2.1 = true ∧ d.2.1.length < 20 ∧ d.2.2.1 < 1000000000000 ∧ d.2.2.2.2.2.1 = []) ∨ (asksK d.1 = false ∧ rightF 39 d.2.2.2.2.2.1 = true ∧ d.2.1 = [] ∧ d.2.2.1 = 0)) := by
  unfold dealOK at h
  simp only [Bool.and_eq_true, decide_eq_true_eq] at h
  obtain ⟨⟨⟨⟨h1, h2⟩, h3⟩, h4⟩, h5⟩ := h
  refine ⟨h1, h2, h3, h4, ?_⟩
  cases ca : asksK d.1 with
  | true =>
    rw [ca, if_pos rfl] at h5
    simp only [Bool.and_eq_true, decide_eq_true_eq] at h5
    exact .inl ⟨rfl, h5.1.1.1, h5.1.1.2, h5.1.2, h5.2⟩
  | false =>
    rw [ca, if_neg (by simp)] at h5
    simp only [Bool.and_eq_true, decide_eq_true_eq] at h5
    exact .inr ⟨rfl, h5.1.1, h5.1.2, h5.2⟩

theorem ok_right {d : Deal} (hg : goodD d) (h : dealOK d = true) : msgRight (typeK d.1, itemsK d, ()) = true := by
  obtain ⟨kind, pan, amt, stan, rrn, code, ⟨⟩⟩ := d
  have e := right_eq kind pan amt stan rrn code hg.1.1 hg.2.1
  rw [h] at e
  split at e
  · simp only [Bool.and_eq_true] at e; exact e.2
  · simp only [Bool.and_eq_true] at e; exact e.2

theorem read_write_deal {d : Deal} (hg : goodD d) (h : dealOK d = true) : readD (typeK d.1, itemsK d, ()) = (d, 0) := by
  have hm := ok_right hg h
  obtain ⟨h1, h7, h3, h4, h5⟩ := ok_parts h
  unfold readD
  rw [if_pos hm]
  unfold deM
  simp only [kindT_type h1 h7]
  rw [if_pos (items_must d)]
  obtain ⟨kind, pan, amt, stan, rrn, code, ⟨⟩⟩ := d
  obtain ⟨⟨ha0, ha⟩, hs0, hs⟩ := hg
  (try simp only [] at *)
  rcases h5 with ⟨ca, cf, cl, cm, rfl⟩ | ⟨ca, cc, rfl, rfl⟩
  · by_cases c56 : kind = 5 ∨ kind = 6
    · have e5 : itemsK (kind, pan, amt, stan, rrn, [], ()) = [(2, pan, ()), (4, amtT amt, ()), (11, stanT stan, ()), (37, rrn, ()), (90, originT stan, ())] := by
        unfold itemsK; (try simp only []); rw [if_pos ca, if_pos (by omega)]; rfl
      have g2 : (getM 2 [((2 : Int), pan, ()), (4, amtT amt, ()), (11, stanT stan, ()), (37, rrn, ()), (90, originT stan, ())]).1 = pan := by simp [getM]
      have g4 : numM 4 [((2 : Int), pan, ()), (4, amtT amt, ()), (11, stanT stan, ()), (37, rrn, ()), (90, originT stan, ())] = amt := by simp [numM, getM, getOK_amt ha0 cm]
      have g11 : (getM 11 [((2 : Int), pan, ()), (4, amtT amt, ()), (11, stanT stan, ()), (37, rrn, ()), (90, originT stan, ())]).1 = stanT stan := by simp [getM]
      have g11' : IntKind.u32.wrap (numM 11 [((2 : Int), pan, ()), (4, amtT amt, ()), (11, stanT stan, ()), (37, rrn, ()), (90, originT stan, ())]) = stan := by simp [numM, getM, getOK_stan hs0 h3]
      have g37 : (getM 37 [((2 : Int), pan, ()), (4, amtT amt, ()), (11, stanT stan, ()), (37, rrn, ()), (90, originT stan, ())]).1 = rrn := by simp [getM]
      have g39 : (getM 39 [((2 : Int), pan, ()), (4, amtT amt, ()), (11, stanT stan, ()), (37, rrn, ()), (90, originT stan, ())]).1 = [] := by simp [getM]
      have g90 : (getM 90 [((2 : Int), pan, ()), (4, amtT amt, ()), (11, stanT stan, ()), (37, rrn, ()), (90, originT stan, ())]).1 = originT stan := by simp [getM]
      rw [e5, g2, g4, g11, g11', g37, g39, g90, cf, if_neg (by simp), if_neg (fun e => e.2 rfl)]
    · have e4 : itemsK (kind, pan, amt, stan, rrn, [], ()) = [(2, pan, ()), (4, amtT amt, ()), (11, stanT stan, ()), (37, rrn, ())] := by
        unfold itemsK; (try simp only []); rw [if_pos ca, if_neg (fun e => c56 (kind_five.1 ⟨ca, e⟩))]; rfl
      have g2 : (getM 2 [((2 : Int), pan, ()), (4, amtT amt, ()), (11, stanT stan, ()), (37, rrn, ())]).1 = pan := by simp [getM]
      have g4 : numM 4 [((2 : Int), pan, ()), (4, amtT amt, ()), (11, stanT stan, ()), (37, rrn, ())] = amt := by simp [numM, getM, getOK_amt ha0 cm]
      have g11' : IntKind.u32.wrap (numM 11 [((2 : Int), pan, ()), (4, amtT amt, ()), (11, stanT stan, ()), (37, rrn, ())]) = stan := by simp [numM, getM, getOK_stan hs0 h3]
      have g37 : (getM 37 [((2 : Int), pan, ()), (4, amtT amt, ()), (11, stanT stan, ()), (37, rrn, ())]).1 = rrn := by simp [getM]
      have g39 : (getM 39 [((2 : Int), pan, ()), (4, amtT amt, ()), (11, stanT stan, ()), (37, rrn, ())]).1 = [] := by simp [getM]
      rw [e4, g2, g4, g11', g37, g39, cf, if_neg (by simp), if_neg (fun e => c56 e.1)]
  · have e3 : itemsK (kind, [], 0, stan, rrn, code, ()) = [(11, stanT stan, ()), (37, rrn, ()), (39, code, ())] := by
      unfold itemsK; (try simp only []); rw [if_neg (by rw [ca]; simp)]
    have g2 : (getM 2 [((11 : Int), stanT stan, ()), (37, rrn, ()), (39, code, ())]).1 = [] := by simp [getM]
    have g4 : numM 4 [((11 : Int), stanT stan, ()), (37, rrn, ()), (39, code, ())] = 0 := by simp [numM, getM, getOK]
    have g11' : IntKind.u32.wrap (numM 11 [((11 : Int), stanT stan, ()), (37, rrn, ()), (39, code, ())]) = stan := by simp [numM, getM, getOK_stan hs0 h3]
    have g37 : (getM 37 [((11 : Int), stanT stan, ()), (37, rrn, ()), (39, code, ())]).1 = rrn := by simp [getM]
    have g39 : (getM 39 [((11 : Int), stanT stan, ()), (37, rrn, ()), (39, code, ())]).1 = code := by simp [getM]
    rw [e3, g2, g4, g11', g37, g39, if_neg (fun e => by rw [ca] at e; cases e.1), if_neg (fun e => by rw [(kind_five.2 e.1).1] at ca; cases ca)]

theorem readD_bad {m : Msg} (h : (readD m).2 ≠ 0) : (readD m).1 = zeroD := by
  unfold readD at *
  split at h
  · rename_i h1; rw [if_pos h1]
    split at h
    · rename_i h2; rw [if_pos h2]
      split at h
      · rename_i h3; rw [if_pos h3]
      · rename_i h3; rw [if_neg h3]
        split at h
        · rename_i h4; rw [if_pos h4]
        · exact absurd rfl h
    · rename_i h2; rw [if_neg h2]
  · rename_i h1; rw [if_neg h1]

theorem readD_ok {m : Msg} (h : (readD m).2 = 0) : msgRight m = true ∧ m.2.1.map (·.1) = mustK (kindT m.1) ∧ (asksK (kindT m.1) = true → isFine (getM 2 m.2.1).1 = true) ∧
    ((kindT m.1 = 5 ∨ kindT m.1 = 6) → (getM 90 m.2.1).1 = [48, 49, 48, 48] ++ (getM 11 m.2.1).1 ++ zeros) ∧ (readD m).1 = deM m := by
  unfold readD at *
  split at h
  · rename_i h1; rw [if_pos h1]
    split at h
    · rename_i h2; rw [if_pos h2]
      split at h
      · exact absurd h (by decide)
      · rename_i h3; rw [if_neg h3]
        split at h
        · exact absurd h (by decide)
        · rename_i h4; rw [if_neg h4]
          refine ⟨h1, h2, fun e => ?_, fun e => ?_, rfl⟩
          · cases hf : isFine (getM 2 m.2.1).1 with
            | true => rfl
            | false => exact absurd ⟨e, hf⟩ h3
          · exact Decidable.byContradiction fun hc => h4 ⟨e, hc⟩
    · exact absurd h (by decide)
  · exact absurd h (by decide)

theorem good_deM (m : Msg) : goodD (deM m) := ⟨numM_good _ _, wrap32_good _⟩

theorem write_read_deal {m : Msg} (h : (readD m).2 = 0) : (typeK (deM m).1, itemsK (deM m), ()) = m ∧ dealOK (deM m) = true := by
  obtain ⟨h1, h2, h3, h4, _⟩ := readD_ok h
  obtain ⟨typ, l, ⟨⟩⟩ := m
  obtain ⟨r1, r2⟩ := items_right h1
  (try simp only [] at r1 r2 h2 h3 h4)
  obtain ⟨k1, k7, kt⟩ := kindT_known r2
  have hit : itemsK (deM (typ, l, ())) = l ∧ (if asksK (kindT typ) = true then (getM 39 l).1 = [] else ((getM 2 l).1 = [] ∧ numM 4 l = 0)) := by
    unfold deM
    (try simp only [])
    have hm := h2
    unfold mustK at hm
    by_cases c56 : kindT typ = 5 ∨ kindT typ = 6
    · rw [if_pos c56] at hm
      have ca := (kind_five.2 c56).1
      have h9 := h4 c56
      obtain ⟨a, b, c, d, e, rfl⟩ := items5 hm
      simp only [itemsOK, Bool.and_eq_true] at r1
      obtain ⟨_, ab⟩ := amt_back r1.2.1.2
      obtain ⟨_, _, sb, _⟩ := stan_back r1.2.2.1.2
      have g2 : (getM 2 [((2 : Int), a, ()), (4, b, ()), (11, c, ()), (37, d, ()), (90, e, ())]).1 = a := by simp [getM]
      have g4 : numM 4 [((2 : Int), a, ()), (4, b, ()), (11, c, ()), (37, d, ()), (90, e, ())] = (((getOK b).1 : Nat) : Int) := by simp [numM, getM]
      have g11 : (getM 11 [((2 : Int), a, ()), (4, b, ()), (11, c, ()), (37, d, ()), (90, e, ())]).1 = c := by simp [getM]
      have g11' : numM 11 [((2 : Int), a, ()), (4, b, ()), (11, c, ()), (37, d, ()), (90, e, ())] = (((getOK c).1 : Nat) : Int) := by simp [numM, getM]
      have g37 : (getM 37 [((2 : Int), a, ()), (4, b, ()), (11, c, ()), (37, d, ()), (90, e, ())]).1 = d := by simp [getM]
      have g39 : (getM 39 [((2 : Int), a, ()), (4, b, ()), (11, c, ()), (37, d, ()), (90, e, ())]).1 = [] := by simp [getM]
      have g90 : (getM 90 [((2 : Int), a, ()), (4, b, ()), (11, c, ()), (37, d, ()), (90, e, ())]).1 = e := by simp [getM]
      rw [g11, g90] at h9
      rw [g2, g4, g11', g37, g39, if_pos ca]
      refine ⟨?_, rfl⟩
      unfold itemsK
      (try simp only [])
      rw [if_pos ca, if_pos (by omega), ab, sb, origin_of _ _ sb, h9]
      rfl
    rw [if_neg c56] at hm
    by_cases ca : asksK (kindT typ) = true
    · rw [if_pos ca] at hm
      obtain ⟨a, b, c, d, rfl⟩ := items4 hm
      simp only [itemsOK, Bool.and_eq_true] at r1
      obtain ⟨_, ab⟩ := amt_back r1.2.1.2
      obtain ⟨_, _, sb, _⟩ := stan_back r1.2.2.1.2
      have g2 : (getM 2 [((2 : Int), a, ()), (4, b, ()), (11, c, ()), (37, d, ())]).1 = a := by simp [getM]
      have g4 : numM 4 [((2 : Int), a, ()), (4, b, ()), (11, c, ()), (37, d, ())] = (((getOK b).1 : Nat) : Int) := by simp [numM, getM]
      have g11' : numM 11 [((2 : Int), a, ()), (4, b, ()), (11, c, ()), (37, d, ())] = (((getOK c).1 : Nat) : Int) := by simp [numM, getM]
      have g37 : (getM 37 [((2 : Int), a, ()), (4, b, ()), (11, c, ()), (37, d, ())]).1 = d := by simp [getM]
      have g39 : (getM 39 [((2 : Int), a, ()), (4, b, ()), (11, c, ()), (37, d, ())]).1 = [] := by simp [getM]
      rw [g2, g4, g11', g37, g39, if_pos ca]
      refine ⟨?_, rfl⟩
      unfold itemsK
      (try simp only [])
      rw [if_pos ca, if_neg (fun e => c56 (kind_five.1 ⟨ca, e⟩)), ab, sb]
      rfl
    · rw [if_neg ca] at hm
      obtain ⟨a, b, c, rfl⟩ := items3 hm
      simp only [itemsOK, Bool.and_eq_true] at r1
      obtain ⟨_, _, sb, _⟩ := stan_back r1.1.2
      have g2 : (getM 2 [((11 : Int), a, ()), (37, b, ()), (39, c, ())]).1 = [] := by simp [getM]
      have g4 : numM 4 [((11 : Int), a, ()), (37, b, ()), (39, c, ())] = 0 := by simp [numM, getM, getOK]
      have g11' : numM 11 [((11 : Int), a, ()), (37, b, ()), (39, c, ())] = (((getOK a).1 : Nat) : Int) := by simp [numM, getM]
      have g37 : (getM 37 [((11 : Int), a, ()), (37, b, ()), (39, c, ())]).1 = b := by simp [getM]
      have g39 : (getM 39 [((11 : Int), a, ()), (37, b, ()), (39, c, ())]).1 = c := by simp [getM]
      rw [g2, g4, g11', g37, g39, if_neg ca]
      refine ⟨?_, rfl, rfl⟩
      unfold itemsK
      (try simp only [])
      rw [if_neg ca, sb]
  obtain ⟨hi, hz⟩ := hit
  have hmsg : (typeK (deM (typ, l, ())).1, itemsK (deM (typ, l, ())), ()) = (typ, l, ()) := by
    rw [hi]; show (typeK (kindT typ), l, ()) = _; rw [kt]
  refine ⟨hmsg, ?_⟩
  have hr := right_eq (kindT typ) (getM 2 l).1 (numM 4 l) (IntKind.u32.wrap (numM 11 l)) (getM 37 l).1 (getM 39 l).1 (numM_good 4 l).1 (wrap32_good _).1
  have hd : deM (typ, l, ()) = (kindT typ, (getM 2 l).1, numM 4 l, IntKind.u32.wrap (numM 11 l), (getM 37 l).1, (getM 39 l).1, ()) := rfl
  rw [hd] at hmsg ⊢
  rw [← hr]
  have hm2 : (typeK (kindT typ), itemsK (kindT typ, (getM 2 l).1, numM 4 l, IntKind.u32.wrap (numM 11 l), (getM 37 l).1, (getM 39 l).1, ()), ()) = (typ, l, ()) := hmsg
  rw [hm2, h1]
  by_cases ca : asksK (kindT typ) = true
  · rw [if_pos ca] at hz ⊢
    rw [hz, h3 ca]; rfl
  · rw [if_neg ca] at hz ⊢
    rw [hz.1, hz.2]; rfl
end Go.Proofs.YtjgnpmdbkgeakaaDoor.G
