/- Fields: what is written is read, and what is read was written. -/
import Derived.Test.YtjgnpmdbkgeakaaField3
set_option linter.unusedVariables false
set_option linter.unusedSimpArgs false
namespace Go.Proofs.Ytjgnpmdbkgeakaa.G
open Go Go.Proofs.Ytjgnpmdbkgeakaa Th

theorem chr_dig {e : Nat} (h : e ≤ 9) : (UInt8.ofNat (48 + e)).toNat = 48 + e := chr_toNat (by omega)
theorem chr_dgt {e : Nat} (h : e ≤ 9) : dgt (UInt8.ofNat (48 + e)) = true := by rw [dgt_iff, chr_dig h]; omega
theorem all_of_isDig {s : List UInt8} (h : isDig s = true) : s.all dgt = true := by simp [isDig] at h; simpa using h.2

theorem val_snoc (a : Nat) (s : List UInt8) (c : UInt8) : val a (s ++ [c]) = 10 * val a s + (c.toNat - 48) := by
  unfold val; rw [List.foldl_append, List.foldl_cons, List.foldl_nil]

theorem val_digs : ∀ (n v : Nat), val 0 (digs v n) = v % 10 ^ n
  | 0, v => by simp [digs, val, Nat.mod_one]
  | n + 1, v => by
    have h10 : v % 10 < 10 := Nat.mod_lt _ (by omega)
    rw [digs, val_snoc, val_digs n, chr_dig (by omega), Nat.pow_succ, Nat.mul_comm (10 ^ n) 10, Nat.mod_mul]
    omega

theorem digs_dig : ∀ (n v : Nat), (digs v n).all dgt = true
  | 0, _ => rfl
  | n + 1, v => by
    have h10 : v % 10 < 10 := Nat.mod_lt _ (by omega)
    rw [digs, List.all_append, digs_dig n]
    simp only [List.all_cons, List.all_nil, Bool.and_true, Bool.true_and]
    exact chr_dgt (by omega)

theorem isDig_digs (n v : Nat) (h : 0 < n) : isDig (digs v n) = true := by
  simp [isDig, digs_len, digs_dig, h]

theorem div_lt_of {v n : Nat} (h : v / 10 ^ n = 0) : v < 10 ^ n := by
  have hp : 0 < 10 ^ n := Nat.pow_pos (by omega)
  exact (Nat.div_eq_zero_iff_lt hp).1 h

theorem chr_back {c : UInt8} (h : dgt c = true) : UInt8.ofNat (48 + (c.toNat - 48)) = c := by
  rw [dgt_iff] at h
  rw [show 48 + (c.toNat - 48) = c.toNat from by omega]
  simp

theorem digs_val : ∀ (n : Nat) (s : List UInt8), s.length = n → s.all dgt = true → digs (val 0 s) n = s ∧ val 0 s < 10 ^ n := by
  intro n
  induction n with
  | zero => intro s hs _; have : s = [] := List.length_eq_zero_iff.1 hs; subst this; exact ⟨rfl, by simp [val]⟩
  | succ n ih =>
    intro s hs hd
    obtain ⟨t, c, rfl⟩ : ∃ t c, s = t ++ [c] := ⟨s.dropLast, s.getLast (by intro h; rw [h] at hs; simp at hs), (List.dropLast_concat_getLast _).symm⟩
    simp only [List.all_append, List.all_cons, List.all_nil, Bool.and_true, Bool.and_eq_true] at hd
    obtain ⟨h1, h2⟩ := ih t (by simpa using hs) hd.1
    have hc := hd.2
    rw [dgt_iff] at hc
    rw [val_snoc]
    have e1 : (10 * val 0 t + (c.toNat - 48)) / 10 = val 0 t := by omega
    have e2 : (10 * val 0 t + (c.toNat - 48)) % 10 = c.toNat - 48 := by omega
    refine ⟨by rw [digs, e1, e2, h1, chr_back hd.2], ?_⟩
    rw [Nat.pow_succ]; omega

theorem get_digs (n v : Nat) (h0 : 0 < n) (h19 : n ≤ 19) (hv : v < 10 ^ n) : getOK (digs v n) = (v, 0) := by
  unfold getOK
  rw [digs_len, if_neg (by omega), if_neg (by omega), isDig_digs n v h0, if_pos rfl, val_digs, Nat.mod_eq_of_lt hv]

theorem toBytes_len (s : List UInt8) : (toBytes s).length = s.length := by simp [toBytes]
theorem ofBytes_toBytes (s : List UInt8) : ofBytes (toBytes s) = s := by
  unfold ofBytes toBytes
  rw [List.map_map]
  conv => rhs; rw [← List.map_id s]
  apply List.map_congr_left
  intro c _
  simp
theorem toBytes_take (s : List UInt8) (n : Nat) : (toBytes s).take n = toBytes (s.take n) := by simp [toBytes, List.map_take]
theorem toBytes_drop (s : List UInt8) (n : Nat) : (toBytes s).drop n = toBytes (s.drop n) := by simp [toBytes, List.map_drop]

theorem len_ok {d : Def} (hd : d ∈ D) {n : Nat} (h : sized d n = true) (ha : ahead d.2.1 ≠ 0) : 1 ≤ n ∧ n < 10 ^ ahead d.2.1 ∧ (n : Int) ≤ d.2.2.1 := by
  obtain ⟨_, _, _, _, h1, h2, h3⟩ := D_all d hd
  unfold sized at h
  rw [if_neg ha] at h
  simp only [Bool.and_eq_true, decide_eq_true_eq] at h
  rcases ahead_cases (kind := d.2.1) with e | e | e
  · exact absurd e ha
  · have := h3 (ahead_two e)
    rw [e]; refine ⟨h.1, ?_, h.2⟩; omega
  · rw [e]; refine ⟨h.1, ?_, h.2⟩; omega

theorem writeF_len (d : Def) (s : List UInt8) : (writeF d s).length = ahead d.2.1 + s.length := by
  unfold writeF
  split
  · rename_i h; rw [h]; omega
  · rw [List.length_append, digs_len]

theorem lenF_write {d : Def} (hd : d ∈ D) (s t : List UInt8) (h : sized d s.length = true) : lenF d (writeF d s ++ t) = ((s.length : Int), 0) := by
  unfold lenF writeF
  by_cases ha : ahead d.2.1 = 0
  · rw [if_pos ha]
    unfold sized at h
    rw [if_pos ha] at h
    simp only [decide_eq_true_eq] at h
    rw [h]
  · obtain ⟨l1, l2, l3⟩ := len_ok hd h ha
    have h19 : ahead d.2.1 ≤ 19 := by rcases ahead_cases (kind := d.2.1) with e | e | e <;> omega
    rw [if_neg ha, if_neg ha, if_neg (by simp [digs_len]), List.append_assoc, List.take_append_of_le_length (by rw [digs_len]; omega), List.take_of_length_le (by rw [digs_len]; omega),
      get_digs _ _ (by omega) h19 l2, if_pos ⟨rfl, by omega⟩, if_neg (by (try simp only []); omega)]

/-- what was written is read, whatever is behind -/
theorem read_write {d : Def} (hd : d ∈ D) (s t : List UInt8) (h : sized d s.length = true) (hs : signs d s = true) : readF d (writeF d s ++ t) = (s, ((writeF d s).length : Int), 0) := by
  have hl := lenF_write hd s t h
  have hw := writeF_len d s
  unfold readF
  rw [hl]
  simp only [if_true]
  have e : ((ahead d.2.1 : Int) + (s.length : Int)).toNat = (writeF d s).length := by omega
  rw [if_neg (by rw [List.length_append]; omega), e, List.take_append_of_le_length (Nat.le_refl _), List.take_of_length_le (Nat.le_refl _)]
  have e2 : (writeF d s).drop (ahead d.2.1) = s := by
    unfold writeF
    split
    · rename_i ha; rw [ha]; rfl
    · rw [List.drop_append_of_le_length (by rw [digs_len]; omega), List.drop_of_length_le (by rw [digs_len]; omega)]; rfl
  rw [e2, if_pos hs, hw]
  simp

/-- cut it is too short -/
theorem read_cut {d : Def} (hd : d ∈ D) (s : List UInt8) (m : Nat) (h : sized d s.length = true) (hm : m < (writeF d s).length) : (readF d ((writeF d s).take m)).2.2 = 2 := by
  have hw := writeF_len d s
  have ht : ((writeF d s).take m).length = m := by rw [List.length_take]; omega
  have hsz := sized_le hd h
  unfold readF
  by_cases hma : m < ahead d.2.1
  · have : lenF d ((writeF d s).take m) = (0, 2) := by
      unfold lenF
      rw [if_neg (by omega), if_pos (by omega)]
    rw [this]; rfl
  · have : lenF d ((writeF d s).take m) = ((s.length : Int), 0) := by
      have h1 := lenF_write hd s [] h
      rw [List.append_nil] at h1
      rw [← h1]
      unfold lenF
      rw [List.take_take, show min (ahead d.2.1) m = ahead d.2.1 from by omega, ht]
      by_cases ha : ahead d.2.1 = 0
      · rw [if_pos ha, if_pos ha]
      · have hq : ¬ (writeF d s).length < ahead d.2.1 := by omega
        simp only [ha, hma, hq, if_false]
    rw [this]
    simp only [if_true]
    rw [if_pos (by rw [ht]; omega)]

/-- none is the beginning of another one -/
theorem write_apart {d : Def} (hd : d ∈ D) (s t : List UInt8) (h : sized d s.length = true) (hs : signs d s = true) (h' : sized d t.length = true) (hs' : signs d t = true) (hp : writeF d s = (writeF d t).take (writeF d s).length) : s = t := by
  have a := read_write hd s ((writeF d t).drop (writeF d s).length) h hs
  have b := read_write hd t [] h' hs'
  have e : writeF d s ++ (writeF d t).drop (writeF d s).length = writeF d t := by
    conv => lhs; arg 1; rw [hp]
    exact List.take_append_drop _ _
  rw [List.append_nil] at b
  rw [e, b] at a
  exact (congrArg Prod.fst a).symm

/-- what is read was written so -/
theorem read_back {d : Def} (hd : d ∈ D) (b : List UInt8) (h : (readF d b).2.2 = 0) :
    ∃ k : Nat, (readF d b).2.1 = (k : Int) ∧ 0 < k ∧ k ≤ b.length ∧ sized d (readF d b).1.length = true ∧ signs d (readF d b).1 = true ∧ writeF d (readF d b).1 = b.take k := by
  obtain ⟨_, _, _, _, z1, z2, z3⟩ := D_all d hd
  unfold readF at h ⊢
  by_cases c0 : (lenF d b).2 = 0
  · rw [if_pos c0] at h ⊢
    obtain ⟨l1, l2⟩ := lenF_le hd c0
    by_cases c1 : (b.length : Int) < (ahead d.2.1 : Int) + (lenF d b).1
    · rw [if_pos c1] at h; cases h
    · rw [if_neg c1] at h ⊢
      obtain ⟨l, hl⟩ : ∃ l : Nat, (lenF d b).1 = (l : Int) := ⟨(lenF d b).1.toNat, by omega⟩
      rw [hl] at h ⊢ c1 l1 l2
      have e : ((ahead d.2.1 : Int) + (l : Int)).toNat = ahead d.2.1 + l := by omega
      rw [e] at h ⊢
      split at h
      · rename_i hs
        rw [if_pos hs]
        refine ⟨ahead d.2.1 + l, by simp, by omega, by omega, ?_⟩
        have el : ((b.take (ahead d.2.1 + l)).drop (ahead d.2.1)).length = l := by rw [List.length_drop, List.length_take]; omega
        (try simp only [])
        rw [el]
        refine ⟨?_, hs, ?_⟩
        · unfold sized
          unfold lenF at hl
          by_cases ha : ahead d.2.1 = 0
          · rw [if_pos ha] at hl ⊢
            (try simp only [] at hl)
            rw [hl]; simp
          · rw [if_neg ha]
            simp only [Bool.and_eq_true, decide_eq_true_eq]
            omega
        · unfold writeF
          by_cases ha : ahead d.2.1 = 0
          · rw [if_pos ha, ha]; rfl
          · rw [if_neg ha, el]
            have hd2 : digs l (ahead d.2.1) = b.take (ahead d.2.1) := by
              unfold lenF at hl c0
              rw [if_neg ha] at hl c0
              by_cases q : b.length < ahead d.2.1
              · rw [if_pos q] at c0; cases c0
              rw [if_neg q] at hl c0
              by_cases q2 : (getOK (b.take (ahead d.2.1))).2 = 0 ∧ (getOK (b.take (ahead d.2.1))).1 ≠ 0
              · rw [if_pos q2] at hl c0
                by_cases q3 : d.2.2.1 < ((getOK (b.take (ahead d.2.1))).1 : Int)
                · rw [if_pos q3] at c0; cases c0
                · rw [if_neg q3] at hl
                  have hv : (getOK (b.take (ahead d.2.1))).1 = l := by (try simp only [] at hl); omega
                  have hb : (b.take (ahead d.2.1)).length = ahead d.2.1 := by rw [List.length_take]; omega
                  have hg := q2.1
                  unfold getOK at hv hg
                  rw [hb, if_neg ha] at hv hg
                  by_cases q4 : 19 < ahead d.2.1
                  · rw [if_pos q4] at hg; cases hg
                  rw [if_neg q4] at hv hg
                  by_cases q5 : isDig (b.take (ahead d.2.1)) = true
                  · rw [if_pos q5] at hv
                    (try simp only [] at hv)
                    rw [← hv]
                    exact (digs_val _ _ hb (all_of_isDig q5)).1
                  · rw [if_neg q5] at hg; cases hg
              · rw [if_neg q2] at c0; cases c0
            rw [hd2]
            conv => rhs; rw [← List.take_append_drop (ahead d.2.1) (b.take (ahead d.2.1 + l))]
            rw [List.take_take, show min (ahead d.2.1) (ahead d.2.1 + l) = ahead d.2.1 from by omega]
      · cases h
  · rw [if_neg c0] at h; exact absurd h c0

theorem read_none (d : Def) (b : List UInt8) (h : (readF d b).2.2 ≠ 0) : (readF d b).1 = [] ∧ (readF d b).2.1 = 0 := by
  unfold readF at h ⊢
  split
  · rename_i c0
    rw [if_pos c0] at h
    split
    · exact ⟨rfl, rfl⟩
    · rename_i c1
      rw [if_neg c1] at h
      split
      · rename_i c2; rw [if_pos c2] at h; exact absurd rfl h
      · exact ⟨rfl, rfl⟩
  · exact ⟨rfl, rfl⟩

end Go.Proofs.Ytjgnpmdbkgeakaa.G
