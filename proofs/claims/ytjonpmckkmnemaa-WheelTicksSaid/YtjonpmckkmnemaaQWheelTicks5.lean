/- The statement WheelTicks, out of what its function answers. No condition. -/
import Derived.Test.YtjonpmckkmnemaaQWheelTicks4
import Derived.Test.YtjonpmckkmnemaaRows
import Derived.Carry
section
set_option linter.unusedVariables false
set_option linter.unusedSimpArgs false
set_option maxRecDepth 100000
namespace Go.Proofs.Ytjonpmckkmnemaa.G
open Go Go.Proofs.Ytjonpmckkmnemaa Th
theorem radv_is (k : Nat) (hk : 20000 < k) (now room t : Int) (I O : List (List Tm)) (hw : WB now I O) (h : rightW (now, room, I, O, ()) = true) (h0 : 0 ≤ t) (ht : now + t ≤ 18446744073709551615) :
    G9 k ((now, room, I, O, ()), t, ()) = some (buildW (now + t) room ((sortL (I.flatten ++ O.flatten)).drop (cntT (now + t) (sortL (I.flatten ++ O.flatten)))), (sortL (I.flatten ++ O.flatten)).take (cntT (now + t) (sortL (I.flatten ++ O.flatten))), 0, ()) := by
  have h1 := hw.h1
  have h2 := hw.h2
  have hn := hw.hn
  have e : IntKind.u64.wrap (now + t) = now + t := wrap_u64 (by omega) ht
  have hl := sortL_len (I.flatten ++ O.flatten)
  have hb : ∀ t ∈ sortL (I.flatten ++ O.flatten), 0 ≤ t.2.1 ∧ t.2.1 ≤ 18446744073709551615 := fun t ht => hw.hb t ((sortL_perm _).mem_iff.1 ht)
  rw [G9_eq, pad_id hw.hI, pad_id hw.hO, G18_is k hk now room I O hw, right_eq hw.hI hw.hO, ocall_some, h, Bool.not_true, sel_false, e, sel_neg (by omega), G19_is k hk now room I O hw, ocall_some]
  (try simp only [])
  generalize sortL (I.flatten ++ O.flatten) = L at hl hb ⊢
  obtain ⟨x, hc⟩ := cnt_loop k (now, room, I, O, ()) t e L (by omega) 0 0 L.length 0 (by omega) (List.replicate 64 []) (List.replicate 64 []) k (by omega)
  have hle := cntT_le (now + t) L
  rw [List.drop_zero, Nat.zero_add] at hc
  rw [lit64, show G9_7 k k (t, (now, room, I, O, ()), L, 0, 0, 0, _, _, ()) = _ from hc, ocall_some]
  simp only [ofNat_len, Int.toNat_natCast, List.take_length]
  rw [sel_pos (by omega), sel_pos (by omega), sel_pos (by omega), sel_pos (by omega), e]
  have hb2 : ∀ x ∈ L.drop (cntT (now + t) L), 0 ≤ x.2.1 ∧ x.2.1 ≤ 18446744073709551615 := fun x hx => hb x (List.drop_subset _ _ hx)
  rw [G26_is k (now + t) room _ (by omega) ht hb2 (by rw [List.length_drop]; omega), ocall_some]
  have hr := rowsL_len (now + t) (L.drop (cntT (now + t) L))
  unfold buildW
  (try simp only [])
  rw [show Int.ofNat 0 = 0 from rfl, sel_pos (by omega), sel_pos (by omega), sel_pos (by omega), pad_id (by rw [List.length_take]; omega), pad_id (by rw [List.length_drop]; omega)]
  rfl
theorem off_list {F off : List Tm} {fin room : Int} {I O : List (List Tm)} (h : Off F fin off room I O) : sortL F = off ++ sortL (I.flatten ++ O.flatten) ∧ cntT fin (sortL F) = off.length := by
  have hp := sortL_perm (I.flatten ++ O.flatten)
  have hgt : ∀ t ∈ sortL (I.flatten ++ O.flatten), fin < t.2.1 := fun t ht => (h.rw.ok h.wb.hI h.wb.hO t (hp.mem_iff.1 ht)).1
  have e : sortL F = off ++ sortL (I.flatten ++ O.flatten) := sortL_of (h.so.append (sortL_sort _) (m := fin + 1) (fun t ht => by have := h.le t ht; omega) (fun t ht => by have := hgt t ht; omega)) ((hp.append_left off).trans h.pm.symm)
  exact ⟨e, by rw [e]; exact cntT_app h.le hgt⟩
end Go.Proofs.Ytjonpmckkmnemaa.G
end
section
set_option linter.unusedVariables false
set_option linter.unusedSimpArgs false
set_option maxRecDepth 100000
namespace Go.Proofs.Ytjonpmckkmnemaa.G
open Go Go.Proofs.Ytjonpmckkmnemaa Th
def noRows : List (List Tm) := List.replicate 64 []
theorem noRows_len : noRows.length = 64 := by unfold noRows; exact List.length_replicate
theorem noRows_get (p : Nat) : noRows.getD p [] = [] := by
  unfold noRows
  rcases Nat.lt_or_ge p 64 with h | h
  · rw [getD_of (by rw [List.length_replicate]; exact h), List.getElem_replicate]
  · rw [List.getD_eq_getElem?_getD, List.getElem?_eq_none (by rw [List.length_replicate]; exact h)]; rfl
theorem noRows_flat : noRows.flatten = [] := List.eq_nil_iff_forall_not_mem.2 fun t ht => by
  obtain ⟨p, _, ht⟩ := mem_row ht
  rw [noRows_get] at ht; cases ht
theorem noRows_wb {now : Int} (h1 : 0 ≤ now) (h2 : now ≤ 18446744073709551615) : WB now noRows noRows := ⟨noRows_len, noRows_len, h1, h2, fun t ht => (by rw [noRows_flat] at ht; cases ht), by rw [noRows_flat]; simp⟩
theorem noRows_right {now room : Int} (h1 : 0 ≤ room) (h2 : room ≤ 256) : RW now room noRows noRows :=
  ⟨h1, h2, by rw [noRows_flat]; simpa using h1, fun p _ => by rw [noRows_get]; exact ⟨fun t ht => (by cases ht), .nil⟩, fun p _ => by rw [noRows_get]; exact ⟨fun t ht => (by cases ht), .nil⟩, by rw [noRows_flat]; exact .nil⟩
theorem new_is (k : Nat) (hk : 20000 < k) (now room : Int) (h1 : 0 ≤ now) (h2 : now ≤ 18446744073709551615) : G12 k (now, room, ()) = some (if 0 ≤ room ∧ room ≤ 256 then ((now, room, noRows, noRows, ()), 0, ()) else ((0, 0, noRows, noRows, ()), 1, ())) := by
  rw [G12_eq, lit64]
  rw [show G17 k ((now, room, List.replicate 64 [], List.replicate 64 [], ()), ()) = _ from G17_is k hk now room noRows noRows (noRows_wb h1 h2), ocall_some]
  (try simp only [])
  by_cases c : 0 ≤ room ∧ room ≤ 256
  · rw [rightW_iff.2 (noRows_right c.1 c.2), sel_true, if_pos c]; rfl
  · have : rightW (now, room, noRows, noRows, ()) = false := by
      cases h : rightW (now, room, noRows, noRows, ()) with
      | false => rfl
      | true => exact absurd ⟨(rightW_iff.1 h).r0, (rightW_iff.1 h).r1⟩ c
    rw [this, sel_false, if_neg c]; rfl
def findT (key : Key) : List Tm → Int × Bool
  | [] => (0, false)
  | t :: l => if t.1 = key then (t.2.1, true) else findT key l
theorem find_loop (k : Nat) (key : Key) (l : List Tm) (hn : l.length ≤ 1000000) : ∀ (m j : Nat), j + m = l.length → ∀ n, m < n →
    (G14_4 k n (key, l, (l.length : Int), (j : Int), ()) = some (.inl ()) ∧ findT key (l.drop j) = (0, false)) ∨ ∃ at_, G14_4 k n (key, l, (l.length : Int), (j : Int), ()) = some (.inr (at_, true, ())) ∧ findT key (l.drop j) = (at_, true) := by
  obtain ⟨key1, key2, ⟨⟩⟩ := key
  intro m
  induction m with
  | zero =>
    intro j hj n hn'
    obtain ⟨n, rfl⟩ : ∃ m, n = m + 1 := ⟨n - 1, by omega⟩
    rw [G14_4_eq, sel_neg (by omega), List.drop_of_length_le (by omega)]
    exact .inl ⟨rfl, rfl⟩
  | succ m ih =>
    intro j hj n hn'
    obtain ⟨n, rfl⟩ : ∃ m, n = m + 1 := ⟨n - 1, by omega⟩
    have hlt : j < l.length := by omega
    have hrec := ih (j + 1) (by omega) n (by omega)
    rw [G14_4_eq, sel_pos (by omega), sel_pos (by omega), sel_pos (by simp only [ofNat_len]; omega), Int.toNat_natCast, sel_pos hlt, getD_of hlt, List.drop_eq_getElem_cons hlt]
    rw [show (sameI l[j].1.1 key1 && (sameS l[j].1.2.1 key2 && true)) = decide (l[j].1 = (key1, key2, ())) from sameK l[j].1 (key1, key2, ())]
    unfold findT
    by_cases c : l[j].1 = (key1, key2, ())
    · rw [sel_pos c, if_pos c]
      exact .inr ⟨_, rfl, rfl⟩
    · rw [sel_neg c, if_neg c, wrap64 (by omega) (by omega), show (j : Int) + 1 = ((j + 1 : Nat) : Int) by omega]
      exact hrec
theorem find_is (k : Nat) (hk : 20000 < k) (now room : Int) (I O : List (List Tm)) (hw : WB now I O) (key : Key) : G14 k ((now, room, I, O, ()), key, ()) = some (if rightW (now, room, I, O, ()) = true then ((findT key (I.flatten ++ O.flatten)).1, (findT key (I.flatten ++ O.flatten)).2, ()) else (0, false, ())) := by
  obtain ⟨key1, key2, ⟨⟩⟩ := key
  have hn := hw.hn
  rw [G14_eq, pad_id hw.hI, pad_id hw.hO, G17_is k hk now room I O hw, ocall_some]
  cases c : rightW (now, room, I, O, ()) with
  | false => rw [Bool.not_false, sel_true]; rfl
  | true =>
    rw [Bool.not_true, sel_false, G24_is k (by omega) now room I O hw.hI hw.hO (by omega), ocall_some, if_pos rfl]
    simp only [ofNat_len]
    have h := find_loop k (key1, key2, ()) (I.flatten ++ O.flatten) (by omega) _ 0 (Nat.zero_add _) k (by omega)
    rw [List.drop_zero] at h
    rcases h with ⟨h1, h2⟩ | ⟨a, h1, h2⟩
    · rw [show G14_4 k k ((key1, key2, ()), I.flatten ++ O.flatten, ((I.flatten ++ O.flatten).length : Int), 0, ()) = _ from h1, ocall_some, esel_inl, h2]
    · rw [show G14_4 k k ((key1, key2, ()), I.flatten ++ O.flatten, ((I.flatten ++ O.flatten).length : Int), 0, ()) = _ from h1, ocall_some, esel_inr, h2]
theorem findT_no {key : Key} : ∀ {l : List Tm}, (findT key l).2 = false ↔ ∀ t ∈ l, t.1 ≠ key
  | [] => by simp [findT]
  | t :: l => by
    unfold findT
    by_cases c : t.1 = key
    · rw [if_pos c]; simp [c]
    · rw [if_neg c, findT_no]; simp [c]
theorem mid_w (i j : Nat) (h : i + j ≤ 100000) : IntKind.i64.wrap ((IntKind.u64.wrap (IntKind.i64.wrap ((i : Int) + (j : Int)))).fdiv (2 ^ min (Int.toNat 1) 64)) = (((i + j) / 2 : Nat) : Int) := by
  have e2 : (2 : Int) ^ min (Int.toNat 1) 64 = 2 := by rfl
  rw [e2, wrap64 (n := (i : Int) + (j : Int)) (by omega) (by omega), wrap_u64 (by omega) (by omega), Int.fdiv_eq_ediv_of_nonneg _ (by omega), wrap64 (by omega) (by omega)]
  omega
theorem bsT_loop (k : Nat) (hk : 2 < k) (l : List Tm) (hn : l.length ≤ 10000) (ho : AscT l) (t : Tm) (v1 : Int) : ∀ (d i j : Nat), i ≤ j → j ≤ l.length → j - i ≤ d → (∀ x (hx : x < l.length), x < i → ordT l[x] t = -1) → (∀ x (hx : x < l.length), j ≤ x → ordT l[x] t ≠ -1) → ∀ n, d < n →
    ∃ p : Nat, G7000004_3 k n (l, (), v1, (i : Int), (j : Int), t.1.1, t.1.2.1, t.2.1, ()) = some (l, (), v1, (p : Int), t.1.1, t.1.2.1, t.2.1, ()) ∧ p ≤ l.length ∧ (∀ x (hx : x < l.length), x < p → ordT l[x] t = -1) ∧ ∀ x (hx : x < l.length), p ≤ x → ordT l[x] t ≠ -1 := by
  have hget : ∀ (x y : Nat) (hxy : x < y) (hy : y < l.length), ordT (l[x]'(Nat.lt_trans hxy hy)) l[y] = -1 := fun x y hxy hy => List.pairwise_iff_getElem.1 ho x y _ hy hxy
  intro d
  induction d with
  | zero =>
    intro i j hij hj hd h1 h2 n hn'
    obtain ⟨n, rfl⟩ : ∃ m, n = m + 1 := ⟨n - 1, by omega⟩
    obtain rfl : i = j := by omega
    exact ⟨i, by rw [G7000004_3_eq, sel_neg (by omega)], hj, h1, h2⟩
  | succ d ih =>
    intro i j hij hj hd h1 h2 n hn'
    obtain ⟨n, rfl⟩ : ∃ m, n = m + 1 := ⟨n - 1, by omega⟩
    by_cases hlt : i < j
    case neg =>
      obtain rfl : i = j := by omega
      exact ⟨i, by rw [G7000004_3_eq, sel_neg (by omega)], hj, h1, h2⟩
    rw [G7000004_3_eq]
    have hm : (i + j) / 2 < l.length := by omega
    have hm1 : i ≤ (i + j) / 2 := by omega
    have hm2 : (i + j) / 2 < j := by omega
    simp only [mid_w i j (by omega)]
    generalize (i + j) / 2 = h at hm hm1 hm2
    have hC := G31_is k hk l[h] t
    simp only [ofNat_len, Int.toNat_natCast, getD_of hm]
    rw [sel_pos (by omega), sel_pos (by omega), sel_pos (by omega), show G31 k (((l[h].1.1, l[h].1.2.1, ()), l[h].2.1, ()), ((t.1.1, t.1.2.1, ()), t.2.1, ()), ()) = _ from hC, ocall_some]
    have hw : IntKind.i64.wrap ((h : Int) + 1) = ((h + 1 : Nat) : Int) := by rw [wrap64 (by omega) (by omega)]; omega
    have hcs := ordT_cases l[h] t
    by_cases c : ordT l[h] t = -1
    · rw [sel_pos (show ordT l[h] t < 0 by omega), hw]
      refine ih (h + 1) j (by omega) hj (by omega) (fun x hx hxi => ?_) h2 n (by omega)
      rcases Nat.lt_or_eq_of_le (Nat.le_of_lt_succ hxi) with c2 | c2
      · exact ordT_trans (hget x h c2 hm) c
      · simp only [c2]; exact c
    · rw [sel_neg (show ¬ ordT l[h] t < 0 by omega)]
      refine ih i h hm1 (by omega) (by omega) h1 (fun x hx hxi => ?_) n (by omega)
      rcases Nat.lt_or_eq_of_le hxi with c2 | c2
      · exact fun e => c (ordT_trans (hget h x c2 hx) e)
      · simp only [← c2]; exact c
theorem bsT_is (k : Nat) (hk : 20000 < k) (l : List Tm) (hn : l.length ≤ 10000) (ho : AscT l) (t : Tm) : ∃ (p : Nat) (b : Bool), G7000004 k (l, t, (), ()) = some ((p : Int), b, ()) ∧ p ≤ l.length ∧ (∀ x (hx : x < l.length), x < p → ordT l[x] t = -1) ∧ ∀ x (hx : x < l.length), p ≤ x → ordT l[x] t ≠ -1 := by
  obtain ⟨p, h1, h2, h3, h4⟩ := bsT_loop k (by omega) l hn ho t (l.length : Int) l.length 0 l.length (Nat.zero_le _) (Nat.le_refl _) (by omega) (fun x hx h => absurd h (Nat.not_lt_zero _)) (fun x hx h => by omega) k (by omega)
  obtain ⟨⟨t1, t2, ⟨⟩⟩, t3, ⟨⟩⟩ := t
  rw [Int.natCast_zero] at h1
  rw [G7000004_eq]
  simp only [ofNat_len]
  rw [show G7000004_3 k k (l, (), (l.length : Int), 0, (l.length : Int), t1, t2, t3, ()) = _ from h1, ocall_some]
  simp only [ofNat_len, Int.toNat_natCast]
  by_cases h : p < l.length
  · have hC := G31_is k (by omega) l[p] ((t1, t2, ()), t3, ())
    simp only [getD_of h]
    rw [sel_pos (by omega), sel_pos (by omega), sel_pos (by omega), show G31 k (((l[p].1.1, l[p].1.2.1, ()), l[p].2.1, ()), ((t1, t2, ()), t3, ()), ()) = _ from hC, ocall_some]
    exact ⟨p, _, rfl, h2, h3, h4⟩
  · rw [sel_neg (by omega)]
    exact ⟨p, _, rfl, h2, h3, h4⟩
theorem asc_ins {l : List Tm} (ho : AscT l) {t : Tm} {p : Nat} (hp : p ≤ l.length) (h1 : ∀ x (hx : x < l.length), x < p → ordT l[x] t = -1) (h2 : ∀ x (hx : x < l.length), p ≤ x → ordT l[x] t ≠ -1) (hk : ∀ x ∈ l, x.1 ≠ t.1) : AscT (l.take p ++ [t] ++ l.drop p) := by
  have ho' := ho
  rw [← List.take_append_drop p l] at ho'
  obtain ⟨a, b, c⟩ := List.pairwise_append.1 ho'
  have hb : ∀ x ∈ l.drop p, ordT t x = -1 := fun x hx => by
    obtain ⟨i, hi, e⟩ := List.getElem_of_mem hx
    rw [List.getElem_drop] at e
    have hi' : p + i < l.length := by rw [List.length_drop] at hi; omega
    have := h2 (p + i) hi' (by omega)
    rw [e] at this
    rw [ordT_flip]
    rcases ordT_cases x t with e2 | e2 | e2
    · exact absurd e2 this
    · exact absurd (by rw [ordT_zero.1 e2]) (hk x (List.drop_subset _ _ hx))
    · rw [e2]
  have ha : ∀ x ∈ l.take p, ordT x t = -1 := fun x hx => by
    obtain ⟨i, hi, e⟩ := List.getElem_of_mem hx
    rw [List.length_take] at hi
    rw [List.getElem_take] at e
    rw [← e]
    exact h1 i (by omega) (by omega)
  rw [List.append_assoc]
  refine List.pairwise_append.2 ⟨a, List.pairwise_cons.2 ⟨hb, b⟩, fun x hx y hy => ?_⟩
  rcases List.mem_cons.1 hy with rfl | hy
  · exact ha x hx
  · exact c x hx y hy
end Go.Proofs.Ytjonpmckkmnemaa.G
end
section
set_option linter.unusedVariables false
set_option linter.unusedSimpArgs false
set_option maxRecDepth 100000
namespace Go.Proofs.Ytjonpmckkmnemaa.G
open Go Go.Proofs.Ytjonpmckkmnemaa Th
theorem set_ins (L : List (List Tm)) (q : Nat) (hq : q < L.length) (t : Tm) (p : Nat) : (t :: L.flatten).Perm (L.set q ((L.getD q []).take p ++ [t] ++ (L.getD q []).drop p)).flatten := by
  have h1 := set_perm L q hq
  have h2 := set_perm (L.set q ((L.getD q []).take p ++ [t] ++ (L.getD q []).drop p)) q (by rw [List.length_set]; exact hq)
  rw [set_getD _ hq, if_pos rfl, List.set_set] at h2
  refine .trans ?_ h2
  refine (h1.symm.cons t).trans ?_
  rw [← List.cons_append]
  refine List.Perm.append_right _ ?_
  rw [List.append_assoc]
  have h3 := List.perm_middle (a := t) (l₁ := (L.getD q []).take p) (l₂ := (L.getD q []).drop p)
  rw [List.take_append_drop] at h3
  exact h3.symm
theorem put_is (k : Nat) (hk : 20000 < k) (now room : Int) (I O : List (List Tm)) (hw : WB now I O) (hR : RW now room I O) (t : Tm) (hb : 0 ≤ t.2.1 ∧ t.2.1 ≤ 18446744073709551615) (hok : okT now t.2.1) (hnew : ∀ x ∈ I.flatten ++ O.flatten, x.1 ≠ t.1) (hlt : ((I.flatten ++ O.flatten).length : Int) < room) :
    ∃ I' O', G29 k (t, now, room, I, O, ()) = some (now, room, I', O', ()) ∧ WB now I' O' ∧ RW now room I' O' ∧ (t :: (I.flatten ++ O.flatten)).Perm (I'.flatten ++ O'.flatten) := by
  have hI := hw.hI
  have hO := hw.hO
  have hn := hw.hn
  have hroom := hR.r1
  have fin : ∀ I' O' : List (List Tm), I'.length = 64 → O'.length = 64 → (∀ q, q < 64 → (∀ x ∈ I'.getD q [], pI now q x = true) ∧ AscT (I'.getD q [])) → (∀ q, q < 64 → (∀ x ∈ O'.getD q [], pO now q x = true) ∧ AscT (O'.getD q [])) → (t :: (I.flatten ++ O.flatten)).Perm (I'.flatten ++ O'.flatten) →
      WB now I' O' ∧ RW now room I' O' ∧ (t :: (I.flatten ++ O.flatten)).Perm (I'.flatten ++ O'.flatten) := fun I' O' a b c d e => by
    have hl := e.length_eq
    rw [List.length_cons] at hl
    refine ⟨⟨a, b, hw.h1, hw.h2, fun x hx => ?_, by omega⟩, ⟨hR.r0, hR.r1, by omega, c, d, (e.map (·.1)).nodup_iff.1 ?_⟩, e⟩
    · rcases List.mem_cons.1 (e.mem_iff.2 hx) with rfl | hx
      · exact hb
      · exact hw.hb x hx
    · rw [List.map_cons, List.nodup_cons]
      refine ⟨fun hm => ?_, hR.ky⟩
      obtain ⟨x, hx, e⟩ := List.mem_map.1 hm
      exact hnew x hx e
  have e0 : G29 k (t, now, room, I, O, ()) = _ := G29_eq k t.1.1 t.1.2.1 t.2.1 now room I O
  rw [e0, pad_id hI, pad_id hO]
  by_cases c2 : t.2.1 / 64 = now / 64
  · rw [slot_in k _ now room I O hI hO hb.1 hb.2 hw.h1 hw.h2 hok.1 c2, ocall_some, esel_inr, esel_inl]
    (try simp only [])
    rw [pad_id hI, pad_id hO]
    have hq := quickT_lt t.2.1
    have hrow := hR.rI (quickT t.2.1) hq
    have hrl := row_len I (quickT t.2.1)
    have hn0 := hn
    rw [List.length_append] at hn0
    obtain ⟨p, b, hbs, hp, h3, h4⟩ := bsT_is k hk (I.getD (quickT t.2.1) []) (by omega) hrow.2 t
    have hset : (I.set (quickT t.2.1) ((I.getD (quickT t.2.1) []).take p ++ [t] ++ (I.getD (quickT t.2.1) []).drop p)).length = 64 := by rw [List.length_set]; exact hI
    have hasc := asc_ins hrow.2 hp h3 h4 (fun x hx => hnew x (List.mem_append_left _ (row_mem hx)))
    have hpm : (t :: I.flatten).Perm (I.set (quickT t.2.1) ((I.getD (quickT t.2.1) []).take p ++ [t] ++ (I.getD (quickT t.2.1) []).drop p)).flatten := set_ins I (quickT t.2.1) (by omega) t p
    rw [show G7000004 k (I.getD (quickT t.2.1) [], ((t.1.1, t.1.2.1, ()), t.2.1, ()), (), ()) = _ from hbs, ocall_some, G35_is k _ (by omega), ocall_some]
    (try simp only [])
    rw [G44_eq, sel_pos (by omega), sel_pos (by simp only [ofNat_len]; omega), sel_pos (by omega), sel_pos List.length_singleton, ocall_some]
    simp only [Int.toNat_natCast]
    rw [show (I.getD (quickT t.2.1) []).take p ++ [((t.1.1, t.1.2.1, ()), t.2.1, ())] ++ (I.getD (quickT t.2.1) []).drop p = (I.getD (quickT t.2.1) []).take p ++ [t] ++ (I.getD (quickT t.2.1) []).drop p from rfl]
    rw [pad_id hset]
    have hrows : ∀ q, q < 64 → (∀ x ∈ (I.set (quickT t.2.1) ((I.getD (quickT t.2.1) []).take p ++ [t] ++ (I.getD (quickT t.2.1) []).drop p)).getD q [], pI now q x = true) ∧ AscT ((I.set (quickT t.2.1) ((I.getD (quickT t.2.1) []).take p ++ [t] ++ (I.getD (quickT t.2.1) []).drop p)).getD q []) := fun q hq' => by
      rw [set_getD _ (by omega)]
      split
      · rename_i e
        subst e
        refine ⟨fun x hx => ?_, hasc⟩
        have hx' : x = t ∨ x ∈ I.getD (quickT t.2.1) [] := by
          rcases List.mem_append.1 hx with hx | hx
          · rcases List.mem_append.1 hx with hx | hx
            · exact .inr (List.take_subset _ _ hx)
            · exact .inl (List.mem_singleton.1 hx)
          · exact .inr (List.drop_subset _ _ hx)
        rcases hx' with rfl | hx
        · exact (pI_iff hq).2 ⟨hok, placeW_in c2⟩
        · exact hrow.1 x hx
      · exact hR.rI q hq'
    obtain ⟨a, b', c⟩ := fin _ _ hset hO hrows hR.rO (by rw [← List.cons_append]; exact hpm.append_right _)
    exact ⟨_, _, rfl, a, b', c⟩
  · rw [slot_out k _ now room I O hI hO hb.1 hb.2 hw.h1 hw.h2 hok.1 c2 hok.2, ocall_some, esel_inr, esel_inr]
    (try simp only [])
    rw [pad_id hO, pad_id hI]
    have hq := slowT_lt t.2.1
    have hrow := hR.rO (slowT t.2.1) hq
    have hrl := row_len O (slowT t.2.1)
    have hn0 := hn
    rw [List.length_append] at hn0
    obtain ⟨p, b, hbs, hp, h3, h4⟩ := bsT_is k hk (O.getD (slowT t.2.1) []) (by omega) hrow.2 t
    have hset : (O.set (slowT t.2.1) ((O.getD (slowT t.2.1) []).take p ++ [t] ++ (O.getD (slowT t.2.1) []).drop p)).length = 64 := by rw [List.length_set]; exact hO
    have hasc := asc_ins hrow.2 hp h3 h4 (fun x hx => hnew x (List.mem_append_right _ (row_mem hx)))
    have hpm : (t :: O.flatten).Perm (O.set (slowT t.2.1) ((O.getD (slowT t.2.1) []).take p ++ [t] ++ (O.getD (slowT t.2.1) []).drop p)).flatten := set_ins O (slowT t.2.1) (by omega) t p
    rw [show G7000004 k (O.getD (slowT t.2.1) [], ((t.1.1, t.1.2.1, ()), t.2.1, ()), (), ()) = _ from hbs, ocall_some, G35_is k _ (by omega), ocall_some]
    (try simp only [])
    rw [G44_eq, sel_pos (by omega), sel_pos (by simp only [ofNat_len]; omega), sel_pos (by omega), sel_pos List.length_singleton, ocall_some]
    simp only [Int.toNat_natCast]
    rw [show (O.getD (slowT t.2.1) []).take p ++ [((t.1.1, t.1.2.1, ()), t.2.1, ())] ++ (O.getD (slowT t.2.1) []).drop p = (O.getD (slowT t.2.1) []).take p ++ [t] ++ (O.getD (slowT t.2.1) []).drop p from rfl]
    rw [pad_id hset]
    have hrows : ∀ q, q < 64 → (∀ x ∈ (O.set (slowT t.2.1) ((O.getD (slowT t.2.1) []).take p ++ [t] ++ (O.getD (slowT t.2.1) []).drop p)).getD q [], pO now q x = true) ∧ AscT ((O.set (slowT t.2.1) ((O.getD (slowT t.2.1) []).take p ++ [t] ++ (O.getD (slowT t.2.1) []).drop p)).getD q []) := fun q hq' => by
      rw [set_getD _ (by omega)]
      split
      · rename_i e
        subst e
        refine ⟨fun x hx => ?_, hasc⟩
        have hx' : x = t ∨ x ∈ O.getD (slowT t.2.1) [] := by
          rcases List.mem_append.1 hx with hx | hx
          · rcases List.mem_append.1 hx with hx | hx
            · exact .inr (List.take_subset _ _ hx)
            · exact .inl (List.mem_singleton.1 hx)
          · exact .inr (List.drop_subset _ _ hx)
        rcases hx' with rfl | hx
        · exact (pO_iff hq).2 ⟨hok, placeW_out c2⟩
        · exact hrow.1 x hx
      · exact hR.rO q hq'
    obtain ⟨a, b', c⟩ := fin _ _ hI hset hR.rI hrows ((List.perm_middle (a := t) (l₁ := I.flatten) (l₂ := O.flatten)).symm.trans (hpm.append_left _))
    exact ⟨_, _, rfl, a, b', c⟩
section
variable (k : Nat) (hk : 20000 < k) (now room : Int) (I O : List (List Tm)) (hw : WB now I O) (key : Key) (t : Int) (h0 : 0 ≤ t) (h1 : t ≤ 18446744073709551615)
include hk hw h0 h1
theorem sched_seen (h : rightW (now, room, I, O, ()) = true) (hf : (findT key (I.flatten ++ O.flatten)).2 = true) : G15 k ((now, room, I, O, ()), key, t, ()) = some ((now, room, I, O, ()), 6, ()) := by
  have _ := h0
  have _ := h1
  have hfi := find_is k hk now room I O hw key
  obtain ⟨key1, key2, ⟨⟩⟩ := key
  rw [h, if_pos rfl] at hfi
  rw [G15_eq, pad_id hw.hI, pad_id hw.hO, G17_is k hk now room I O hw, ocall_some, h, Bool.not_true, sel_false, show G14 k ((now, room, I, O, ()), (key1, key2, ()), ()) = _ from hfi, ocall_some]
  (try simp only [])
  rw [hf, sel_true]
theorem sched_no (h : rightW (now, room, I, O, ()) = true) (hf : (findT key (I.flatten ++ O.flatten)).2 = false) (hok : ¬ okT now t) : G15 k ((now, room, I, O, ()), key, t, ()) = some ((now, room, I, O, ()), if t ≤ now then 1 else 9, ()) := by
  have hfi := find_is k hk now room I O hw key
  obtain ⟨key1, key2, ⟨⟩⟩ := key
  rw [h, if_pos rfl] at hfi
  rw [G15_eq, pad_id hw.hI, pad_id hw.hO, G17_is k hk now room I O hw, ocall_some, h, Bool.not_true, sel_false, show G14 k ((now, room, I, O, ()), (key1, key2, ()), ()) = _ from hfi, ocall_some]
  (try simp only [])
  rw [hf, sel_false]
  by_cases c : t ≤ now
  · rw [sel_pos c, if_pos c]
  · rw [sel_neg c, if_neg c, slot_no k t now room I O hw.hI hw.hO h0 h1 hw.h1 hw.h2 hok, ocall_some, esel_inl]
    (try simp only [])
    rw [pad_id hw.hI, pad_id hw.hO]
theorem sched_in (h : rightW (now, room, I, O, ()) = true) (hf : (findT key (I.flatten ++ O.flatten)).2 = false) (hok : okT now t) : G15 k ((now, room, I, O, ()), key, t, ()) = (if ((I.flatten ++ O.flatten).length : Int) = room then some ((now, room, I, O, ()), 7, ()) else ocall (G29 k ((key, t, ()), now, room, I, O, ())) fun r => some ((r.1, r.2.1, pad 64 r.2.2.1, pad 64 r.2.2.2.1, ()), 0, ())) := by
  have hfi := find_is k hk now room I O hw key
  have hn := hw.hn
  obtain ⟨key1, key2, ⟨⟩⟩ := key
  rw [h, if_pos rfl] at hfi
  rw [G15_eq, pad_id hw.hI, pad_id hw.hO, G17_is k hk now room I O hw, ocall_some, h, Bool.not_true, sel_false, show G14 k ((now, room, I, O, ()), (key1, key2, ()), ()) = _ from hfi, ocall_some]
  (try simp only [])
  rw [hf, sel_false, sel_neg (show ¬ t ≤ now by have := hok.1; omega)]
  by_cases c2 : t / 64 = now / 64
  · rw [slot_in k _ now room I O hw.hI hw.hO h0 h1 hw.h1 hw.h2 hok.1 c2, ocall_some, esel_inr, esel_inl]
    (try simp only [])
    rw [pad_id hw.hI, pad_id hw.hO, G24_is k (by omega) now room I O hw.hI hw.hO (by omega), ocall_some]
    simp only [ofNat_len]
    by_cases c : ((I.flatten ++ O.flatten).length : Int) = room
    · rw [sel_pos c, if_pos c]
    · rw [sel_neg c, if_neg c]
  · rw [slot_out k _ now room I O hw.hI hw.hO h0 h1 hw.h1 hw.h2 hok.1 c2 hok.2, ocall_some, esel_inr, esel_inr]
    (try simp only [])
    rw [pad_id hw.hI, pad_id hw.hO, G24_is k (by omega) now room I O hw.hI hw.hO (by omega), ocall_some]
    simp only [ofNat_len]
    by_cases c : ((I.flatten ++ O.flatten).length : Int) = room
    · rw [sel_pos c, if_pos c]
    · rw [sel_neg c, if_neg c]
theorem sched_is (h : rightW (now, room, I, O, ()) = true) (hf : (findT key (I.flatten ++ O.flatten)).2 = false) (hok : okT now t) (hl : ((I.flatten ++ O.flatten).length : Int) ≠ room) :
    ∃ I' O', G15 k ((now, room, I, O, ()), key, t, ()) = some ((now, room, I', O', ()), 0, ()) ∧ WB now I' O' ∧ RW now room I' O' ∧ ((key, t, ()) :: (I.flatten ++ O.flatten)).Perm (I'.flatten ++ O'.flatten) := by
  have hR := rightW_iff.1 h
  have := hR.r2
  obtain ⟨I', O', e, a, b, c⟩ := put_is k hk now room I O hw hR (key, t, ()) ⟨h0, h1⟩ hok (findT_no.1 hf) (by omega)
  rw [sched_in k hk now room I O hw key t h0 h1 h hf hok, if_neg hl, e, ocall_some]
  (try simp only [])
  rw [pad_id a.hI, pad_id a.hO]
  exact ⟨I', O', rfl, a, b, c⟩
end
end Go.Proofs.Ytjonpmckkmnemaa.G
end
section
set_option linter.unusedVariables false
set_option linter.unusedSimpArgs false
set_option maxRecDepth 100000
namespace Go.Proofs.Ytjonpmckkmnemaa.G
open Go Go.Proofs.Ytjonpmckkmnemaa Th
theorem short_rowI (k : Nat) (now room : Int) (I O : List (List Tm)) (hI : I.length = 64) (hO : O.length = 64) (i : Nat) (hi : i < 64) (v4 : Int) (l : List Tm) (hl : I.getD i [] = l) (hll : l.length ≤ 60) : ∀ (m j : Nat), j + m = l.length → ∀ n, m < n →
    G7_9 k n ((now, room, I, O, ()), v4, (i : Int), (j : Int), ()) = some (.inl ((now, room, I, O, ()), v4, (i : Int), ())) ∨ G7_9 k n ((now, room, I, O, ()), v4, (i : Int), (j : Int), ()) = some (.inr (false, ())) := by
  intro m
  induction m with
  | zero =>
    intro j hj n hn'
    obtain ⟨n, rfl⟩ : ∃ m, n = m + 1 := ⟨n - 1, by omega⟩
    rw [G7_9_eq, of64, sel_pos (by omega), sel_pos (by omega), pad_id hI, Int.toNat_natCast, hl, sel_neg (by simp only [ofNat_len]; omega)]
    exact .inl rfl
  | succ m ih =>
    intro j hj n hn'
    obtain ⟨n, rfl⟩ : ∃ m, n = m + 1 := ⟨n - 1, by omega⟩
    have hrec := ih (j + 1) (by omega) n (by omega)
    rw [G7_9_eq, of64, sel_pos (by omega), sel_pos (by omega), pad_id hI, Int.toNat_natCast i, hl, Int.toNat_natCast j]
    rw [sel_pos (by simp only [ofNat_len]; omega), sel_pos (by omega), sel_pos (by omega), sel_pos (by omega), sel_pos (by simp only [ofNat_len]; omega), G13_eq, ocall_some]
    (try simp only [])
    generalize decide (Int.ofNat (l.getD j ((0, [], ()), 0, ())).1.2.1.length ≤ 300) = b
    cases b with
    | false => rw [Bool.not_false, sel_true]; exact .inr rfl
    | true =>
      rw [Bool.not_true, sel_false, wrap64 (by omega) (by omega), show (j : Int) + 1 = ((j + 1 : Nat) : Int) by omega]
      exact hrec
theorem short_rowO (k : Nat) (now room : Int) (I O : List (List Tm)) (hI : I.length = 64) (hO : O.length = 64) (i : Nat) (hi : i < 64) (v4 : Int) (l : List Tm) (hl : O.getD i [] = l) (hll : l.length ≤ 60) : ∀ (m j : Nat), j + m = l.length → ∀ n, m < n →
    G7_14 k n ((now, room, I, O, ()), v4, (i : Int), (j : Int), ()) = some (.inl ((now, room, I, O, ()), v4, (i : Int), ())) ∨ G7_14 k n ((now, room, I, O, ()), v4, (i : Int), (j : Int), ()) = some (.inr (false, ())) := by
  intro m
  induction m with
  | zero =>
    intro j hj n hn'
    obtain ⟨n, rfl⟩ : ∃ m, n = m + 1 := ⟨n - 1, by omega⟩
    rw [G7_14_eq, of64, sel_pos (by omega), sel_pos (by omega), pad_id hO, Int.toNat_natCast, hl, sel_neg (by simp only [ofNat_len]; omega)]
    exact .inl rfl
  | succ m ih =>
    intro j hj n hn'
    obtain ⟨n, rfl⟩ : ∃ m, n = m + 1 := ⟨n - 1, by omega⟩
    have hrec := ih (j + 1) (by omega) n (by omega)
    rw [G7_14_eq, of64, sel_pos (by omega), sel_pos (by omega), pad_id hO, Int.toNat_natCast i, hl, Int.toNat_natCast j]
    rw [sel_pos (by simp only [ofNat_len]; omega), sel_pos (by omega), sel_pos (by omega), sel_pos (by omega), sel_pos (by simp only [ofNat_len]; omega), G13_eq, ocall_some]
    (try simp only [])
    generalize decide (Int.ofNat (l.getD j ((0, [], ()), 0, ())).1.2.1.length ≤ 300) = b
    cases b with
    | false => rw [Bool.not_false, sel_true]; exact .inr rfl
    | true =>
      rw [Bool.not_true, sel_false, wrap64 (by omega) (by omega), show (j : Int) + 1 = ((j + 1 : Nat) : Int) by omega]
      exact hrec
theorem short_loop (k : Nat) (hk : 1000 < k) (now room : Int) (I O : List (List Tm)) (hI : I.length = 64) (hO : O.length = 64) : ∀ (j i : Nat), i + j = 64 → ∀ (v4 : Int), 0 ≤ v4 → v4 + j * 120 ≤ 10000 → ∀ n, j < n →
    G7_3 k n ((now, room, I, O, ()), v4, (i : Int), ()) = some (.inl (v4 + (((List.range' i j).flatMap (inter I O)).length : Int), ())) ∨ G7_3 k n ((now, room, I, O, ()), v4, (i : Int), ()) = some (.inr (false, ())) := by
  intro j
  induction j with
  | zero =>
    intro i hij v4 h0 hv n hn
    obtain ⟨n, rfl⟩ : ∃ m, n = m + 1 := ⟨n - 1, by omega⟩
    rw [G7_3_eq, sel_neg (by omega)]
    exact .inl (by simp)
  | succ j ih =>
    intro i hij v4 h0 hv n hn
    obtain ⟨n, rfl⟩ : ∃ m, n = m + 1 := ⟨n - 1, by omega⟩
    rw [G7_3_eq, of64, sel_pos (by omega), sel_pos (by omega), sel_pos (by omega), pad_id hI, pad_id hO]
    simp only [Int.toNat_natCast, ofNat_len]
    by_cases c1 : (60 : Int) < ((I.getD i []).length : Int)
    · rw [sel_pos c1]; exact .inr rfl
    rw [sel_neg c1, sel_pos (by omega), sel_pos (by omega)]
    by_cases c2 : (60 : Int) < ((O.getD i []).length : Int)
    · rw [sel_pos c2]; exact .inr rfl
    rw [sel_neg c2, sel_pos (by omega), sel_pos (by omega), sel_pos (by omega), sel_pos (by omega), wrap64 (n := v4 + _) (by omega) (by omega), wrap64 (by omega) (by omega)]
    rcases short_rowI k now room I O hI hO i (by omega) (v4 + ((I.getD i []).length : Int) + ((O.getD i []).length : Int)) _ rfl (by omega) _ 0 (Nat.zero_add _) k (by omega) with h | h
    case inr => rw [show G7_9 k k ((now, room, I, O, ()), _, (i : Int), 0, ()) = _ from h, ocall_some, esel_inr]; exact .inr rfl
    rw [show G7_9 k k ((now, room, I, O, ()), _, (i : Int), 0, ()) = _ from h, ocall_some, esel_inl]
    (try simp only [])
    rcases short_rowO k now room I O hI hO i (by omega) (v4 + ((I.getD i []).length : Int) + ((O.getD i []).length : Int)) _ rfl (by omega) _ 0 (Nat.zero_add _) k (by omega) with h | h
    case inr => rw [show G7_14 k k ((now, room, I, O, ()), _, (i : Int), 0, ()) = _ from h, ocall_some, esel_inr]; exact .inr rfl
    rw [show G7_14 k k ((now, room, I, O, ()), _, (i : Int), 0, ()) = _ from h, ocall_some, esel_inl]
    (try simp only [])
    rw [wrap64 (by omega) (by omega), show (i : Int) + 1 = ((i + 1 : Nat) : Int) by omega]
    rcases ih (i + 1) (by omega) (v4 + ((I.getD i []).length : Int) + ((O.getD i []).length : Int)) (by omega) (by omega) n (by omega) with h | h
    · rw [h, List.range'_succ, List.flatMap_cons, List.length_append]
      refine .inl ?_
      unfold inter
      rw [List.length_append, Int.natCast_add, Int.natCast_add]
      congr 3
      omega
    · exact .inr h
theorem short_is (k : Nat) (hk : 1000 < k) (now room : Int) (I O : List (List Tm)) (hI : I.length = 64) (hO : O.length = 64) : ∃ b, G7 k ((now, room, I, O, ()), ()) = some (b, ()) ∧ (b = true → (I.flatten ++ O.flatten).length ≤ 300) := by
  rw [G7_eq, pad_id hI, pad_id hO]
  rcases short_loop k hk now room I O hI hO 64 0 (by omega) 0 (by omega) (by omega) k (by omega) with h | h
  · rw [show G7_3 k k ((now, room, I, O, ()), 0, 0, ()) = _ from h, ocall_some, esel_inl]
    refine ⟨_, rfl, fun hb => ?_⟩
    have := of_decide_eq_true hb
    have hl := (inter_flat hI hO).length_eq
    (try simp only [] at this)
    omega
  · rw [show G7_3 k k ((now, room, I, O, ()), 0, 0, ()) = _ from h, ocall_some, esel_inr]
    exact ⟨_, rfl, fun hb => by cases hb⟩
theorem awake_is (k : Nat) (hk : 20000 < k) : G6 k () = some (true, ()) := by
  have hw0 := noRows_wb (now := 60) (by omega) (by omega)
  have hr0 := rightW_iff.2 (noRows_right (now := 60) (room := 2) (by omega) (by omega))
  obtain ⟨I1, O1, e1, w1, R1, p1⟩ := sched_is k hk 60 2 noRows noRows hw0 (1, [], ()) 64 (by omega) (by omega) hr0 (by rw [noRows_flat]; rfl) (by unfold okT; omega) (by rw [noRows_flat]; decide)
  rw [noRows_flat, List.nil_append] at p1
  have q1 : I1.flatten ++ O1.flatten = [((1, [], ()), 64, ())] := List.perm_singleton.1 p1.symm
  have hr1 := rightW_iff.2 R1
  obtain ⟨o2, I2, O2, e2, f2⟩ := adv_is k hk 60 2 3 I1 O1 w1 hr1 (by omega) (by omega)
  have hr2 := rightW_iff.2 f2.rw
  have p2 := f2.pm
  rw [q1] at p2
  have z2 : o2 = [] := List.eq_nil_iff_forall_not_mem.2 fun t ht => by
    have h1 := f2.le t ht
    have h2 := p2.mem_iff.2 (List.mem_append_left _ ht)
    rw [List.mem_singleton] at h2
    subst h2
    (try simp only [] at h1)
    omega
  subst z2
  obtain ⟨o3, I3, O3, e3, f3⟩ := adv_is k hk (60 + 3) 2 1 I2 O2 f2.wb hr2 (by omega) (by omega)
  have hr3 := rightW_iff.2 f3.rw
  have p3 := p2.trans f3.pm
  have z3 : I3.flatten ++ O3.flatten = [] := List.eq_nil_iff_forall_not_mem.2 fun t ht => by
    have h1 := (f3.rw.ok f3.wb.hI f3.wb.hO t ht).1
    have h2 := p3.mem_iff.2 (List.mem_append_right _ ht)
    rw [List.mem_singleton] at h2
    subst h2
    (try simp only [] at h1)
    omega
  rw [z3, List.append_nil] at p3
  have q3 : o3 = [((1, [], ()), 64, ())] := List.perm_singleton.1 p3.symm
  subst q3
  have e4 := sched_seen k hk 60 2 I1 O1 w1 (1, [], ()) 99 (by omega) (by omega) hr1 (by rw [q1]; rfl)
  have e5 := sched_no k hk 60 2 I1 O1 w1 (2, [], ()) 4096 (by omega) (by omega) hr1 (by rw [q1]; rfl) (by unfold okT; omega)
  have hrow := R1.rowO w1.hI w1.hO (p := 1) (by omega)
  rw [q1] at hrow
  have hrow' : O1.getD 1 [] = [((1, [], ()), 64, ())] := hrow.symm
  have hrow3 : O3.getD 1 [] = [] := List.eq_nil_of_length_eq_zero (by have := row_len O3 1; rw [(List.append_eq_nil_iff.1 z3).2] at this; simpa using this)
  rw [G6_eq, new_is k hk 60 2 (by omega) (by omega), if_pos (by omega), ocall_some]
  (try simp only [])
  rw [pad_id noRows_len, e1, ocall_some]
  (try simp only [])
  rw [pad_id w1.hI, pad_id w1.hO, e2, ocall_some]
  (try simp only [])
  rw [pad_id f2.wb.hI, pad_id f2.wb.hO, e3, ocall_some]
  (try simp only [])
  rw [e4, ocall_some, e5, ocall_some]
  (try simp only [])
  rw [if_neg (by omega), show Int.toNat 1 = 1 from rfl, hrow', pad_id f3.wb.hI, pad_id f3.wb.hO, hrow3, G17_is k hk _ 2 I3 O3 f3.wb, hr3, ocall_some]
  rfl
end Go.Proofs.Ytjonpmckkmnemaa.G
end
section
set_option linter.unusedVariables false
set_option linter.unusedSimpArgs false
set_option maxRecDepth 100000
namespace Go.Proofs.Ytjonpmckkmnemaa.PureWheelTicks
open Go Go.Proofs.Ytjonpmckkmnemaa Th G
theorem sameW_self (now room : Int) {I O : List (List Tm)} (hI : I.length = 64) (hO : O.length = 64) : sameW (now, room, I, O, ()) (now, room, I, O, ()) = true := (sameW_iff hI hO hI hO).2 ⟨rfl, rfl, rfl, rfl⟩
theorem main (now room : Int) (I O : List (List Tm)) (t : Int) (hI : I.length = 64) (hO : O.length = 64) (h1 : 0 ≤ now ∧ now ≤ 18446744073709551615) (ht : 0 ≤ t ∧ t ≤ 18446744073709551615) (hb : ∀ x ∈ I.flatten ++ O.flatten, 0 ≤ x.2.1 ∧ x.2.1 ≤ 18446744073709551615) :
    G3 30000 ((now, room, I, O, ()), t, ()) = some (true, ()) := by
  obtain ⟨b, hs, hshort⟩ := short_is 30000 (by omega) now room I O hI hO
  rw [G3_eq, awake_is 30000 (by omega), ocall_some, Bool.not_true, sel_false, pad_id hI, pad_id hO, hs, ocall_some]
  cases b with
  | false => rw [Bool.not_false, sel_true]
  | true =>
  rw [Bool.not_true, sel_false]
  have hn := hshort rfl
  have hw : WB now I O := ⟨hI, hO, h1.1, h1.2, hb, by omega⟩
  cases hr : rightW (now, room, I, O, ()) with
  | false =>
    rw [adv_bad 30000 (by omega) now room t I O hw hr, ocall_some, radv_bad 30000 (by omega) now room t I O hw hr, ocall_some]
    (try simp only [])
    rw [pad_id hI, pad_id hO, G10_is 30000 (by omega) now room now room I O I O hI hO hI hO (by omega) (by omega), ocall_some, sameW_self now room hI hO, sel_true]
    rw [G11_is 30000 [] [] (by simp) (by simp), ocall_some]
    rfl
  | true =>
    by_cases ho : 18446744073709551615 < now + t
    · rw [adv_over 30000 (by omega) now room t I O hw hr ho, ocall_some, radv_over 30000 (by omega) now room t I O hw hr ht.2 ho, ocall_some]
      (try simp only [])
      rw [pad_id hI, pad_id hO, G10_is 30000 (by omega) now room now room I O I O hI hO hI hO (by omega) (by omega), ocall_some, sameW_self now room hI hO, sel_true]
      rw [G11_is 30000 [] [] (by simp) (by simp), ocall_some]
      rfl
    · obtain ⟨off, I', O', he, hf⟩ := adv_is 30000 (by omega) now room t I O hw hr ht.1 (by omega)
      have hl := off_list hf
      have hbd := hf.rw.build hf.wb.hI hf.wb.hO (sortL_sort _) (sortL_perm _)
      have hpl := hf.pm.length_eq
      rw [List.length_append (bs := _ ++ _)] at hpl
      rw [he, ocall_some, radv_is 30000 (by omega) now room t I O hw hr ht.1 (by omega), ocall_some, hl.2, hl.1, List.drop_left, List.take_left]
      unfold buildW
      (try simp only [])
      rw [← hbd.1, ← hbd.2, pad_id hf.wb.hI, pad_id hf.wb.hO, G10_is 30000 (by omega) _ room _ room I' O' I' O' hf.wb.hI hf.wb.hO hf.wb.hI hf.wb.hO (by omega) (by omega), ocall_some, sameW_self _ room hf.wb.hI hf.wb.hO, sel_true]
      rw [G11_is 30000 off off (by omega) (by omega), ocall_some, decide_eq_true rfl, sel_true]
      rfl
theorem pure (x0 : Ty.den (.st (.cons (.int .u64) (.cons (.int .i64) (.cons (.arr 64 (.st (.cons (.st (.cons (.int .u32) (.cons .str .nil))) (.cons (.int .u64) .nil)))) (.cons (.arr 64 (.st (.cons (.st (.cons (.int .u32) (.cons .str .nil))) (.cons (.int .u64) .nil)))) .nil)))))) (x1 : Ty.den (.int .u64)) (g0 : Ty.Good (.st (.cons (.int .u64) (.cons (.int .i64) (.cons (.arr 64 (.st (.cons (.st (.cons (.int .u32) (.cons .str .nil))) (.cons (.int .u64) .nil)))) (.cons (.arr 64 (.st (.cons (.st (.cons (.int .u32) (.cons .str .nil))) (.cons (.int .u64) .nil)))) .nil))))) x0) (g1 : Ty.Good (.int .u64) x1) : ∃ k, F3 k (x0, (x1, PUnit.unit)) = some (true, PUnit.unit) := by
  obtain ⟨now, room, I, O, ⟨⟩⟩ := x0
  obtain ⟨a1, a2, a3, a4, _⟩ := g0
  have hb : ∀ (L : List (List Tm)), (∀ x : List Tm, x ∈ L → ∀ y ∈ x, 0 ≤ y.2.1 ∧ y.2.1 ≤ 18446744073709551615) → ∀ t ∈ L.flatten, 0 ≤ t.2.1 ∧ t.2.1 ≤ 18446744073709551615 := fun L h t ht => by
    obtain ⟨x, hx, ht⟩ := List.mem_flatten.1 ht
    exact h x hx t ht
  exact ⟨30000, main now room I O x1 a3.1 a4.1 (good_u64 a1) (good_u64 g1) fun t ht => (List.mem_append.1 ht).elim (hb I (fun x hx y hy => good_u64 ((a3.2 x hx).2.2 y hy).2.1) t) (hb O (fun x hx y hy => good_u64 ((a4.2 x hx).2.2 y hy).2.1) t)⟩
end Go.Proofs.Ytjonpmckkmnemaa.PureWheelTicks
end
section
set_option linter.unusedVariables false
set_option linter.unusedSimpArgs false
namespace Go.Proofs.Ytjonpmckkmnemaa.wheelTicks
open Go.ChangeShapes Go.WideShapes Go.ChangeAt Go.RowKit Go.Proofs.Ytjonpmckkmnemaa Th G
open Go.ChangeMaps (open_string shut_string)
theorem own : ownKnob Try.prog.godebug = none := by kernel_rfl
theorem laidOut : laidOutB Try.prog = true := by kernel_rfl
set_option maxRecDepth 100000 in
theorem lifted (os : Os) (started : os.Started) (H : Type) (enc : TypeId × Value → H) :
    ReturnsInHanded {} Try.checked os 3 .any (Rows.wheelTicksSpec.pre6 enc Try.prog Try.f3 Rows.wheelTicksRow.domain false) (Rows.wheelTicksSpec.post enc Try.prog Try.f3 false true false false) := by
  refine returnsInHanded_of_change_sized (C := Try.checked) own started (by kernel_rfl) Try.func3
    (ChangeSpec.witness6 (enc := enc) (C := Try.checked) false ⟨#[], #[.agg #[.int .u64 0, .int .i64 0, .slice none 0 0, .slice none 0 0, .slice none 0 0, .slice none 0 0, .slice none 0 0, .slice none 0 0, .slice none 0 0, .slice none 0 0, .slice none 0 0, .slice none 0 0, .slice none 0 0, .slice none 0 0, .slice none 0 0, .slice none 0 0, .slice none 0 0, .slice none 0 0, .slice none 0 0, .slice none 0 0, .slice none 0 0, .slice none 0 0, .slice none 0 0, .slice none 0 0, .slice none 0 0, .slice none 0 0, .slice none 0 0, .slice none 0 0, .slice none 0 0, .slice none 0 0, .slice none 0 0, .slice none 0 0, .slice none 0 0, .slice none 0 0, .slice none 0 0, .slice none 0 0, .slice none 0 0, .slice none 0 0, .slice none 0 0, .slice none 0 0, .slice none 0 0, .slice none 0 0, .slice none 0 0, .slice none 0 0, .slice none 0 0, .slice none 0 0, .slice none 0 0, .slice none 0 0, .slice none 0 0, .slice none 0 0, .slice none 0 0, .slice none 0 0, .slice none 0 0, .slice none 0 0, .slice none 0 0, .slice none 0 0, .slice none 0 0, .slice none 0 0, .slice none 0 0, .slice none 0 0, .slice none 0 0, .slice none 0 0, .slice none 0 0, .slice none 0 0, .slice none 0 0, .slice none 0 0, .slice none 0 0, .slice none 0 0, .slice none 0 0, .slice none 0 0, .slice none 0 0, .slice none 0 0, .slice none 0 0, .slice none 0 0, .slice none 0 0, .slice none 0 0, .slice none 0 0, .slice none 0 0, .slice none 0 0, .slice none 0 0, .slice none 0 0, .slice none 0 0, .slice none 0 0, .slice none 0 0, .slice none 0 0, .slice none 0 0, .slice none 0 0, .slice none 0 0, .slice none 0 0, .slice none 0 0, .slice none 0 0, .slice none 0 0, .slice none 0 0, .slice none 0 0, .slice none 0 0, .slice none 0 0, .slice none 0 0, .slice none 0 0, .slice none 0 0, .slice none 0 0, .slice none 0 0, .slice none 0 0, .slice none 0 0, .slice none 0 0, .slice none 0 0, .slice none 0 0, .slice none 0 0, .slice none 0 0, .slice none 0 0, .slice none 0 0, .slice none 0 0, .slice none 0 0, .slice none 0 0, .slice none 0 0, .slice none 0 0, .slice none 0 0, .slice none 0 0, .slice none 0 0, .slice none 0 0, .slice none 0 0, .slice none 0 0, .slice none 0 0, .slice none 0 0, .slice none 0 0, .slice none 0 0, .slice none 0 0, .slice none 0 0, .slice none 0 0, .slice none 0 0, .slice none 0 0], .int .u64 0], []⟩ 8 (by kernel_rfl) (by kernel_rfl) (by kernel_rfl) (by kernel_rfl)) ?_
  intro W base args ds gs before hval0 hW hcnd hsz0 _
  have hsz : (DataW.weightsEach Try.prog (Try.f3.params.toList ++ Rows.wheelTicksSpec.plain.varTypes Try.prog) (ds ++ gs)).all (· ≤ reachBytes) = true := hsz0
  have hval : ∀ (j : Nat) t v, Try.f3.params[j]? = some t → args[j]? = some v → Value.okWide Try.prog W .any base t v := hval0
  have hW' := hW
  obtain ⟨p, q, hA0, hV, rfl, hfz, hnd⟩ := hW
  have hA : DataW.TrodAll enc Try.prog W 0 (fun _ => true) true Try.f3.params.toList args.toList ds p := hA0
  rw [Try.params3] at hA hval hsz
  obtain ⟨v0, vs0, d0, ds0, p0, q0, hargs, rfl, rfl, h0, r0⟩ := trodAll_cons hA
  obtain ⟨v1, vs1, d1, ds1, p1, q1, rfl, rfl, rfl, h1, r1⟩ := trodAll_cons r0
  obtain ⟨rfl, rfl, rfl⟩ := trodAll_nil r1
  obtain rfl : args = #[v0, v1] := by cases args; simp_all
  obtain ⟨rfl, rfl⟩ := trodVars_none hV
  obtain ⟨x0, a0, g0⟩ := open_arg (T := (.st (.cons (.int .u64) (.cons (.int .i64) (.cons (.arr 64 (.st (.cons (.st (.cons (.int .u32) (.cons .str .nil))) (.cons (.int .u64) .nil)))) (.cons (.arr 64 (.st (.cons (.st (.cons (.int .u32) (.cons .str .nil))) (.cons (.int .u64) .nil)))) .nil)))))) (by kernel_rfl) (hval 0 26 v0 rfl rfl) h0 (weights_of hsz (j := 0) (t := 26) rfl rfl)
  have k0 := h0
  have lt0 : ∀ x ∈ p0, x.block < W.heap.size := by obtain ⟨m, hm⟩ := k0; exact DataW.trod_lt m _ _ _ hm
  obtain ⟨x1, a1, g1⟩ := open_arg (T := (.int .u64)) (by kernel_rfl) (hval 1 22 v1 rfl rfl) h1 (weights_of hsz (j := 1) (t := 22) rfl rfl)
  have k1 := h1
  have lt1 : ∀ x ∈ p1, x.block < W.heap.size := by obtain ⟨m, hm⟩ := k1; exact DataW.trod_lt m _ _ _ hm
  obtain ⟨k, hk⟩ := PureWheelTicks.pure x0 x1 g0 g1
  clear hA0 hval0 hsz0 hsz
  have hd : mi3.dec (Th.start [Ty.av (.st (.cons (.int .u64) (.cons (.int .i64) (.cons (.arr 64 (.st (.cons (.st (.cons (.int .u32) (.cons .str .nil))) (.cons (.int .u64) .nil)))) (.cons (.arr 64 (.st (.cons (.st (.cons (.int .u32) (.cons .str .nil))) (.cons (.int .u64) .nil)))) .nil))))) x0, Ty.av (.int .u64) x1]) = some (x0, (x1, PUnit.unit)) := by
    obtain ⟨n0, r0, I0, O0, ⟨⟩⟩ := x0
    obtain ⟨_, _, b0, c0, _⟩ := g0
    show some ((n0, r0, pad 64 I0, pad 64 O0, ()), (x1, PUnit.unit)) = _
    rw [pad_id b0.1, pad_id c0.1]
    all_goals rfl
  refine (law_of (fn3 k [Ty.av (.st (.cons (.int .u64) (.cons (.int .i64) (.cons (.arr 64 (.st (.cons (.st (.cons (.int .u32) (.cons .str .nil))) (.cons (.int .u64) .nil)))) (.cons (.arr 64 (.st (.cons (.st (.cons (.int .u32) (.cons .str .nil))) (.cons (.int .u64) .nil)))) .nil))))) x0, Ty.av (.int .u64) x1] (x0, (x1, PUnit.unit)) (true, PUnit.unit) rfl hd hk) (fun _ _ hr => by cases hr) (us := [v0, v1]) ⟨a0, a1, trivial⟩).mono fun e W' ⟨he, bel⟩ => ?_
  subst he
  exact ⟨_, rfl, _, _, _, [], _, [], hW', trodAll_mk1 (shut_bool Try.underlying4 _), (trodAll_cons_mk (Below.trod laidOut (by kernel_rfl) (of_decide_eq_true (by kernel_rfl)) k0 bel lt0) (trodAll_cons_mk (Below.trod laidOut (by kernel_rfl) (of_decide_eq_true (by kernel_rfl)) k1 bel lt1) trodAll_mk0)), rfl, bel.frame _, fun h => by cases h⟩
theorem over : Rows.wheelTicksRow.holds Try.pinned (OpenSpec.ofChange Rows.wheelTicksSpec) :=
  OpenClaim.holds_of_wide 3 Try.f3 rfl rfl rfl rfl rfl rfl rfl ⟨rfl, rfl, rfl, rfl, rfl⟩ rfl rfl rfl rfl rfl (by kernel_rfl) Try.func3 (by kernel_rfl)
    (of_decide_eq_true (by kernel_rfl)) (by unfold Func.isWrapper; first | (rw [if_pos (by decide +kernel)]; kernel_rfl) | (rw [if_neg (by decide +kernel)]; exact ⟨rfl, rfl⟩))
    (fun os started H enc _ => lifted os started H enc)
end Go.Proofs.Ytjonpmckkmnemaa.wheelTicks
namespace Go.Proofs.Ytjonpmckkmnemaa
theorem wheelTicks_holds : Rows.WheelTicksSaid := wheelTicks.over
end Go.Proofs.Ytjonpmckkmnemaa
end
