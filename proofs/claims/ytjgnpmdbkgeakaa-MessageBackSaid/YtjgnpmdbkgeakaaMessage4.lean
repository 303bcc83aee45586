/- Laws of messages: what is written is read, what is read was written. -/
import Derived.Test.YtjgnpmdbkgeakaaMessage3
set_option linter.unusedVariables false
set_option linter.unusedSimpArgs false
set_option maxRecDepth 100000
namespace Go.Proofs.Ytjgnpmdbkgeakaa.G
open Go Go.Proofs.Ytjgnpmdbkgeakaa Th Bits

theorem toBytes_ofBytes : ∀ (b : List Int), (∀ c ∈ b, byteOK c) → toBytes (ofBytes b) = b := by
  intro b
  induction b with
  | nil => intro _; rfl
  | cons c b ih =>
    intro h
    have h1 := h c (List.mem_cons_self ..)
    have h2 := ih fun c hc => h c (List.mem_cons_of_mem _ hc)
    unfold byteOK at h1
    simp only [ofBytes, toBytes, List.map_cons, List.map_map] at h2 ⊢
    rw [h2]
    congr 1
    simp
    omega
theorem toBytes_ok (s : List UInt8) : ∀ c ∈ toBytes s, byteOK c := by
  intro c hc
  obtain ⟨x, _, rfl⟩ := List.mem_map.1 hc
  have := x.toNat_lt
  unfold byteOK; omega
theorem toBytes_app (s t : List UInt8) : toBytes (s ++ t) = toBytes s ++ toBytes t := by simp [toBytes]
theorem toBytes_inj {s t : List UInt8} (h : toBytes s = toBytes t) : s = t := by rw [← ofBytes_toBytes s, h, ofBytes_toBytes]
theorem writeM_ok (m : Msg) : ∀ c ∈ writeM m, byteOK c := by
  intro c hc
  unfold writeM at hc
  rcases List.mem_append.1 hc with h | h
  · exact toBytes_ok _ c h
  rcases List.mem_append.1 h with h | h
  · exact bytesB_bytes _ c h
  · exact toBytes_ok _ c h

theorem rdF_write {x : Item} (h : rightF x.1 x.2.1 = true) (t : List UInt8) : rdF x.1 (toBytes (fieldW x ++ t)) = (x.2.1, ((fieldW x).length : Int), 0) := by
  obtain ⟨d, hd, hs, hg⟩ := right_def h
  unfold rdF
  rw [hd, fieldW_some hd]
  simp only [ofBytes_toBytes]
  exact read_write (defOf_mem hd).1 _ t hs hg
theorem rdF_cut {x : Item} (h : rightF x.1 x.2.1 = true) {n : Nat} (hn : n < (fieldW x).length) : (rdF x.1 (toBytes ((fieldW x).take n))).2.2 = 2 := by
  obtain ⟨d, hd, hs, hg⟩ := right_def h
  unfold rdF
  rw [fieldW_some hd] at hn ⊢
  rw [hd]
  simp only [ofBytes_toBytes]
  exact read_cut (defOf_mem hd).1 _ n hs hn

theorem readI_ok {n : Int} {l b : List Int} (h1 : (rdF n b).2.2 = 0) (h2 : (readI l (b.drop (rdF n b).2.1.toNat)).2.2 = 0) :
    readI (n :: l) b = ((n, (rdF n b).1, ()) :: (readI l (b.drop (rdF n b).2.1.toNat)).1, (readI l (b.drop (rdF n b).2.1.toNat)).2.1, 0) := by rw [readI_cons, if_pos h1, if_pos h2]
theorem readI_bad2 {n : Int} {l b : List Int} (h1 : (rdF n b).2.2 = 0) (h2 : (readI l (b.drop (rdF n b).2.1.toNat)).2.2 ≠ 0) : readI (n :: l) b = ([], [], (readI l (b.drop (rdF n b).2.1.toNat)).2.2) := by
  rw [readI_cons, if_pos h1, if_neg h2]
theorem readI_bad1 {n : Int} {l b : List Int} (h1 : (rdF n b).2.2 ≠ 0) : readI (n :: l) b = ([], [], (rdF n b).2.2) := by rw [readI_cons, if_neg h1]

theorem drop_field (x : Item) (t : List UInt8) : (toBytes (fieldW x ++ t)).drop (((fieldW x).length : Int)).toNat = toBytes t := by
  rw [Int.toNat_natCast, toBytes_drop, List.drop_left]

theorem readI_tail : ∀ (l : List Item), (∀ x ∈ l, rightF x.1 x.2.1 = true) → ∀ t, readI (l.map (·.1)) (toBytes (tailM l ++ t)) = (l, toBytes t, 0) := by
  intro l
  induction l with
  | nil => intro _ t; rfl
  | cons x l ih =>
    intro h t
    have e := rdF_write (h x (List.mem_cons_self ..)) (tailM l ++ t)
    have i := ih (fun x hx => h x (List.mem_cons_of_mem _ hx)) t
    have eb : tailM (x :: l) ++ t = fieldW x ++ (tailM l ++ t) := by simp [tailM]
    have hd : (toBytes (fieldW x ++ (tailM l ++ t))).drop (rdF x.1 (toBytes (fieldW x ++ (tailM l ++ t)))).2.1.toNat = toBytes (tailM l ++ t) := by rw [e]; exact drop_field x _
    rw [eb, List.map_cons, readI_ok (by rw [e]) (by rw [hd, i]), hd, i, e]

theorem readI_cut : ∀ (l : List Item), (∀ x ∈ l, rightF x.1 x.2.1 = true) → ∀ n, n < (tailM l).length → (readI (l.map (·.1)) (toBytes ((tailM l).take n))).2.2 = 2 := by
  intro l
  induction l with
  | nil => intro _ n hn; simp [tailM] at hn
  | cons x l ih =>
    intro h n hn
    have hx := h x (List.mem_cons_self ..)
    have hr := fun x hx => h x (List.mem_cons_of_mem _ hx)
    have et : tailM (x :: l) = fieldW x ++ tailM l := rfl
    rw [et, List.length_append] at hn
    rw [et, List.map_cons]
    by_cases c : n < (fieldW x).length
    · have e := rdF_cut hx c
      rw [List.take_append_of_le_length (by omega), readI_bad1 (by rw [e]; decide)]
      exact e
    · have ht : (fieldW x ++ tailM l).take n = fieldW x ++ (tailM l).take (n - (fieldW x).length) := by
        rw [List.take_append, List.take_of_length_le (by omega)]
      have e := rdF_write hx ((tailM l).take (n - (fieldW x).length))
      have hd : (toBytes (fieldW x ++ (tailM l).take (n - (fieldW x).length))).drop (rdF x.1 (toBytes (fieldW x ++ (tailM l).take (n - (fieldW x).length)))).2.1.toNat = toBytes ((tailM l).take (n - (fieldW x).length)) := by rw [e]; exact drop_field x _
      have h2 := ih hr (n - (fieldW x).length) (by omega)
      rw [ht, readI_bad2 (by rw [e]) (by rw [hd, h2]; decide), hd]
      exact h2

/-- a message's parts -/
theorem write_parts {m : Msg} (h : msgRight m = true) (t : List UInt8) : (writeM m ++ toBytes t).take 4 = toBytes m.1 ∧ (writeM m ++ toBytes t).drop 4 = bytesB (bmM m.2.1) ++ toBytes (tailM m.2.1 ++ t) ∧ 4 ≤ (writeM m ++ toBytes t).length := by
  obtain ⟨_, h2, _⟩ := msg_parts.1 h
  have h4 : (toBytes m.1).length = 4 := by rw [toBytes_len]; exact known_len h2
  unfold writeM
  refine ⟨?_, ?_, by simp only [List.length_append]; omega⟩
  · rw [List.append_assoc, List.take_append_of_le_length (by omega), List.take_of_length_le (by omega)]
  · rw [List.append_assoc, List.drop_append, List.drop_of_length_le (by omega), h4]
    simp [toBytes_app]

theorem read_write_more {m : Msg} (h : msgRight m = true) (t : List UInt8) : readM (writeM m ++ toBytes t) = if t = [] then (m, 0) else (zeroM, 4) := by
  obtain ⟨w1, w2, w3⟩ := write_parts h t
  obtain ⟨h1, h2, h3⟩ := msg_parts.1 h
  obtain ⟨i1, _, _⟩ := items_ok m.2.1 0 h1
  obtain ⟨o1, o2, o3, o4⟩ := bm_ok h1
  have hrb := read_bytes o2 o3 (toBytes (tailM m.2.1 ++ t))
  unfold readM
  rw [if_neg (by omega), w1, w2, ofBytes_toBytes, if_pos h2, hrb]
  (try simp only [])
  rw [if_pos trivial, o4, if_neg (fun e => by
    have : m.2.1.length = 0 := by have := congrArg List.length e; simpa using this
    omega)]
  have hd : (writeM m ++ toBytes t).drop (4 + (((bytesB (bmM m.2.1)).length : Int)).toNat) = toBytes (tailM m.2.1 ++ t) := by
    rw [← List.drop_drop, w2, Int.toNat_natCast, List.drop_left]
  rw [hd, readI_tail m.2.1 i1 t, if_pos rfl]
  obtain ⟨typ, l, ⟨⟩⟩ := m
  by_cases ht : t = []
  · rw [if_pos ht, ht]; exact if_pos rfl
  · have hne : ¬ toBytes t = [] := fun e => ht (toBytes_inj (t := []) e)
    rw [if_neg ht]; exact if_neg hne

theorem read_write_msg {m : Msg} (h : msgRight m = true) : readM (writeM m) = (m, 0) := by
  have := read_write_more h []
  rw [if_pos rfl] at this
  simpa [toBytes] using this

theorem writeM_len (m : Msg) : (writeM m).length = m.1.length + ((bytesB (bmM m.2.1)).length + (tailM m.2.1).length) := by
  unfold writeM; simp only [List.length_append, toBytes_len]

theorem readM_cut {m : Msg} (h : msgRight m = true) {n : Nat} (hn : n < (writeM m).length) : (readM ((writeM m).take n)).2 = 2 := by
  obtain ⟨h1, h2, h3⟩ := msg_parts.1 h
  obtain ⟨i1, _, _⟩ := items_ok m.2.1 0 h1
  obtain ⟨o1, o2, o3, o4⟩ := bm_ok h1
  obtain ⟨w1, w2, w3⟩ := write_parts h []
  simp only [toBytes, List.map_nil, List.append_nil] at w1 w2 w3
  have hl := writeM_len m
  have h4 := known_len h2
  unfold readM
  have hlen : ((writeM m).take n).length = n := by rw [List.length_take]; omega
  rw [hlen]
  by_cases c4 : n < 4
  · rw [if_pos c4]
  rw [if_neg c4]
  have ht : ((writeM m).take n).take 4 = toBytes m.1 := by rw [List.take_take, Nat.min_eq_left (show 4 ≤ n by omega), w1]; rfl
  have hd : ((writeM m).take n).drop 4 = (bytesB (bmM m.2.1) ++ toBytes (tailM m.2.1)).take (n - 4) := by
    rw [List.drop_take, w2]; rfl
  rw [ht, hd, ofBytes_toBytes, if_pos h2]
  by_cases cb : n - 4 < (bytesB (bmM m.2.1)).length
  · rw [List.take_append_of_le_length (by omega), readB_cut o2 o3 cb]
    rfl
  · have hsp : (bytesB (bmM m.2.1) ++ toBytes (tailM m.2.1)).take (n - 4) = bytesB (bmM m.2.1) ++ toBytes ((tailM m.2.1).take (n - 4 - (bytesB (bmM m.2.1)).length)) := by
      rw [List.take_append, List.take_of_length_le (by omega), toBytes_take]
    rw [hsp, read_bytes o2 o3]
    (try simp only [])
    rw [if_pos trivial, o4, if_neg (fun e => by
      have : m.2.1.length = 0 := by have := congrArg List.length e; simpa using this
      omega)]
    have hd2 : ((writeM m).take n).drop (4 + (((bytesB (bmM m.2.1)).length : Int)).toNat) = toBytes ((tailM m.2.1).take (n - 4 - (bytesB (bmM m.2.1)).length)) := by
      rw [← List.drop_drop, hd, hsp, Int.toNat_natCast, List.drop_left]
    have hc := readI_cut m.2.1 i1 (n - 4 - (bytesB (bmM m.2.1)).length) (by omega)
    rw [hd2, if_neg (by rw [hc]; decide), hc]

theorem readI_back : ∀ (fs b : List Int), (∀ c ∈ b, byteOK c) → (readI fs b).2.2 = 0 →
    (readI fs b).1.map (·.1) = fs ∧ (∀ x ∈ (readI fs b).1, rightF x.1 x.2.1 = true) ∧ toBytes (tailM (readI fs b).1) ++ (readI fs b).2.1 = b := by
  intro fs
  induction fs with
  | nil => intro b _ _; exact ⟨rfl, fun x hx => absurd hx (by simp [readI]), rfl⟩
  | cons n fs ih =>
    intro b hb h
    rw [readI_cons] at h ⊢
    by_cases he : (rdF n b).2.2 = 0
    · rw [if_pos he] at h ⊢
      by_cases h2 : (readI fs (b.drop (rdF n b).2.1.toNat)).2.2 = 0
      · rw [if_pos h2]
        obtain ⟨d, j, e1, e2, e3, e4, e5, e6⟩ := rd_ok he
        obtain ⟨k1, k2, k3⟩ := ih _ (fun c hc => hb c (List.mem_of_mem_drop hc)) h2
        refine ⟨by simp only [List.map_cons, k1], fun x hx => ?_, ?_⟩
        · rcases List.mem_cons.1 hx with rfl | hx
          · exact e5
          · exact k2 x hx
        · simp only [tailM, toBytes_app, List.append_assoc]
          rw [k3, e6, e2, Int.toNat_natCast, ← ofBytes_take, toBytes_ofBytes _ (fun c hc => hb c (List.mem_of_mem_take hc)), List.take_append_drop]
      · rw [if_neg h2] at h; exact absurd h h2
    · rw [if_neg he] at h; exact absurd h he

theorem readM_bad {b : List Int} (h : (readM b).2 ≠ 0) : (readM b).1 = zeroM := by
  unfold readM at h ⊢
  split
  · rfl
  rename_i c4
  rw [if_neg c4] at h
  split
  case isFalse => rfl
  rename_i ck
  rw [if_pos ck] at h
  split
  case isFalse => rfl
  rename_i cb
  rw [if_pos cb] at h
  split
  · rfl
  rename_i cf
  rw [if_neg cf] at h
  split
  case isFalse => rfl
  rename_i ci
  rw [if_pos ci] at h
  split
  · rename_i cr; rw [if_pos cr] at h; exact absurd rfl h
  · rfl

theorem write_read_msg {b : List Int} (hb : ∀ c ∈ b, byteOK c) (h : (readM b).2 = 0) : msgRight (readM b).1 = true ∧ writeM (readM b).1 = b ∧ (readM b).1.2.1.length ≤ 127 := by
  unfold readM at h ⊢
  by_cases c4 : b.length < 4
  · rw [if_pos c4] at h; exact absurd h (by decide)
  rw [if_neg c4] at h ⊢
  by_cases ck : knownT (ofBytes (b.take 4)) = true
  case neg => rw [if_neg ck] at h; exact absurd h (by decide)
  rw [if_pos ck] at h ⊢
  by_cases cb : (readB (b.drop 4)).2.2 = 0
  case neg => rw [if_neg cb] at h; exact absurd h cb
  rw [if_pos cb] at h ⊢
  by_cases cf : fieldsB (readB (b.drop 4)).1 = []
  · rw [if_pos cf] at h; exact absurd h (by decide)
  rw [if_neg cf] at h ⊢
  have hb4 : ∀ c ∈ b.drop 4, byteOK c := fun c hc => hb c (List.mem_of_mem_drop hc)
  obtain ⟨n, n1, n2, n3, n4, n5, n6⟩ := bytes_read hb4 cb
  have hbi : ∀ c ∈ b.drop (4 + (readB (b.drop 4)).2.1.toNat), byteOK c := fun c hc => hb c (List.mem_of_mem_drop hc)
  have hback := readI_back (fieldsB (readB (b.drop 4)).1) _ hbi
  by_cases ci : (readI (fieldsB (readB (b.drop 4)).1) (b.drop (4 + (readB (b.drop 4)).2.1.toNat))).2.2 = 0
  case neg => rw [if_neg ci] at h; exact absurd h ci
  rw [if_pos ci] at h ⊢
  obtain ⟨k1, k2, k3⟩ := hback ci
  generalize readI (fieldsB (readB (b.drop 4)).1) (b.drop (4 + (readB (b.drop 4)).2.1.toNat)) = r at h k1 k2 k3 ⊢
  obtain ⟨its, rest, e⟩ := r
  (try simp only [] at h k1 k2 k3 ⊢)
  by_cases cr : rest = []
  case neg => rw [if_neg cr] at h; exact absurd h (by decide)
  rw [if_pos cr]
  subst cr
  have hfl := fieldsB_len (readB (b.drop 4)).1
  have hlen : its.length = (fieldsB (readB (b.drop 4)).1).length := by rw [← k1, List.length_map]
  have hpos : 0 < (fieldsB (readB (b.drop 4)).1).length := List.length_pos_iff.2 cf
  have hio : itemsOK 0 its = true := items_back its 0 k2 (by rw [k1]; exact fieldsFrom_sorted _ _ _) fun x hx => by
    obtain ⟨d, hd, _⟩ := right_def (k2 x hx)
    have := fieldB_iff.1 (def_field hd)
    omega
  refine ⟨msg_parts.2 ⟨hio, ck, by (try simp only []); omega⟩, ?_, by (try simp only []); omega⟩
  have hbm : bmM its = (readB (b.drop 4)).1 := by
    unfold bmM
    rw [k1, of_fields n4 n5]
  unfold writeM
  (try simp only [])
  rw [hbm, n6, toBytes_ofBytes _ (fun c hc => hb c (List.mem_of_mem_take hc))]
  rw [List.append_nil] at k3
  rw [k3, n1, Int.toNat_natCast, ← List.drop_drop, List.take_append_drop, List.take_append_drop]

theorem G24_2_is (k : Nat) (n : Int) (typ : Txt) (l : List Item) (hl : l.length ≤ 1000000000) : ∀ (j i : Nat), i + j = l.length → ∀ c, j < c →
    G24_2 k c (n, (i : Int), typ, l, ()) = some (if (getM n (l.drop i)).2 = true then .inr ((getM n (l.drop i)).1, true, ()) else .inl ()) := by
  intro j
  induction j with
  | zero =>
    intro i hij c hc
    obtain ⟨c, rfl⟩ : ∃ m, c = m + 1 := ⟨c - 1, by omega⟩
    rw [G24_2_eq, sel_neg (by simp only [ofNat_len]; omega), List.drop_eq_nil_of_le (by omega)]
    rfl
  | succ j ih =>
    intro i hij c hc
    obtain ⟨c, rfl⟩ : ∃ m, c = m + 1 := ⟨c - 1, by omega⟩
    have hlt : i < l.length := by omega
    have hpl : (i : Int) < Int.ofNat l.length := by simp only [ofNat_len]; omega
    have h0 : (0 : Int) ≤ (i : Int) := by omega
    have next := ih (i + 1) (by omega) c (by omega)
    rw [Int.natCast_add, Int.natCast_one] at next
    rw [G24_2_eq, sel_pos hpl, sel_pos h0, sel_pos hpl]
    simp only [Int.toNat_natCast, getD_of hlt]
    rw [sel_pos h0, sel_pos hpl, wrap64 (by omega) (by omega), next, List.drop_eq_getElem_cons hlt]
    by_cases e : l[i].1 = n
    · have hv : getM n (l[i] :: l.drop (i + 1)) = (l[i].2.1, true) := if_pos e
      rw [sel_pos e, hv]; rfl
    · have hv : getM n (l[i] :: l.drop (i + 1)) = getM n (l.drop (i + 1)) := if_neg e
      rw [sel_neg e, hv]

theorem getM_none : ∀ {n : Int} {l : List Item}, (getM n l).2 = false → (getM n l).1 = [] := by
  intro n l
  induction l with
  | nil => intro _; rfl
  | cons x l ih =>
    intro h
    unfold getM at h ⊢
    split
    · rename_i c; rw [if_pos c] at h; cases h
    · rename_i c; rw [if_neg c] at h; exact ih h

theorem G24_is (k : Nat) (n : Int) (typ : Txt) (l : List Item) (hl : l.length ≤ 1000000000) (hk : l.length < k) : G24 k ((typ, l, ()), n, ()) = some ((getM n l).1, (getM n l).2, ()) := by
  have h := G24_2_is k n typ l hl l.length 0 (by omega) k hk
  rw [List.drop_zero, Int.natCast_zero] at h
  rw [G24_eq, h, ocall_some]
  cases hb : (getM n l).2 with
  | true => rw [if_pos rfl]; rfl
  | false => rw [if_neg (by simp), getM_none hb]; rfl
end Go.Proofs.Ytjgnpmdbkgeakaa.G
