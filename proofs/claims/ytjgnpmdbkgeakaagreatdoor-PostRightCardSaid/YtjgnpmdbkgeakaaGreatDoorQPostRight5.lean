/- The statement PostRight, out of what its function answers. No condition. -/
import Derived.Test.YtjgnpmdbkgeakaaGreatDoorQPostRight4
import Derived.Test.YtjgnpmdbkgeakaaGreatDoorRows
import Derived.JoinedOf
import Derived.LaidMore
import Derived.FnData
import Derived.ChangeBears2
import Derived.Stop.Joined
import Derived.Carry
import Derived.Test.YtjgnpmdbkgeakaaGreatDoorCards
import Derived.Test.YtjgnpmdbkgeakaaGreatDoorTie
import Derived.SevenTiedAt
section
set_option linter.unusedVariables false
set_option linter.unusedSimpArgs false
set_option maxRecDepth 100000
namespace Go.Proofs.YtjgnpmdbkgeakaaGreatDoor.G
open Go Go.Proofs.YtjgnpmdbkgeakaaGreatDoor Th Bits
theorem toBytes_ofBytes : ∀ (b : List Int), (∀ c ∈ b, byteOK c) → toBytes (ofBytes b) = b := by
  intro b
  induction b with
  | nil => intro _; rfl
  | cons c b ih =>
    intro h
    have h1 := h c (List.mem_cons_self ..)
    have h2 := ih fun c hc => h c (List.mem_cons_of_mem _ hc)
    unfold byteOK at h1
    simp only [ofBytes, toBytes, List.map_cons, List.map_map] at h2 ⊢
    rw [h2]
    congr 1
    simp
    omega
theorem toBytes_ok (s : List UInt8) : ∀ c ∈ toBytes s, byteOK c := by
  intro c hc
  obtain ⟨x, _, rfl⟩ := List.mem_map.1 hc
  have := x.toNat_lt
  unfold byteOK; omega
theorem toBytes_app (s t : List UInt8) : toBytes (s ++ t) = toBytes s ++ toBytes t := by simp [toBytes]
theorem toBytes_inj {s t : List UInt8} (h : toBytes s = toBytes t) : s = t := by rw [← ofBytes_toBytes s, h, ofBytes_toBytes]
theorem writeM_ok (m : Msg) : ∀ c ∈ writeM m, byteOK c := by
  intro c hc
  unfold writeM at hc
  rcases List.mem_append.1 hc with h | h
  · exact toBytes_ok _ c h
  rcases List.mem_append.1 h with h | h
  · exact bytesB_bytes _ c h
  · exact toBytes_ok _ c h
theorem rdF_write {x : Item} (h : rightF x.1 x.2.1 = true) (t : List UInt8) : rdF x.1 (toBytes (fieldW x ++ t)) = (x.2.1, ((fieldW x).length : Int), 0) := by
  obtain ⟨d, hd, hs, hg⟩ := right_def h
  unfold rdF
  rw [hd, fieldW_some hd]
  simp only [ofBytes_toBytes]
  exact read_write (defOf_mem hd).1 _ t hs hg
theorem readI_ok {n : Int} {l b : List Int} (h1 : (rdF n b).2.2 = 0) (h2 : (readI l (b.drop (rdF n b).2.1.toNat)).2.2 = 0) :
    readI (n :: l) b = ((n, (rdF n b).1, ()) :: (readI l (b.drop (rdF n b).2.1.toNat)).1, (readI l (b.drop (rdF n b).2.1.toNat)).2.1, 0) := by rw [readI_cons, if_pos h1, if_pos h2]
theorem drop_field (x : Item) (t : List UInt8) : (toBytes (fieldW x ++ t)).drop (((fieldW x).length : Int)).toNat = toBytes t := by
  rw [Int.toNat_natCast, toBytes_drop, List.drop_left]
theorem readI_tail : ∀ (l : List Item), (∀ x ∈ l, rightF x.1 x.2.1 = true) → ∀ t, readI (l.map (·.1)) (toBytes (tailM l ++ t)) = (l, toBytes t, 0) := by
  intro l
  induction l with
  | nil => intro _ t; rfl
  | cons x l ih =>
    intro h t
    have e := rdF_write (h x (List.mem_cons_self ..)) (tailM l ++ t)
    have i := ih (fun x hx => h x (List.mem_cons_of_mem _ hx)) t
    have eb : tailM (x :: l) ++ t = fieldW x ++ (tailM l ++ t) := by simp [tailM]
    have hd : (toBytes (fieldW x ++ (tailM l ++ t))).drop (rdF x.1 (toBytes (fieldW x ++ (tailM l ++ t)))).2.1.toNat = toBytes (tailM l ++ t) := by rw [e]; exact drop_field x _
    rw [eb, List.map_cons, readI_ok (by rw [e]) (by rw [hd, i]), hd, i, e]
theorem write_parts {m : Msg} (h : msgRight m = true) (t : List UInt8) : (writeM m ++ toBytes t).take 4 = toBytes m.1 ∧ (writeM m ++ toBytes t).drop 4 = bytesB (bmM m.2.1) ++ toBytes (tailM m.2.1 ++ t) ∧ 4 ≤ (writeM m ++ toBytes t).length := by
  obtain ⟨_, h2, _⟩ := msg_parts.1 h
  have h4 : (toBytes m.1).length = 4 := by rw [toBytes_len]; exact known_len h2
  unfold writeM
  refine ⟨?_, ?_, by simp only [List.length_append]; omega⟩
  · rw [List.append_assoc, List.take_append_of_le_length (by omega), List.take_of_length_le (by omega)]
  · rw [List.append_assoc, List.drop_append, List.drop_of_length_le (by omega), h4]
    simp [toBytes_app]
theorem read_write_more {m : Msg} (h : msgRight m = true) (t : List UInt8) : readM (writeM m ++ toBytes t) = if t = [] then (m, 0) else (zeroM, 4) := by
  obtain ⟨w1, w2, w3⟩ := write_parts h t
  obtain ⟨h1, h2, h3⟩ := msg_parts.1 h
  obtain ⟨i1, _, _⟩ := items_ok m.2.1 0 h1
  obtain ⟨o1, o2, o3, o4⟩ := bm_ok h1
  have hrb := read_bytes o2 o3 (toBytes (tailM m.2.1 ++ t))
  unfold readM
  rw [if_neg (by omega), w1, w2, ofBytes_toBytes, if_pos h2, hrb]
  (try simp only [])
  rw [if_pos trivial, o4, if_neg (fun e => by
    have : m.2.1.length = 0 := by have := congrArg List.length e; simpa using this
    omega)]
  have hd : (writeM m ++ toBytes t).drop (4 + (((bytesB (bmM m.2.1)).length : Int)).toNat) = toBytes (tailM m.2.1 ++ t) := by
    rw [← List.drop_drop, w2, Int.toNat_natCast, List.drop_left]
  rw [hd, readI_tail m.2.1 i1 t, if_pos rfl]
  obtain ⟨typ, l, ⟨⟩⟩ := m
  by_cases ht : t = []
  · rw [if_pos ht, ht]; exact if_pos rfl
  · have hne : ¬ toBytes t = [] := fun e => ht (toBytes_inj (t := []) e)
    rw [if_neg ht]; exact if_neg hne
theorem read_write_msg {m : Msg} (h : msgRight m = true) : readM (writeM m) = (m, 0) := by
  have := read_write_more h []
  rw [if_pos rfl] at this
  simpa [toBytes] using this
theorem writeM_len (m : Msg) : (writeM m).length = m.1.length + ((bytesB (bmM m.2.1)).length + (tailM m.2.1).length) := by
  unfold writeM; simp only [List.length_append, toBytes_len]
theorem readI_back : ∀ (fs b : List Int), (∀ c ∈ b, byteOK c) → (readI fs b).2.2 = 0 →
    (readI fs b).1.map (·.1) = fs ∧ (∀ x ∈ (readI fs b).1, rightF x.1 x.2.1 = true) ∧ toBytes (tailM (readI fs b).1) ++ (readI fs b).2.1 = b := by
  intro fs
  induction fs with
  | nil => intro b _ _; exact ⟨rfl, fun x hx => absurd hx (by simp [readI]), rfl⟩
  | cons n fs ih =>
    intro b hb h
    rw [readI_cons] at h ⊢
    by_cases he : (rdF n b).2.2 = 0
    · rw [if_pos he] at h ⊢
      by_cases h2 : (readI fs (b.drop (rdF n b).2.1.toNat)).2.2 = 0
      · rw [if_pos h2]
        obtain ⟨d, j, e1, e2, e3, e4, e5, e6⟩ := rd_ok he
        obtain ⟨k1, k2, k3⟩ := ih _ (fun c hc => hb c (List.mem_of_mem_drop hc)) h2
        refine ⟨by simp only [List.map_cons, k1], fun x hx => ?_, ?_⟩
        · rcases List.mem_cons.1 hx with rfl | hx
          · exact e5
          · exact k2 x hx
        · simp only [tailM, toBytes_app, List.append_assoc]
          rw [k3, e6, e2, Int.toNat_natCast, ← ofBytes_take, toBytes_ofBytes _ (fun c hc => hb c (List.mem_of_mem_take hc)), List.take_append_drop]
      · rw [if_neg h2] at h; exact absurd h h2
    · rw [if_neg he] at h; exact absurd h he
theorem write_read_msg {b : List Int} (hb : ∀ c ∈ b, byteOK c) (h : (readM b).2 = 0) : msgRight (readM b).1 = true ∧ writeM (readM b).1 = b ∧ (readM b).1.2.1.length ≤ 127 := by
  unfold readM at h ⊢
  by_cases c4 : b.length < 4
  · rw [if_pos c4] at h; exact absurd h (by decide)
  rw [if_neg c4] at h ⊢
  by_cases ck : knownT (ofBytes (b.take 4)) = true
  case neg => rw [if_neg ck] at h; exact absurd h (by decide)
  rw [if_pos ck] at h ⊢
  by_cases cb : (readB (b.drop 4)).2.2 = 0
  case neg => rw [if_neg cb] at h; exact absurd h cb
  rw [if_pos cb] at h ⊢
  by_cases cf : fieldsB (readB (b.drop 4)).1 = []
  · rw [if_pos cf] at h; exact absurd h (by decide)
  rw [if_neg cf] at h ⊢
  have hb4 : ∀ c ∈ b.drop 4, byteOK c := fun c hc => hb c (List.mem_of_mem_drop hc)
  obtain ⟨n, n1, n2, n3, n4, n5, n6⟩ := bytes_read hb4 cb
  have hbi : ∀ c ∈ b.drop (4 + (readB (b.drop 4)).2.1.toNat), byteOK c := fun c hc => hb c (List.mem_of_mem_drop hc)
  have hback := readI_back (fieldsB (readB (b.drop 4)).1) _ hbi
  by_cases ci : (readI (fieldsB (readB (b.drop 4)).1) (b.drop (4 + (readB (b.drop 4)).2.1.toNat))).2.2 = 0
  case neg => rw [if_neg ci] at h; exact absurd h ci
  rw [if_pos ci] at h ⊢
  obtain ⟨k1, k2, k3⟩ := hback ci
  generalize readI (fieldsB (readB (b.drop 4)).1) (b.drop (4 + (readB (b.drop 4)).2.1.toNat)) = r at h k1 k2 k3 ⊢
  obtain ⟨its, rest, e⟩ := r
  (try simp only [] at h k1 k2 k3 ⊢)
  by_cases cr : rest = []
  case neg => rw [if_neg cr] at h; exact absurd h (by decide)
  rw [if_pos cr]
  subst cr
  have hfl := fieldsB_len (readB (b.drop 4)).1
  have hlen : its.length = (fieldsB (readB (b.drop 4)).1).length := by rw [← k1, List.length_map]
  have hpos : 0 < (fieldsB (readB (b.drop 4)).1).length := List.length_pos_iff.2 cf
  have hio : itemsOK 0 its = true := items_back its 0 k2 (by rw [k1]; exact fieldsFrom_sorted _ _ _) fun x hx => by
    obtain ⟨d, hd, _⟩ := right_def (k2 x hx)
    have := fieldB_iff.1 (def_field hd)
    omega
  refine ⟨msg_parts.2 ⟨hio, ck, by (try simp only []); omega⟩, ?_, by (try simp only []); omega⟩
  have hbm : bmM its = (readB (b.drop 4)).1 := by
    unfold bmM
    rw [k1, of_fields n4 n5]
  unfold writeM
  (try simp only [])
  rw [hbm, n6, toBytes_ofBytes _ (fun c hc => hb c (List.mem_of_mem_take hc))]
  rw [List.append_nil] at k3
  rw [k3, n1, Int.toNat_natCast, ← List.drop_drop, List.take_append_drop, List.take_append_drop]
end Go.Proofs.YtjgnpmdbkgeakaaGreatDoor.G
end
section
set_option linter.unusedVariables false
set_option linter.unusedSimpArgs false
set_option maxRecDepth 100000
namespace Go.Proofs.YtjgnpmdbkgeakaaGreatDoor.G
open Go Go.Proofs.YtjgnpmdbkgeakaaGreatDoor Th Bits
theorem shortS (k : Nat) (d : Deal) : G5 k (d, ()) = some (decide (lens 300 d), ()) := by
  obtain ⟨kind, pan, amt, stan, rrn, code, ⟨⟩⟩ := d
  rw [G5_eq]
  simp only [ofNat_len]
  by_cases h : lens 300 (kind, pan, amt, stan, rrn, code, ())
  · have h1 : pan.length ≤ 300 := h.1
    have h2 : rrn.length ≤ 300 := h.2.1
    have h3 : code.length ≤ 300 := h.2.2
    rw [sel_pos (by omega), sel_pos (by omega), decide_eq_true h, decide_eq_true (show (code.length : Int) ≤ 300 by omega)]
  · rw [decide_eq_false h]
    by_cases h1 : pan.length ≤ 300
    · rw [sel_pos (by omega)]
      by_cases h2 : rrn.length ≤ 300
      · have h3 : ¬ code.length ≤ 300 := fun e => h ⟨h1, h2, e⟩
        rw [sel_pos (by omega), decide_eq_false (show ¬ (code.length : Int) ≤ 300 by omega)]
      · rw [sel_neg (by omega)]
    · rw [sel_neg (by omega)]
theorem fw_le {n kind size : Int} {s : Txt} (hd : defOf n = some (n, kind, size, ())) (h : rightF n s = true) : ((fieldW (n, s, ())).length : Int) ≤ 3 + size := by
  obtain ⟨d, hd', hs, _⟩ := right_def h
  rw [hd] at hd'
  cases hd'
  have hw := fieldW_some (x := (n, s, ())) hd
  have hl := writeF_len (n, kind, size, ()) s
  have hz : (s.length : Int) ≤ size := by
    unfold sized at hs
    split at hs
    · have := of_decide_eq_true hs; (try simp only [] at this); omega
    · simp only [Bool.and_eq_true, decide_eq_true_eq] at hs; exact hs.2
  rw [hw, hl]
  rcases ahead_cases (kind := kind) with e | e | e <;> rw [show G.ahead (n, kind, size, ()).2.1 = G.ahead kind from rfl, e] <;> omega
theorem deal_size {d : Deal} (hg : goodD d) (h : dealOK d = true) : (writeM (typeK d.1, itemsK d, ())).length ≤ 200 := by
  have hm := ok_right hg h
  obtain ⟨h1, h2, h3⟩ := msg_parts.1 hm
  have hi : ∀ x ∈ itemsK d, rightF x.1 x.2.1 = true := (items_ok _ 0 h1).1
  have h4 : (typeK d.1).length = 4 := known_len h2
  have hb := bytesB_le (bmM (itemsK d))
  have ht : (tailM (itemsK d)).length ≤ 150 := by
    obtain ⟨kind, pan, amt, stan, rrn, code, ⟨⟩⟩ := d
    unfold itemsK at hi ⊢
    (try simp only [] at hi ⊢)
    by_cases ca : asksK kind = true
    · rw [if_pos ca] at hi ⊢
      have a1 : ((fieldW (2, pan, ())).length : Int) ≤ 3 + 19 := fw_le (n := 2) (kind := 3) (size := 19) rfl (hi (2, pan, ()) (by simp))
      have a2 : ((fieldW (4, amtT amt, ())).length : Int) ≤ 3 + 12 := fw_le (n := 4) (kind := 1) (size := 12) rfl (hi (4, amtT amt, ()) (by simp))
      have a3 : ((fieldW (11, stanT stan, ())).length : Int) ≤ 3 + 6 := fw_le (n := 11) (kind := 1) (size := 6) rfl (hi (11, stanT stan, ()) (by simp))
      have a4 : ((fieldW (37, rrn, ())).length : Int) ≤ 3 + 12 := fw_le (n := 37) (kind := 2) (size := 12) rfl (hi (37, rrn, ()) (by simp))
      by_cases c5 : 5 ≤ kind
      · rw [if_pos c5] at hi ⊢
        have a5 : ((fieldW (90, originT stan, ())).length : Int) ≤ 3 + 42 := fw_le (n := 90) (kind := 1) (size := 42) rfl (hi (90, originT stan, ()) (by simp))
        simp only [List.cons_append, List.nil_append, tailM, List.length_append, List.length_nil]; omega
      · rw [if_neg c5]
        simp only [List.append_nil, tailM, List.length_append, List.length_nil]; omega
    · rw [if_neg ca] at hi ⊢
      have a3 : ((fieldW (11, stanT stan, ())).length : Int) ≤ 3 + 6 := fw_le (n := 11) (kind := 1) (size := 6) rfl (hi (11, stanT stan, ()) (by simp))
      have a4 : ((fieldW (37, rrn, ())).length : Int) ≤ 3 + 12 := fw_le (n := 37) (kind := 2) (size := 12) rfl (hi (37, rrn, ()) (by simp))
      have a5 : ((fieldW (39, code, ())).length : Int) ≤ 3 + 2 := fw_le (n := 39) (kind := 2) (size := 2) rfl (hi (39, code, ()) (by simp))
      simp only [tailM, List.length_append, List.length_nil]; omega
  rw [writeM_len]
  (try simp only [])
  omega
theorem right_len {m : Msg} (h : msgRight m = true) : ∀ x ∈ m.2.1, x.2.1.length ≤ 999 := by
  intro x hx
  obtain ⟨d, hd, hs, _⟩ := right_def ((items_ok m.2.1 0 (msg_parts.1 h).1).1 x hx)
  exact (sized_le (defOf_mem hd).1 hs).2
theorem readDeal (k : Nat) (hk : 2000 < k) (m : Msg) (h : msgRight m = true) (hl : m.2.1.length ≤ 200) : G27 k (m, ()) = some ((readD m).1, (readD m).2, ()) := by
  obtain ⟨typ, l, ⟨⟩⟩ := m
  have hl' : l.length ≤ 200 := hl
  exact G27_is k hk typ l (by omega) fun x hx => by have := right_len h x hx; omega
theorem readDealR (k : Nat) (hk : 2000 < k) (m : Msg) (h : msgRight m = true) (hl : m.2.1.length ≤ 200) : G29 k (m, ()) = some ((readD m).1, (readD m).2, ()) := by
  obtain ⟨typ, l, ⟨⟩⟩ := m
  have hl' : l.length ≤ 200 := hl
  exact G29_is k hk typ l (by omega) fun x hx => by have := right_len h x hx; omega
def sendM (d : Deal) : Msg := (typeK d.1, itemsK d, ())
def sendB (d : Deal) : List Int := writeM (sendM d)
theorem send_right {d : Deal} (gd : goodD d) (h : dealOK d = true) : msgRight (sendM d) = true := ok_right gd h
theorem send_bytes (d : Deal) : ∀ c ∈ sendB d, byteOK c := writeM_ok _
theorem send_size {d : Deal} (gd : goodD d) (h : dealOK d = true) : (sendB d).length ≤ 200 := deal_size gd h
theorem sendMsg (k : Nat) (hk : 2000 < k) {d : Deal} (gd : goodD d) (h : dealOK d = true) : G17 k (sendM d, ()) = some (sendB d, 0, ()) := by
  have hxl := right_len (send_right gd h)
  have hil := itemsK_len d
  have hW := G17_is k (by omega) (typeK d.1) (itemsK d) (by omega) (fun x hx => by have := hxl x hx; rw [maxLen_eq]; omega)
  rw [if_pos (show msgRight (typeK d.1, itemsK d, ()) = true from send_right gd h)] at hW
  exact hW
theorem sendDealL (k L : Nat) (hL : L ≤ 1000000) (hk : L + 100 < k) (d : Deal) (gd : goodD d) (hl : lens L d) : G16 k (d, ()) = some (if dealOK d = true then (sendM d, 0, ()) else (([], [], ()), 1, ())) := G16_is k L hL hk d hl gd
theorem send_read {d : Deal} (gd : goodD d) (h : dealOK d = true) : readM (sendB d) = (sendM d, 0) ∧ readD (sendM d) = (d, 0) := ⟨read_write_msg (send_right gd h), read_write_deal gd h⟩
theorem send_pos {d : Deal} (gd : goodD d) (h : dealOK d = true) : 1 ≤ (sendB d).length := by
  unfold sendB
  rw [writeM_len, show (sendM d).1.length = 4 from known_len (msg_parts.1 (send_right gd h)).2.1]
  omega
end Go.Proofs.YtjgnpmdbkgeakaaGreatDoor.G
end
section
set_option linter.unusedVariables false
set_option linter.unusedSimpArgs false
set_option maxRecDepth 100000
namespace Go.Proofs.YtjgnpmdbkgeakaaGreatDoor.G
open Go Go.Proofs.YtjgnpmdbkgeakaaGreatDoor Th Bits
abbrev Reader := List Int × Bool × Unit
def hdrN (b : List Int) : Int := 256 * b.getD 0 0 + b.getD 1 0
def firstF (b : List Int) : Int := if b.length < 2 then 0 else if hdrN b = 0 ∨ 2048 < hdrN b then -1 else if (b.length : Int) < 2 + hdrN b then 0 else 2 + hdrN b
def rightR (r : Reader) : Bool := if r.2.1 = true then decide (r.1.length = 0) else decide (firstF r.1 = 0)
theorem hdrN_ok {b : List Int} (hb : ∀ c ∈ b, byteOK c) (h2 : 2 ≤ b.length) : ∃ x y : Nat, b.getD 0 0 = x ∧ b.getD 1 0 = y ∧ x < 256 ∧ y < 256 ∧ hdrN b = ((256 * x + y : Nat) : Int) := by
  have h0 : b.getD 0 0 = b[0] := getD_of (show 0 < b.length by omega) 0
  have h1 : b.getD 1 0 = b[1] := getD_of (show 1 < b.length by omega) 0
  have b0 := hb b[0] (List.getElem_mem _)
  have b1 := hb b[1] (List.getElem_mem _)
  unfold byteOK at b0 b1
  obtain ⟨x, hx⟩ := Int.eq_ofNat_of_zero_le b0.1
  obtain ⟨y, hy⟩ := Int.eq_ofNat_of_zero_le b1.1
  refine ⟨x, y, by rw [h0, hx], by rw [h1, hy], by omega, by omega, ?_⟩
  unfold hdrN
  rw [h0, h1, hx, hy]; omega
theorem or_hdr {x y : Nat} (hx : x < 256) (hy : y < 256) : bits .or .i64 (IntKind.i64.wrap (IntKind.i64.wrap (x : Int) * 256)) (IntKind.i64.wrap (y : Int)) = ((256 * x + y : Nat) : Int) := by
  rw [wrap64 (n := (x : Int)) (by omega) (by omega), show (x : Int) * 256 = ((x * 256 : Nat) : Int) by omega, wrap64 (by omega) (by omega), wrap64 (by omega) (by omega)]
  have hb : (x * 256 ||| y) < 2 ^ 64 := Nat.or_lt_two_pow (by omega) (by omega)
  have e : (BitVec.ofInt 64 ((x * 256 : Nat) : Int) ||| BitVec.ofInt 64 (y : Int)).toNat = (x * 256 ||| y) := by
    rw [BitVec.toNat_or, BitVec.ofInt_natCast, BitVec.ofInt_natCast, BitVec.toNat_ofNat, BitVec.toNat_ofNat, Nat.mod_eq_of_lt (by omega), Nat.mod_eq_of_lt (by omega)]
  have h8 := Nat.shiftLeft_add_eq_or_of_lt (b := y) (i := 8) (by omega) x
  rw [Nat.shiftLeft_eq] at h8
  show IntKind.i64.wrap (((BitVec.ofInt 64 ((x * 256 : Nat) : Int) ||| BitVec.ofInt 64 (y : Int)).toNat : Nat) : Int) = _
  rw [e, ← h8, wrap64 (by omega) (by omega)]
  omega
theorem G51_is (k : Nat) (b : List Int) (hb : ∀ c ∈ b, byteOK c) (hl : b.length ≤ 1000000000000) : G51 k (b, ()) = some (firstF b, ()) := by
  rw [G51_eq]
  unfold firstF
  simp only [ofNat_len]
  by_cases c2 : b.length < 2
  · rw [sel_pos (by omega), if_pos c2]
  obtain ⟨x, y, e0, e1, hx, hy, hh⟩ := hdrN_ok hb (by omega)
  have e8 : (2 : Int) ^ min (Int.toNat 8) 64 = 256 := by rfl
  have ez : Int.toNat 0 = 0 := rfl
  have eo : Int.toNat 1 = 1 := rfl
  rw [sel_neg (by omega), if_neg c2, sel_pos (by omega), sel_pos (by omega), hh]
  simp only [e8, ez, eo, e0, e1, or_hdr hx hy]
  rw [wrap64 (n := 2 + _) (by omega) (by omega)]
  by_cases h0 : ((256 * x + y : Nat) : Int) = 0
  · rw [sel_pos h0, sel_pos h0, if_pos (.inl h0)]
  rw [sel_neg h0]
  by_cases h1 : 2048 < ((256 * x + y : Nat) : Int)
  · rw [sel_pos h1, if_pos (.inr h1)]
  rw [sel_neg h1, if_neg (by omega)]
  by_cases h3 : (b.length : Int) < 2 + ((256 * x + y : Nat) : Int)
  · rw [sel_pos h3, if_pos h3]
  · rw [sel_neg h3, if_neg h3]
theorem G50_is (k : Nat) (r : Reader) (hb : ∀ c ∈ r.1, byteOK c) (hl : r.1.length ≤ 1000000000000) : G50 k (r, ()) = some (rightR r, ()) := by
  obtain ⟨rest, br, ⟨⟩⟩ := r
  rw [G50_eq]
  unfold rightR
  cases br with
  | true =>
    rw [sel_true, if_pos rfl]
    simp only [ofNat_len]
    rw [show decide (((rest.length : Nat) : Int) = 0) = decide (rest.length = 0) from decide_eq_decide.2 (by omega)]
  | false => rw [sel_false, if_neg (by simp), G51_is k rest hb hl, ocall_some]
def feedF : Nat → List Int → List (List Int) × List Int × Bool
  | 0, all => ([], all, false)
  | k + 1, all => if 0 < firstF all then ((all.take (firstF all).toNat).drop 2 :: (feedF k (all.drop (firstF all).toNat)).1, (feedF k (all.drop (firstF all).toNat)).2)
    else if firstF all < 0 then ([], [], true) else ([], all, false)
def feedA (all : List Int) : List (List Int) × List Int × Bool := feedF (all.length + 1) all
theorem first_pos {b : List Int} (hb : ∀ c ∈ b, byteOK c) (h : 0 < firstF b) : 3 ≤ (firstF b).toNat ∧ (firstF b).toNat ≤ b.length ∧ firstF b = 2 + hdrN b ∧ 1 ≤ hdrN b ∧ hdrN b ≤ 2048 ∧ 2 ≤ b.length := by
  unfold firstF at h ⊢
  by_cases c2 : b.length < 2
  · rw [if_pos c2] at h; omega
  obtain ⟨x, y, e0, e1, hx, hy, hh⟩ := hdrN_ok hb (by omega)
  rw [if_neg c2] at h ⊢
  by_cases c3 : hdrN b = 0 ∨ 2048 < hdrN b
  · rw [if_pos c3] at h; omega
  rw [if_neg c3] at h ⊢
  by_cases c4 : (b.length : Int) < 2 + hdrN b
  · rw [if_pos c4] at h; omega
  rw [if_neg c4]
  omega
theorem bytes_drop {b : List Int} (hb : ∀ c ∈ b, byteOK c) (n : Nat) : ∀ c ∈ b.drop n, byteOK c := fun c hc => hb c (List.mem_of_mem_drop hc)
theorem bytes_app {a b : List Int} (ha : ∀ c ∈ a, byteOK c) (hb : ∀ c ∈ b, byteOK c) : ∀ c ∈ a ++ b, byteOK c := fun c hc => (List.mem_append.1 hc).elim (ha c) (hb c)
theorem feedF_same : ∀ (n : Nat) (all : List Int), (∀ c ∈ all, byteOK c) → all.length ≤ n → ∀ k k', all.length < k → all.length < k' → feedF k all = feedF k' all := by
  intro n
  induction n with
  | zero =>
    intro all hb h k k' hk hk'
    have : all = [] := List.eq_nil_of_length_eq_zero (by omega)
    subst this
    obtain ⟨k, rfl⟩ : ∃ m, k = m + 1 := ⟨k - 1, by omega⟩
    obtain ⟨k', rfl⟩ : ∃ m, k' = m + 1 := ⟨k' - 1, by omega⟩
    rfl
  | succ n ih =>
    intro all hb h k k' hk hk'
    obtain ⟨k, rfl⟩ : ∃ m, k = m + 1 := ⟨k - 1, by omega⟩
    obtain ⟨k', rfl⟩ : ∃ m, k' = m + 1 := ⟨k' - 1, by omega⟩
    by_cases c : 0 < firstF all
    · have hf := first_pos hb c
      have := ih (all.drop (firstF all).toNat) (bytes_drop hb _) (by rw [List.length_drop]; omega) k k' (by rw [List.length_drop]; omega) (by rw [List.length_drop]; omega)
      show (if 0 < firstF all then _ else _) = (if 0 < firstF all then _ else _)
      rw [if_pos c, if_pos c, this]
    · show (if 0 < firstF all then _ else _) = (if 0 < firstF all then _ else _)
      rw [if_neg c, if_neg c]
theorem feedA_eq {all : List Int} (hb : ∀ c ∈ all, byteOK c) : feedA all = if 0 < firstF all then ((all.take (firstF all).toNat).drop 2 :: (feedA (all.drop (firstF all).toNat)).1, (feedA (all.drop (firstF all).toNat)).2)
    else if firstF all < 0 then ([], [], true) else ([], all, false) := by
  unfold feedA
  show (if 0 < firstF all then _ else _) = _
  by_cases c : 0 < firstF all
  · have hf := first_pos hb c
    rw [if_pos c, if_pos c, feedF_same all.length (all.drop (firstF all).toNat) (bytes_drop hb _) (by rw [List.length_drop]; omega) all.length ((all.drop (firstF all).toNat).length + 1) (by rw [List.length_drop]; omega) (by omega)]
  · rw [if_neg c, if_neg c]
theorem feedA_pos {all : List Int} (hb : ∀ c ∈ all, byteOK c) (h : 0 < firstF all) : feedA all = ((all.take (firstF all).toNat).drop 2 :: (feedA (all.drop (firstF all).toNat)).1, (feedA (all.drop (firstF all).toNat)).2) := by rw [feedA_eq hb, if_pos h]
theorem feedA_neg {all : List Int} (hb : ∀ c ∈ all, byteOK c) (h : firstF all < 0) : feedA all = ([], [], true) := by rw [feedA_eq hb, if_neg (by omega), if_pos h]
theorem feedA_zero {all : List Int} (hb : ∀ c ∈ all, byteOK c) (h : firstF all = 0) : feedA all = ([], all, false) := by rw [feedA_eq hb, if_neg (by omega), if_neg (by omega)]
theorem first_cases (b : List Int) (hb : ∀ c ∈ b, byteOK c) : firstF b = 0 ∨ firstF b = -1 ∨ 0 < firstF b := by
  unfold firstF
  by_cases c2 : b.length < 2
  · rw [if_pos c2]; exact .inl rfl
  obtain ⟨x, y, e0, e1, hx, hy, hh⟩ := hdrN_ok hb (by omega)
  rw [if_neg c2]
  split
  · exact .inr (.inl rfl)
  split
  · exact .inl rfl
  · right; right; omega
def feedR (r : Reader) (b : List Int) : Reader × List (List Int) × Int :=
  if rightR r = true then
    (if r.2.1 = true then (r, [], 12)
     else if (feedA (r.1 ++ b)).2.2 = true then (([], true, ()), (feedA (r.1 ++ b)).1, 12) else (((feedA (r.1 ++ b)).2.1, false, ()), (feedA (r.1 ++ b)).1, 0))
  else (r, [], 1)
theorem cloneB (k : Nat) (l : List Int) (hl : l.length ≤ 1000000000000) : G52 k l = some (l, ()) := by
  rw [G52_eq, sel_pos (by omega)]
theorem G25_g0_is (k : Nat) : ∀ (n : Nat) (all : List Int), all.length ≤ n → (∀ c ∈ all, byteOK c) → all.length ≤ 1000000000 → ∀ (out : List (List Int)), out.length + all.length ≤ 1000000000 → ∀ c, n < c →
    G25_g0 k c (all, out, [], false, ()) = some (if (feedA all).2.2 = true then (out ++ (feedA all).1, 12, [], true, ()) else (out ++ (feedA all).1, 0, (feedA all).2.1, false, ())) := by
  intro n
  induction n with
  | zero =>
    intro all hn hb hl out ho c hc
    obtain ⟨c, rfl⟩ : ∃ m, c = m + 1 := ⟨c - 1, by omega⟩
    have : all = [] := List.eq_nil_of_length_eq_zero (by omega)
    subst this
    have h0 : firstF [] = 0 := rfl
    rw [G25_g0_eq, G51_is k [] hb (by omega), ocall_some, feedA_zero hb h0, if_neg (by simp)]
    simp only [h0]
    rw [sel_neg (by omega), sel_neg (by omega), cloneB k [] (by simp), ocall_some, List.append_nil]
  | succ n ih =>
    intro all hn hb hl out ho c hc
    obtain ⟨c, rfl⟩ : ∃ m, c = m + 1 := ⟨c - 1, by omega⟩
    rw [G25_g0_eq, G51_is k all hb (by omega), ocall_some]
    simp only [ofNat_len]
    rcases first_cases all hb with h | h | h
    · rw [feedA_zero hb h, if_neg (by simp), sel_neg (by omega), sel_neg (by omega), cloneB k all (by omega), ocall_some, List.append_nil]
    · rw [feedA_neg hb (by omega), if_pos rfl, sel_neg (by omega), sel_pos (by omega), List.append_nil]
    · have hf := first_pos hb h
      rw [sel_pos h, sel_pos (by omega), sel_pos (Int.le_refl _), sel_pos (by omega), sel_pos (by omega), sel_pos (by omega), sel_pos (by omega), sel_pos (Int.le_refl _), sel_pos (Int.le_refl _), Int.toNat_natCast, List.take_of_length_le (Nat.le_refl all.length),
        ih _ (by rw [List.length_drop]; omega) (bytes_drop hb _) (by rw [List.length_drop]; omega) _ (by rw [List.length_append, List.length_drop]; simp; omega) c (by omega), feedA_pos hb h]
      have e2 : Int.toNat 2 = 2 := rfl
      rw [e2]
      by_cases hq : (feedA (all.drop (firstF all).toNat)).2.2 = true
      · rw [if_pos hq, if_pos hq]; simp
      · rw [if_neg hq, if_neg hq]; simp
theorem G25_is (k : Nat) (r : Reader) (b : List Int) (hr : ∀ c ∈ r.1, byteOK c) (hb : ∀ c ∈ b, byteOK c) (hl : r.1.length + b.length ≤ 100000000) (hk : r.1.length + b.length + 10 < k) : G25 k (r, b, ()) = some ((feedR r b).1, (feedR r b).2.1, (feedR r b).2.2, ()) := by
  have hR := G50_is k r hr (by omega)
  obtain ⟨rest, br, ⟨⟩⟩ := r
  have hl : rest.length + b.length ≤ 100000000 := hl
  have hk : rest.length + b.length + 10 < k := hk
  have hr : ∀ c ∈ rest, byteOK c := hr
  rw [G25_eq, hR, ocall_some]
  unfold feedR
  cases hrr : rightR (rest, br, ()) with
  | false => rw [if_neg (by simp)]; rfl
  | true =>
  rw [if_pos rfl]
  simp only [Bool.not_true, sel_false]
  cases br with
  | true => rw [sel_true, if_pos rfl]
  | false =>
  rw [sel_false, if_neg (by simp), G40_is k [rest, b] (by simp) (by simp; omega) (by simp only [lenSum]; omega), ocall_some]
  have ef : [rest, b].flatten = rest ++ b := by simp
  have hab := bytes_app hr hb
  have hlen : (rest ++ b).length = rest.length + b.length := List.length_append
  simp only [ef, ofNat_len]
  rw [G51_is k (rest ++ b) hab (by omega), ocall_some]
  (try simp only [])
  generalize rest ++ b = all at hab hlen
  rcases first_cases all hab with h | h | h
  · rw [feedA_zero hab h, if_neg (by simp), sel_neg (by omega), sel_neg (by omega), cloneB k all (by omega), ocall_some]
  · rw [feedA_neg hab (by omega), if_pos rfl, sel_neg (by omega), sel_pos (by omega)]
  · have hf := first_pos hab h
    rw [sel_pos h, sel_pos (by omega), sel_pos (Int.le_refl _), sel_pos (by omega), sel_pos (by omega), sel_pos (by omega), sel_pos (Int.le_refl _), sel_pos (Int.le_refl _), Int.toNat_natCast, List.take_of_length_le (Nat.le_refl all.length),
      G25_g0_is k all.length _ (by rw [List.length_drop]; omega) (bytes_drop hab _) (by rw [List.length_drop]; omega) _ (by rw [List.length_drop]; simp; omega) k (by omega), ocall_some, feedA_pos hab h]
    have e2 : Int.toNat 2 = 2 := rfl
    rw [e2]
    by_cases hq : (feedA (all.drop (firstF all).toNat)).2.2 = true
    · rw [if_pos hq, if_pos hq]; simp
    · rw [if_neg hq, if_neg hq]; simp
end Go.Proofs.YtjgnpmdbkgeakaaGreatDoor.G
end
section
set_option linter.unusedVariables false
set_option linter.unusedSimpArgs false
set_option maxRecDepth 100000
namespace Go.Proofs.YtjgnpmdbkgeakaaGreatDoor.G
open Go Go.Proofs.YtjgnpmdbkgeakaaGreatDoor Th Bits
theorem hdr_wrap {x y : Nat} (hx : x < 256) (hy : y < 256) : IntKind.i64.wrap (IntKind.i64.wrap (256 * IntKind.i64.wrap (x : Int)) + IntKind.i64.wrap (y : Int)) = ((256 * x + y : Nat) : Int) := by
  rw [wrap64 (n := (x : Int)) (by omega) (by omega), wrap64 (n := (y : Int)) (by omega) (by omega), wrap64 (n := 256 * (x : Int)) (by omega) (by omega), wrap64 (by omega) (by omega)]
  omega
theorem feedA_nil : feedA [] = ([], [], false) := rfl
theorem toBytes_ofB : ∀ (b : List Int), (∀ c ∈ b, byteOK c) → toBytes (ofBytes b) = b := by
  intro b
  induction b with
  | nil => intro _; rfl
  | cons c b ih =>
    intro h
    have h1 := h c (List.mem_cons_self ..)
    have h2 := ih fun c hc => h c (List.mem_cons_of_mem _ hc)
    unfold byteOK at h1
    simp only [ofBytes, toBytes, List.map_cons, List.map_map] at h2 ⊢
    rw [h2]
    congr 1
    simp
    omega
theorem ofBytes_inj {a b : List Int} (ha : ∀ c ∈ a, byteOK c) (hb : ∀ c ∈ b, byteOK c) : decide (ofBytes a = ofBytes b) = decide (a = b) := by
  refine decide_eq_decide.2 ⟨fun h => ?_, fun h => by rw [h]⟩
  rw [← toBytes_ofB a ha, h, toBytes_ofB b hb]
theorem G32_4_is (k : Nat) (a b : List (List Int)) (hab : a.length = b.length) (hl : a.length ≤ 1000000000) (ha : ∀ x ∈ a, ∀ c ∈ x, byteOK c) (hb : ∀ x ∈ b, ∀ c ∈ x, byteOK c) : ∀ (j i : Nat), i + j = a.length → ∀ n, j < n →
    G32_4 k n (a, b, (i : Int), ()) = some (sel (decide (a.drop i = b.drop i)) (.inl ()) (.inr (false, ()))) := by
  intro j
  induction j with
  | zero =>
    intro i hij n hn
    obtain ⟨n, rfl⟩ : ∃ m, n = m + 1 := ⟨n - 1, by omega⟩
    rw [G32_4_eq, sel_neg (by simp only [ofNat_len]; omega), List.drop_eq_nil_of_le (by omega), List.drop_eq_nil_of_le (by omega)]
    rfl
  | succ j ih =>
    intro i hij n hn
    obtain ⟨n, rfl⟩ : ∃ m, n = m + 1 := ⟨n - 1, by omega⟩
    have hlt : i < a.length := by omega
    have hlt' : i < b.length := by omega
    rw [G32_4_eq]
    simp only [ofNat_len, Int.toNat_natCast, getD_of hlt, getD_of hlt']
    rw [sel_pos (by omega), sel_pos (by omega), sel_pos (by omega), sel_pos (by omega), sel_pos (by omega), ofBytes_inj (ha _ (List.getElem_mem _)) (hb _ (List.getElem_mem _)), List.drop_eq_getElem_cons hlt, List.drop_eq_getElem_cons hlt', wrap64 (by omega) (by omega)]
    simp only [List.cons.injEq]
    by_cases c : a[i] = b[i]
    · rw [decide_eq_true c, Bool.not_true, sel_false]
      have := ih (i + 1) (by omega) n (by omega)
      simp only [Int.natCast_add, Int.natCast_one] at this
      rw [this]
      have e : decide (a[i] = b[i] ∧ a.drop (i + 1) = b.drop (i + 1)) = decide (a.drop (i + 1) = b.drop (i + 1)) := decide_eq_decide.2 ⟨fun h => h.2, fun h => ⟨c, h⟩⟩
      rw [e]
    · rw [decide_eq_false c, Bool.not_false, sel_true, decide_eq_false (fun h => c h.1)]; rfl
theorem G32_is (k : Nat) (a b : List (List Int)) (hl : a.length ≤ 1000000000) (hk : a.length < k) (ha : ∀ x ∈ a, ∀ c ∈ x, byteOK c) (hb : ∀ x ∈ b, ∀ c ∈ x, byteOK c) : G32 k (a, b, ()) = some (decide (a = b), ()) := by
  rw [G32_eq]
  simp only [ofNat_len]
  by_cases h2 : a.length = b.length
  case neg =>
    rw [decide_eq_false (show ¬ (a.length : Int) = (b.length : Int) by omega), Bool.not_false, sel_true, decide_eq_false (fun e => h2 (by rw [e]))]
  rw [decide_eq_true (show (a.length : Int) = (b.length : Int) by omega), Bool.not_true, sel_false]
  have := G32_4_is k a b h2 hl ha hb a.length 0 (by omega) k hk
  simp only [List.drop_zero, Int.natCast_zero] at this
  rw [this, ocall_some]
  cases decide (a = b) <;> rfl
end Go.Proofs.YtjgnpmdbkgeakaaGreatDoor.G
end
section
set_option linter.unusedVariables false
set_option linter.unusedSimpArgs false
set_option maxRecDepth 100000
namespace Go.Proofs.YtjgnpmdbkgeakaaGreatDoor.G
open Go Go.Proofs.YtjgnpmdbkgeakaaGreatDoor Th Bits
def frameW (b : List Int) : List Int := ((b.length / 256 % 256 : Nat) : Int) :: ((b.length % 256 : Nat) : Int) :: b
def putW (b : List Int) : List Int × Int := if b.length = 0 then ([], 2) else if 2048 < b.length then ([], 4) else (frameW b, 0)
theorem G18_is (k : Nat) (b : List Int) : G18 k (b, ()) = some ((putW b).1, (putW b).2, ()) := by
  rw [G18_eq]
  unfold putW
  by_cases h : b.length = 0
  · rw [sel_pos h, if_pos h]
  · rw [sel_neg h, if_neg h]
    by_cases h2 : 2048 < b.length
    · rw [sel_pos h2, if_pos h2]
    · rw [sel_neg h2, if_neg h2]; rfl
theorem frameW_bytes {b : List Int} (hb : ∀ c ∈ b, byteOK c) : ∀ c ∈ frameW b, byteOK c := by
  intro c hc
  unfold frameW at hc
  rcases List.mem_cons.1 hc with h | hc
  · rw [h]; unfold byteOK; omega
  rcases List.mem_cons.1 hc with h | hc
  · rw [h]; unfold byteOK; omega
  · exact hb c hc
theorem frameW_len (b : List Int) : (frameW b).length = b.length + 2 := by simp [frameW]
theorem frame_first {b : List Int} (hb : ∀ c ∈ b, byteOK c) (h1 : 1 ≤ b.length) (h2 : b.length ≤ 2048) (t : List Int) : firstF (frameW b ++ t) = ((b.length + 2 : Nat) : Int) := by
  have hh : hdrN (frameW b ++ t) = (b.length : Int) := by
    show 256 * (((b.length / 256 % 256 : Nat) : Int)) + (((b.length % 256 : Nat) : Int)) = _
    omega
  unfold firstF
  rw [if_neg (by rw [List.length_append, frameW_len]; omega), hh, if_neg (by omega), if_neg (by rw [List.length_append, frameW_len]; omega)]
  omega
theorem feed_frame {b : List Int} (hb : ∀ c ∈ b, byteOK c) (h1 : 1 ≤ b.length) (h2 : b.length ≤ 2048) {t : List Int} (ht : ∀ c ∈ t, byteOK c) : feedA (frameW b ++ t) = (b :: (feedA t).1, (feedA t).2) := by
  have hf := frame_first hb h1 h2 t
  rw [feedA_pos (bytes_app (frameW_bytes hb) ht) (by rw [hf]; omega), hf, Int.toNat_natCast, ← frameW_len, List.take_left, List.drop_left]
  rfl
end Go.Proofs.YtjgnpmdbkgeakaaGreatDoor.G
end
section
set_option linter.unusedVariables false
set_option linter.unusedSimpArgs false
set_option maxRecDepth 100000
namespace Go.Proofs.YtjgnpmdbkgeakaaGreatDoor.G
open Go Go.Proofs.YtjgnpmdbkgeakaaGreatDoor Th
theorem qClone (k : Nat) (l : List Int) (h : l.length ≤ 140737488355328) : G52 k l = some (l, ()) := by
  rw [G52_eq, sel_pos (by omega)]
theorem qClones (k : Nat) (l : List (List Int)) (h : l.length * 24 ≤ 140737488355328) : G71 k l = some (l, ()) := by
  rw [G71_eq, sel_pos (by omega)]
end Go.Proofs.YtjgnpmdbkgeakaaGreatDoor.G
end
section
set_option linter.unusedVariables false
set_option linter.unusedSimpArgs false
set_option maxRecDepth 100000
namespace Go.Proofs.YtjgnpmdbkgeakaaGreatDoor.G
open Go Go.Proofs.YtjgnpmdbkgeakaaGreatDoor Th
abbrev Queue := Int × List (List Int) × Unit
def qRight (q : Queue) : Bool := decide (1 ≤ q.1) && decide (q.1 ≤ 64) && decide ((q.2.1.length : Int) ≤ q.1)
theorem qRight_iff {q : Queue} : qRight q = true ↔ 1 ≤ q.1 ∧ q.1 ≤ 64 ∧ (q.2.1.length : Int) ≤ q.1 := by simp [qRight, and_assoc]
theorem G69_is (k : Nat) (q : Queue) : G69 k (q, ()) = some (qRight q, ()) := by
  obtain ⟨r, l, ⟨⟩⟩ := q
  rw [G69_eq]
  simp only [sel_dec, qRight, ofNat_len]
  split <;> (try split) <;> simp [*]
theorem G70_is (k : Nat) (q : Queue) (h : qRight q = true) : G70 k (q, ()) = some (q.1 - q.2.1.length, ()) := by
  have hR := G69_is k q
  have hq := qRight_iff.1 h
  obtain ⟨r, l, ⟨⟩⟩ := q
  (try simp only [] at hq ⊢)
  rw [G70_eq, hR, h, ocall_some]
  simp only [Bool.not_true, sel_false, ofNat_len]
  rw [wrap64 (by omega) (by omega)]
theorem G30_7_is (k : Nat) (l items xs : List (List Int)) (r y : Int) (hl : l.length ≤ 1000) (hi : items.length ≤ 1000) (hb : ∀ x ∈ l, x.length ≤ 140737488351232) : ∀ (j i : Nat), i + j = l.length →
    ∀ n, j < n → G30_7 k n (l, (l.length : Int), (i : Int), r, items ++ l.take i, y, xs, ()) = some (r, items ++ l, y, xs, ()) := by
  intro j
  induction j with
  | zero =>
    intro i hij n hn
    obtain ⟨n, rfl⟩ : ∃ m, n = m + 1 := ⟨n - 1, by omega⟩
    rw [G30_7_eq, sel_neg (by omega), List.take_of_length_le (by omega)]
  | succ j ih =>
    intro i hij n hn
    obtain ⟨n, rfl⟩ : ∃ m, n = m + 1 := ⟨n - 1, by omega⟩
    have hlt : i < l.length := by omega
    have hb' := hb l[i] (List.getElem_mem _)
    rw [G30_7_eq]
    simp only [Int.toNat_natCast, getD_of hlt, ofNat_len]
    rw [sel_pos (by omega), sel_pos (by omega), sel_pos (by omega), qClone k _ (by omega), ocall_some, sel_pos (by simp only [List.length_append, List.length_take]; omega), wrap64 (by omega) (by omega)]
    have := ih (i + 1) (by omega) n (by omega)
    rw [List.take_add_one, List.getElem?_eq_getElem hlt, ← List.append_assoc] at this
    exact this
def putQ (q : Queue) (m : List (List Int)) : Queue × Int := if qRight q = true then (if (q.2.1.length : Int) + m.length ≤ q.1 then ((q.1, q.2.1 ++ m, ()), 0) else (q, 7)) else (q, 1)
theorem G30_is (k : Nat) (q : Queue) (m : List (List Int)) (hm : m.length < k) (hm2 : m.length ≤ 1000000) (hb : ∀ x ∈ m, x.length ≤ 140737488351232) : G30 k (q, m, ()) = some ((putQ q m).1, (putQ q m).2, ()) := by
  have hR := G69_is k q
  have hL := G70_is k q
  have hq := @qRight_iff q
  obtain ⟨r, l, ⟨⟩⟩ := q
  (try simp only [] at hq hL)
  rw [G30_eq, hR, ocall_some]
  unfold putQ
  cases h : qRight (r, l, ()) with
  | false => rw [if_neg (by simp)]; rfl
  | true =>
    have hq := hq.1 h
    rw [if_pos rfl, hL h, ocall_some]
    simp only [Bool.not_true, sel_false, ofNat_len]
    by_cases c : (l.length : Int) + m.length ≤ r
    · rw [sel_neg (by omega), qClones k l (by omega), ocall_some, if_pos c]
      have := G30_7_is k m l [] r 0 (by omega) (by omega) hb m.length 0 (by omega) k hm
      simp only [List.take_zero, List.append_nil, Int.natCast_zero] at this
      rw [this, ocall_some]
    · rw [sel_pos (by omega), if_neg c]
end Go.Proofs.YtjgnpmdbkgeakaaGreatDoor.G
end
section
set_option linter.unusedVariables false
set_option linter.unusedSimpArgs false
set_option maxRecDepth 100000
namespace Go.Proofs.YtjgnpmdbkgeakaaGreatDoor.G
open Go Go.Proofs.YtjgnpmdbkgeakaaGreatDoor Th Bits
def letterB (d : Deal) : List Int := frameW (sendB d)
theorem letter_len {d : Deal} (gd : goodD d) (h : dealOK d = true) : (letterB d).length ≤ 202 := by unfold letterB; rw [frameW_len]; have := send_size gd h; omega
theorem letter_bytes (d : Deal) : ∀ c ∈ letterB d, byteOK c := frameW_bytes (send_bytes d)
theorem G8_is (k L : Nat) (hk : 2000 < k) (hL : L ≤ 1000000) (hkL : L + 100 < k) (d : Deal) (gd : goodD d) (hl : lens L d) : G8 k (d, ()) = some (if dealOK d = true then (letterB d, 0, ()) else ([], 1, ())) := by
  have hD := sendDealL k L hL hkL d gd hl
  have hM := sendMsg k hk gd
  have hs := send_size gd
  have hp := send_pos gd
  unfold letterB
  generalize sendB d = B at hM hs hp ⊢
  generalize sendM d = M at hD hM ⊢
  obtain ⟨k1, k2, k3, k4, k5, k6, ⟨⟩⟩ := d
  rw [G8_eq, hD]
  by_cases hok : dealOK (k1, k2, k3, k4, k5, k6, ()) = true
  · have hM' : G17 k ((M.1, M.2.1, ()), ()) = some (B, 0, ()) := hM hok
    have hs := hs hok
    have hp := hp hok
    have hP : putW B = (frameW B, 0) := by unfold putW; rw [if_neg (by omega), if_neg (by omega)]
    rw [if_pos hok, if_pos hok, ocall_some]
    simp only [decide_true, Bool.not_true, sel_false]
    rw [hM', ocall_some, G18_is, hP, ocall_some]
  · rw [if_neg hok, if_neg hok, ocall_some]
    rfl
def isOne (b : List Int) : Bool := decide ((feedR ([], false, ()) b).2.2 = 0) && (decide ((feedR ([], false, ()) b).2.1.length = 1) && decide ((feedR ([], false, ()) b).1.1.length = 0))
def openF (b : List Int) : Deal × Int := if isOne b = true then (if (readM (b.drop 2)).2 = 0 then readD (readM (b.drop 2)).1 else (zeroD, (readM (b.drop 2)).2)) else (zeroD, 3)
theorem feed0 (b : List Int) : feedR ([], false, ()) b = if (feedA b).2.2 = true then (([], true, ()), (feedA b).1, 12) else (((feedA b).2.1, false, ()), (feedA b).1, 0) := by
  unfold feedR
  rw [if_pos (show rightR ([], false, ()) = true from rfl), if_neg (by simp)]
  rfl
theorem one_frame {b : List Int} (hb : ∀ c ∈ b, byteOK c) : isOne b = true ↔ (b = frameW (b.drop 2) ∧ 3 ≤ b.length ∧ b.length ≤ 2050) := by
  unfold isOne
  rw [feed0]
  constructor
  · intro h
    by_cases c : (feedA b).2.2 = true
    · rw [if_pos c] at h; exact absurd h (by simp)
    rw [if_neg c] at h
    simp only [Bool.and_eq_true, decide_eq_true_eq, decide_true, true_and] at h
    obtain ⟨h1, h2⟩ := h
    rcases first_cases b hb with f | f | f
    · rw [feedA_zero hb f] at h1; exact absurd h1 (by simp)
    · rw [feedA_neg hb (by omega)] at c; exact absurd rfl c
    · have hp := first_pos hb f
      rw [feedA_pos hb f] at h1 h2 c
      simp only [List.length_cons] at h1
      have hd := bytes_drop hb (firstF b).toNat
      have he : b.drop (firstF b).toNat = [] := by
        generalize b.drop (firstF b).toNat = y at h1 h2 c hd
        rcases first_cases y hd with g | g | g
        · rw [feedA_zero hd g] at h2
          exact List.eq_nil_of_length_eq_zero h2
        · rw [feedA_neg hd (by omega)] at c; exact absurd rfl c
        · rw [feedA_pos hd g] at h1; simp at h1
      have hle : b.length ≤ (firstF b).toNat := by
        have := congrArg List.length he
        rw [List.length_drop] at this
        simp only [List.length_nil] at this
        omega
      obtain ⟨x, y, e0, e1, hx, hy, hh⟩ := hdrN_ok hb hp.2.2.2.2.2
      clear f h1 h2 c hd he
      match b, hb, hp, hle, e0, e1, hh with
      | u :: v :: t, hb, hp, hle, e0, e1, hh =>
        obtain rfl : u = (x : Int) := e0
        obtain rfl : v = (y : Int) := e1
        have hlen : ((x : Int) :: (y : Int) :: t).length = t.length + 2 := rfl
        have hl : t.length = 256 * x + y := by omega
        refine ⟨?_, by omega, by omega⟩
        show (x : Int) :: (y : Int) :: t = ((t.length / 256 % 256 : Nat) : Int) :: ((t.length % 256 : Nat) : Int) :: t
        have q1 : x = t.length / 256 % 256 := by omega
        have q2 : y = t.length % 256 := by omega
        rw [← q1, ← q2]
  · rintro ⟨h1, h2, h3⟩
    have hx : ∀ c ∈ b.drop 2, byteOK c := bytes_drop hb 2
    have hl : (b.drop 2).length = b.length - 2 := by rw [List.length_drop]
    have hf := feed_frame hx (by omega) (by omega) (t := []) (by simp)
    rw [List.append_nil, ← h1, feedA_nil] at hf
    rw [hf]
    rfl
theorem one_item {b : List Int} (hb : ∀ c ∈ b, byteOK c) (h : isOne b = true) : (feedR ([], false, ()) b).2.1 = [b.drop 2] := by
  obtain ⟨h1, h2, h3⟩ := (one_frame hb).1 h
  have hx : ∀ c ∈ b.drop 2, byteOK c := bytes_drop hb 2
  have hl : (b.drop 2).length = b.length - 2 := by rw [List.length_drop]
  have hf := feed_frame hx (by omega) (by omega) (t := []) (by simp)
  rw [List.append_nil, ← h1, feedA_nil] at hf
  rw [feed0, hf]
  rfl
theorem G11_is (k : Nat) (hk : 2000 < k) (b : List Int) (hb : ∀ c ∈ b, byteOK c) (hl : b.length ≤ 10000000) (hkl : b.length + 10 < k) : G11 k (b, ()) = some ((openF b).1, (openF b).2, ()) := by
  have hF := G25_is k ([], false, ()) b (by simp) hb (by simp; omega) (by simp; omega)
  rw [G11_eq, hF, ocall_some]
  unfold openF
  simp only [ofNat_len]
  by_cases ho : isOne b = true
  case neg =>
    rw [if_neg ho]
    unfold isOne at ho
    by_cases c1 : (feedR ([], false, ()) b).2.2 = 0
    case neg => rw [sel_not, sel_neg c1]; rfl
    rw [sel_not, sel_pos c1]
    by_cases c2 : (feedR ([], false, ()) b).2.1.length = 1
    case neg => rw [sel_not, sel_neg (by omega)]; rfl
    rw [sel_not, sel_pos (by omega)]
    by_cases c3 : (feedR ([], false, ()) b).1.1.length = 0
    · exact absurd (by rw [decide_eq_true c1, decide_eq_true c2, decide_eq_true c3]; rfl) ho
    · rw [sel_pos (by omega)]; rfl
  rw [if_pos ho]
  have hit := one_item hb ho
  have ho2 := ho
  unfold isOne at ho2
  simp only [Bool.and_eq_true, decide_eq_true_eq] at ho2
  have hx : ∀ c ∈ b.drop 2, byteOK c := bytes_drop hb 2
  have hxl : (b.drop 2).length ≤ b.length := by rw [List.length_drop]; omega
  rw [sel_not, sel_pos ho2.1, sel_not, sel_pos (by omega), sel_neg (by omega), hit, sel_pos (by simp), sel_pos (by simp)]
  rw [show ([b.drop 2] : List (List Int)).getD (Int.toNat 0) [] = b.drop 2 from rfl, G26_is k (by omega) _ hx (by omega), ocall_some]
  generalize b.drop 2 = x at hx
  by_cases he : (readM x).2 = 0
  case neg => rw [sel_not, sel_neg he, if_neg he]; rfl
  obtain ⟨w1, w2, w3⟩ := write_read_msg hx he
  have eR : ((((readM x).1.1, (readM x).1.2.1, ()) : Msg)) = (readM x).1 := rfl
  rw [sel_not, sel_pos he, if_pos he]
  (try simp only [])
  rw [eR, readDeal k hk _ w1 (by omega), ocall_some]
theorem open_letter {d : Deal} (gd : goodD d) (h : dealOK d = true) : openF (letterB d) = (d, 0) := by
  have h1 := send_size gd h
  have h2 := send_pos gd h
  have hd : (letterB d).drop 2 = sendB d := rfl
  have ho : isOne (letterB d) = true := (one_frame (letter_bytes d)).2 ⟨by rw [hd]; rfl, by unfold letterB; rw [frameW_len]; omega, by unfold letterB; rw [frameW_len]; omega⟩
  obtain ⟨r1, r2⟩ := send_read gd h
  unfold openF
  rw [if_pos ho, hd, r1, if_pos rfl, r2]
def letters (l : List Deal) : List (List Int) := l.map letterB
def pushF (q : Queue) (l : List Deal) : Queue × Int := if l.all dealOK = true then putQ q (letters l) else (q, 1)
theorem pQ (k : Nat) (q : Queue) {l : List Deal} (gl : ∀ d ∈ l, goodD d) (ho : l.all dealOK = true) (hl : l.length ≤ 1000000) (hk : l.length < k) : G30 k (q, letters l, ()) = some ((putQ q (letters l)).1, (putQ q (letters l)).2, ()) :=
  G30_is k q (letters l) (by simp [letters]; omega) (by simp [letters]; omega) fun x hx => by
    obtain ⟨d, hd, rfl⟩ := List.mem_map.1 hx
    have := letter_len (gl d hd) (List.all_eq_true.1 ho d hd)
    omega
theorem push_loop (k : Nat) (hk : 2000 < k) (q : Queue) (l : List Deal) (hl : l.length ≤ 1000) (gl : ∀ d ∈ l, goodD d) (ll : ∀ d ∈ l, lens 300 d) (v4 v6 : List (List Int)) (v5 : Int) : ∀ (j i : Nat), i + j = l.length → (l.take i).all dealOK = true → ∀ n, j < n →
    G13_g0 k n (l, letters (l.take i), (i : Int), q.1, q.2.1, v5, v6, ()) = some ((pushF q l).2, (pushF q l).1.1, (pushF q l).1.2.1, ()) := by
  intro j
  induction j with
  | zero =>
    intro i hij ha n hn
    obtain ⟨n, rfl⟩ : ∃ m, n = m + 1 := ⟨n - 1, by omega⟩
    rw [List.take_of_length_le (by omega)] at ha ⊢
    have hP := pQ k q gl ha (by omega) (by omega)
    unfold pushF
    rw [if_pos ha, G13_g0_eq, sel_neg (by simp only [ofNat_len]; omega), show ((q.1, q.2.1, ()) : Queue) = q from rfl, hP, ocall_some]
  | succ j ih =>
    intro i hij ha n hn
    obtain ⟨n, rfl⟩ : ∃ m, n = m + 1 := ⟨n - 1, by omega⟩
    have hlt : i < l.length := by omega
    have hm := List.getElem_mem hlt
    have hL : G8 k (((l[i]).1, (l[i]).2.1, (l[i]).2.2.1, (l[i]).2.2.2.1, (l[i]).2.2.2.2.1, (l[i]).2.2.2.2.2.1, ()), ()) = _ := G8_is k 300 hk (by omega) (by omega) l[i] (gl _ hm) (ll _ hm)
    have hw : IntKind.i64.wrap ((i : Int) + 1) = ((i + 1 : Nat) : Int) := by rw [wrap64 (by omega) (by omega)]; omega
    rw [G13_g0_eq]
    simp only [ofNat_len, Int.toNat_natCast, getD_of hlt]
    rw [sel_pos (by omega), sel_pos (by omega), sel_pos (by omega), hL, ocall_some]
    by_cases ho : dealOK l[i] = true
    · rw [if_pos ho]
      simp only [decide_true, Bool.not_true, sel_false]
      have e : letters (l.take i) ++ [letterB l[i]] = letters (l.take (i + 1)) := by
        unfold letters; rw [List.take_add_one, List.getElem?_eq_getElem hlt, List.map_append]; rfl
      have hlen : (letters (l.take i)).length ≤ 1000 := by unfold letters; rw [List.length_map, List.length_take]; omega
      rw [sel_pos (by omega), hw, e]
      refine ih (i + 1) (by omega) ?_ n (by omega)
      rw [List.take_add_one, List.getElem?_eq_getElem hlt, List.all_append, ha]
      simp [ho]
    · rw [if_neg ho]
      have e : pushF q l = (q, 1) := by
        unfold pushF
        rw [if_neg fun h => ho (List.all_eq_true.1 h _ hm)]
      rw [e]
      rfl
theorem G13_is (k : Nat) (hk : 2000 < k) (q : Queue) (l : List Deal) (hl : l.length ≤ 1000) (gl : ∀ d ∈ l, goodD d) (ll : ∀ d ∈ l, lens 300 d) : G13 k (q, l, ()) = some ((pushF q l).1, (pushF q l).2, ()) := by
  have hlp := push_loop k hk q l hl gl ll
  have hQ := fun h => pQ k q gl h (by omega) (by omega)
  obtain ⟨r, items, ⟨⟩⟩ := q
  rw [G13_eq]
  simp only [ofNat_len]
  by_cases h0 : l.length = 0
  · have : l = [] := List.eq_nil_of_length_eq_zero h0
    subst this
    have hQ := hQ rfl
    rw [sel_neg (by simp), show ([] : List (List Int)) = letters [] from rfl, hQ, ocall_some]
    rfl
  have hlt : 0 < l.length := by omega
  have hm := List.getElem_mem hlt
  have hL : G8 k (((l[0]).1, (l[0]).2.1, (l[0]).2.2.1, (l[0]).2.2.2.1, (l[0]).2.2.2.2.1, (l[0]).2.2.2.2.2.1, ()), ()) = _ := G8_is k 300 hk (by omega) (by omega) l[0] (gl _ hm) (ll _ hm)
  have e0 : l.getD (Int.toNat 0) (0, [], 0, 0, [], [], ()) = l[0] := getD_of hlt _
  simp only [e0]
  rw [sel_pos (by omega), sel_pos (by omega), hL, ocall_some]
  by_cases ho : dealOK l[0] = true
  · rw [if_pos ho]
    simp only [decide_true, Bool.not_true, sel_false]
    have e : [letterB l[0]] = letters (l.take 1) := by
      unfold letters; rw [List.take_add_one, List.getElem?_eq_getElem hlt]; rfl
    have hw : IntKind.i64.wrap (0 + 1) = ((1 : Nat) : Int) := by rfl
    rw [hw, e, hlp [] [] 0 (l.length - 1) 1 (by omega) (by rw [List.take_add_one, List.getElem?_eq_getElem hlt]; simp [ho]) k (by omega), ocall_some]
  · rw [if_neg ho]
    have e : pushF (r, items, ()) l = ((r, items, ()), 1) := by
      unfold pushF
      rw [if_neg fun h => ho (List.all_eq_true.1 h _ hm)]
    rw [e]
    rfl
end Go.Proofs.YtjgnpmdbkgeakaaGreatDoor.G
end
section
set_option linter.unusedVariables false
set_option linter.unusedSimpArgs false
set_option maxRecDepth 100000
namespace Go.Proofs.YtjgnpmdbkgeakaaGreatDoor.G
open Go Go.Proofs.YtjgnpmdbkgeakaaGreatDoor Th Bits
theorem deals_loop (k : Nat) (l : List Deal) (most : Nat) (hm : most ≤ 1000) : ∀ (j i : Nat), i + j = (l.take (most + 1)).length → ∀ n, j < n →
    G7_2 k n (l, (most : Int), (i : Int), ()) = some (if ((l.take (most + 1)).drop i).all (fun d => decide (lens 300 d)) = true then .inl (l, (most : Int), ()) else .inr (false, ())) := by
  intro j
  induction j with
  | zero =>
    intro i hij n hn
    obtain ⟨n, rfl⟩ : ∃ m, n = m + 1 := ⟨n - 1, by omega⟩
    rw [List.drop_eq_nil_of_le (by omega), G7_2_eq]
    rw [List.length_take] at hij
    simp only [ofNat_len]
    by_cases h : i < l.length
    · rw [sel_pos (by omega), sel_neg (by omega)]; rfl
    · rw [sel_neg (by omega)]; rfl
  | succ j ih =>
    intro i hij n hn
    obtain ⟨n, rfl⟩ : ∃ m, n = m + 1 := ⟨n - 1, by omega⟩
    have hlt' : i < (l.take (most + 1)).length := by omega
    have hij' := hij
    rw [List.length_take] at hij'
    have hlt : i < l.length := by omega
    have hS : G5 k (((l[i]).1, (l[i]).2.1, (l[i]).2.2.1, (l[i]).2.2.2.1, (l[i]).2.2.2.2.1, (l[i]).2.2.2.2.2.1, ()), ()) = _ := shortS k l[i]
    have hw : IntKind.i64.wrap ((i : Int) + 1) = ((i + 1 : Nat) : Int) := by rw [wrap64 (by omega) (by omega)]; omega
    have he : (l.take (most + 1))[i] = l[i] := List.getElem_take
    rw [G7_2_eq]
    simp only [ofNat_len, Int.toNat_natCast, getD_of hlt]
    rw [sel_pos (by omega), sel_pos (by omega), sel_pos (by omega), sel_pos (by omega), hS, ocall_some, List.drop_eq_getElem_cons hlt', he, List.all_cons]
    by_cases c : lens 300 l[i]
    · rw [decide_eq_true c, Bool.not_true, sel_false, hw, ih (i + 1) (by omega) n (by omega), Bool.true_and]
    · rw [decide_eq_false c, Bool.not_false, sel_true, Bool.false_and]; rfl
theorem G7_is (k : Nat) (l : List Deal) (most : Nat) (hm : most ≤ 1000) (hk : most + 1 < k) :
    ∃ b, G7 k (l, (most : Int), ()) = some (b, ()) ∧ (b = true → l.length ≤ most ∧ ∀ d ∈ l, lens 300 d) := by
  have h := deals_loop k l most hm (l.take (most + 1)).length 0 (by omega) k (by rw [List.length_take]; omega)
  rw [List.drop_zero, Int.natCast_zero] at h
  rw [G7_eq, h, ocall_some]
  by_cases c : (l.take (most + 1)).all (fun d => decide (lens 300 d)) = true
  · rw [if_pos c, esel_inl]
    refine ⟨_, rfl, fun h => ?_⟩
    have hle : l.length ≤ most := by have := of_decide_eq_true h; simp only [ofNat_len] at this; omega
    rw [List.take_of_length_le (by omega)] at c
    exact ⟨hle, fun d hd => by simpa using List.all_eq_true.1 c d hd⟩
  · rw [if_neg c, esel_inr]
    exact ⟨_, rfl, fun h => absurd h (by simp)⟩
def dP7 : Deal := (7, [], 0, 1, [82, 82, 78, 48, 48, 48, 48, 48, 48, 48, 48, 49], [48, 48], ())
theorem dP7_good : goodD dP7 := ⟨by decide, by decide⟩
theorem dP7_ok : dealOK dP7 = true := by decide
theorem dP7_lens : lens 300 dP7 := by unfold lens; decide
theorem dP7_len : (sendB dP7).length = 32 := by kernel_rfl
theorem G4_is (k : Nat) (hk : 4000 < k) : G4 k () = some (true, ()) := by
  have hL := G8_is k 300 (by omega) (by omega) (by omega) dP7 dP7_good dP7_lens
  rw [if_pos dP7_ok] at hL
  have hll := letter_len dP7_good dP7_ok
  have hO := G11_is k (by omega) (letterB dP7) (letter_bytes _) (by omega) (by omega)
  rw [open_letter dP7_good dP7_ok] at hO
  have hO2 := G11_is k (by omega) [0, 1] (by simp [byteOK]) (by simp) (by simp; omega)
  have e2 : openF [0, 1] = (zeroD, 3) := by kernel_rfl
  rw [e2] at hO2
  have g1 : ∀ d ∈ [dP7], goodD d := fun d hd => by rw [List.mem_singleton] at hd; rw [hd]; exact dP7_good
  have l1 : ∀ d ∈ [dP7], lens 300 d := fun d hd => by rw [List.mem_singleton] at hd; rw [hd]; exact dP7_lens
  have hP1 := G13_is k (by omega) (1, [], ()) [dP7] (by simp) g1 l1
  have p1 : pushF (1, [], ()) [dP7] = ((1, [letterB dP7], ()), 0) := by
    unfold pushF; rw [if_pos (by rw [List.all_cons, dP7_ok]; rfl)]; rfl
  rw [p1] at hP1
  have hP2 := G13_is k (by omega) (1, [letterB dP7], ()) [dP7] (by simp) g1 l1
  have p2 : pushF (1, [letterB dP7], ()) [dP7] = ((1, [letterB dP7], ()), 7) := by
    unfold pushF; rw [if_pos (by rw [List.all_cons, dP7_ok]; rfl)]; rfl
  rw [p2] at hP2
  have hlen : (letterB dP7).length = 34 := by unfold letterB; rw [frameW_len, dP7_len]
  have h1 : (letterB dP7).getD 1 0 = 32 := by
    show (((sendB dP7).length % 256 : Nat) : Int) = 32
    rw [dP7_len]; rfl
  generalize hB : letterB dP7 = B at hL hO hP1 hP2 hlen h1
  unfold dP7 at hL hO hP1 hP2
  unfold zeroD at hO2
  rw [G4_eq, hL, ocall_some]
  (try simp only [])
  rw [hO, ocall_some, hP1, ocall_some]
  (try simp only [])
  rw [hP2, ocall_some, hO2, ocall_some]
  simp only [ofNat_len, hlen, h1, decide_true, sel_true, show (Int.toNat 1) = 1 from rfl]
  rw [show ([B].getD (Int.toNat 0) []) = B from rfl, decide_eq_true (rfl : ofBytes B = ofBytes B)]
  rfl
end Go.Proofs.YtjgnpmdbkgeakaaGreatDoor.G
end
section
set_option linter.unusedVariables false
set_option linter.unusedSimpArgs false
set_option maxRecDepth 100000
namespace Go.Proofs.YtjgnpmdbkgeakaaGreatDoor.G
open Go Go.Proofs.YtjgnpmdbkgeakaaGreatDoor Th Bits
theorem G22_is (k : Nat) (b : List Int) (hl : b.length ≤ 2048) : G22 k (b, ()) = some (frameW b, ()) := by
  rw [G22_eq]
  simp only [ofNat_len]
  have ed : (b.length : Int).tdiv 256 = ((b.length / 256 : Nat) : Int) := rfl
  have e1 : IntKind.u8.wrap (IntKind.i64.wrap ((b.length : Int).tdiv 256)) = ((b.length / 256 % 256 : Nat) : Int) := by
    rw [ed, wrap64 (by omega) (by omega)]
    unfold IntKind.wrap
    simp only [IntKind.bits, IntKind.signed]
    simp
  have e2 : IntKind.u8.wrap ((b.length : Int).tmod 256) = ((b.length % 256 : Nat) : Int) := u8mod _
  rw [e1, e2, sel_pos (by omega)]
  rfl
end Go.Proofs.YtjgnpmdbkgeakaaGreatDoor.G
end
section
set_option linter.unusedVariables false
set_option linter.unusedSimpArgs false
set_option maxRecDepth 100000
namespace Go.Proofs.YtjgnpmdbkgeakaaGreatDoor.G
open Go Go.Proofs.YtjgnpmdbkgeakaaGreatDoor Th Bits
theorem G6_2_is (k : Nat) (l : List (List Int)) : ∀ (j i : Nat), i + j = (l.take 300).length → ∀ n, j < n →
    G6_2 k n (l, (i : Int), ()) = some (if ((l.take 300).drop i).all (fun x => decide (x.length ≤ 3000)) = true then .inl (l, ()) else .inr (false, ())) := by
  intro j
  induction j with
  | zero =>
    intro i hij n hn
    obtain ⟨n, rfl⟩ : ∃ m, n = m + 1 := ⟨n - 1, by omega⟩
    rw [List.drop_eq_nil_of_le (by omega), G6_2_eq]
    rw [List.length_take] at hij
    simp only [ofNat_len]
    by_cases h : i < l.length
    · rw [sel_pos (by omega), sel_neg (by omega)]; rfl
    · rw [sel_neg (by omega)]; rfl
  | succ j ih =>
    intro i hij n hn
    obtain ⟨n, rfl⟩ : ∃ m, n = m + 1 := ⟨n - 1, by omega⟩
    have hlt' : i < (l.take 300).length := by omega
    have hij' := hij
    rw [List.length_take] at hij'
    have hlt : i < l.length := by omega
    have hw : IntKind.i64.wrap ((i : Int) + 1) = ((i + 1 : Nat) : Int) := by rw [wrap64 (by omega) (by omega)]; omega
    have he : (l.take 300)[i] = l[i] := List.getElem_take
    rw [G6_2_eq]
    simp only [ofNat_len, Int.toNat_natCast, getD_of hlt]
    rw [sel_pos (by omega), sel_pos (by omega), sel_pos (by omega), sel_pos (by omega), List.drop_eq_getElem_cons hlt', he, List.all_cons]
    by_cases c : l[i].length ≤ 3000
    · rw [sel_neg (by omega), hw, ih (i + 1) (by omega) n (by omega), decide_eq_true c, Bool.true_and]
    · rw [sel_pos (by omega), decide_eq_false c, Bool.false_and]; rfl
theorem G6_is (k : Nat) (hk : 301 < k) (l : List (List Int)) : ∃ b, G6 k (l, ()) = some (b, ()) ∧ (b = true → l.length ≤ 300 ∧ ∀ x ∈ l, x.length ≤ 3000) := by
  have h := G6_2_is k l (l.take 300).length 0 (by omega) k (by rw [List.length_take]; omega)
  rw [List.drop_zero, Int.natCast_zero] at h
  rw [G6_eq, h, ocall_some]
  by_cases c : (l.take 300).all (fun x => decide (x.length ≤ 3000)) = true
  · rw [if_pos c, esel_inl]
    refine ⟨_, rfl, fun h => ?_⟩
    have hle : l.length ≤ 300 := by have := of_decide_eq_true h; simp only [ofNat_len] at this; omega
    rw [List.take_of_length_le (by omega)] at c
    exact ⟨hle, fun x hx => by simpa using List.all_eq_true.1 c x hx⟩
  · rw [if_neg c, esel_inr]
    exact ⟨_, rfl, fun h => absurd h (by simp)⟩
end Go.Proofs.YtjgnpmdbkgeakaaGreatDoor.G
end
section
set_option linter.unusedVariables false
set_option linter.unusedSimpArgs false
set_option maxRecDepth 100000
namespace Go.Proofs.YtjgnpmdbkgeakaaGreatDoor.G
open Go Go.Proofs.YtjgnpmdbkgeakaaGreatDoor Th Bits
theorem G72_is (k : Nat) (q : Queue) : G72 k (q, ()) = some (qRight q, ()) := by
  obtain ⟨r, l, ⟨⟩⟩ := q
  rw [G72_eq]
  unfold qRight
  simp only [ofNat_len]
  by_cases h1 : 0 < r
  · rw [sel_pos h1, decide_eq_true (show 1 ≤ r by omega), Bool.true_and]
    by_cases h2 : r < 65
    · rw [sel_pos h2, decide_eq_true (show r ≤ 64 by omega), Bool.true_and]
    · rw [sel_neg h2, decide_eq_false (show ¬ r ≤ 64 by omega), Bool.false_and]
  · rw [sel_neg h1, decide_eq_false (show ¬ 1 ≤ r by omega), Bool.false_and, Bool.false_and]
theorem G31_is (k : Nat) (q : Queue) (m : List (List Int)) (hm : m.length ≤ 1000000) : G31 k (q, m, ()) = some ((putQ q m).1, (putQ q m).2, ()) := by
  have hR := G72_is k q
  have hq := @qRight_iff q
  obtain ⟨r, l, ⟨⟩⟩ := q
  (try simp only [] at hq)
  rw [G31_eq, hR, ocall_some]
  unfold putQ
  cases h : qRight (r, l, ()) with
  | false => rw [if_neg (by simp)]; rfl
  | true =>
    have hq := hq.1 h
    rw [if_pos rfl]
    have hw : IntKind.i64.wrap ((l.length : Int) + (m.length : Int)) = (l.length : Int) + (m.length : Int) := wrap64 (by omega) (by omega)
    simp only [Bool.not_true, sel_false, ofNat_len, hw]
    by_cases c : (l.length : Int) + m.length ≤ r
    · rw [sel_neg (by omega), if_pos c, sel_pos (by omega), sel_pos (by omega)]
    · rw [sel_pos (by omega), if_neg c]
end Go.Proofs.YtjgnpmdbkgeakaaGreatDoor.G
end
section
set_option linter.unusedVariables false
set_option linter.unusedSimpArgs false
set_option maxRecDepth 100000
namespace Go.Proofs.YtjgnpmdbkgeakaaGreatDoor.G
open Go Go.Proofs.YtjgnpmdbkgeakaaGreatDoor Th Bits
theorem G10_is (k : Nat) (hk : 2000 < k) (d : Deal) (gd : goodD d) (h : dealOK d = true) : G10 k (d, ()) = some (letterB d, ()) := by
  have hW := fun h1 h7 => G24_is k (by omega) d.1 d.2.1 d.2.2.1 d.2.2.2.1 d.2.2.2.2.1 d.2.2.2.2.2.1 h1 h7 gd.1 gd.2
  obtain ⟨a1, a7, _⟩ := ok_parts h
  have hW := hW a1 a7
  have hM : G23 k (sendM d, ()) = some (sendB d, ()) := G23_is k (by omega) (typeK d.1) (itemsK d) (by have := itemsK_len d; omega) (send_right gd h)
  have hP := G22_is k (sendB d) (by have := send_size gd h; omega)
  unfold letterB
  generalize sendB d = B at hM hP
  unfold sendM at hM
  obtain ⟨k1, k2, k3, k4, k5, k6, ⟨⟩⟩ := d
  rw [G10_eq]
  rw [show G24 k ((k1, k2, k3, k4, k5, k6, ()), ()) = _ from hW, ocall_some]
  (try simp only [] at hM ⊢)
  rw [hM, ocall_some, hP, ocall_some]
theorem one_hdr {b : List Int} (hb : ∀ c ∈ b, byteOK c) (h3 : 3 ≤ b.length) (h4 : b.length ≤ 2050) : b = frameW (b.drop 2) ↔ hdrN b = (b.length : Int) - 2 := by
  obtain ⟨x, y, e0, e1, hx, hy, hh⟩ := hdrN_ok hb (show 2 ≤ b.length by omega)
  match b, h3, h4, e0, e1, hh with
  | u :: v :: t, h3, h4, e0, e1, hh =>
    have e0 : u = x := e0
    have e1 : v = y := e1
    subst e0 e1
    have hlen : ((x : Int) :: (y : Int) :: t).length = t.length + 2 := rfl
    rw [hh]
    constructor
    · intro h
      have h : (x : Int) :: (y : Int) :: t = ((t.length / 256 % 256 : Nat) : Int) :: ((t.length % 256 : Nat) : Int) :: t := h
      have q1 := (List.cons.inj h).1
      have q2 := (List.cons.inj (List.cons.inj h).2).1
      omega
    · intro h
      show (x : Int) :: (y : Int) :: t = ((t.length / 256 % 256 : Nat) : Int) :: ((t.length % 256 : Nat) : Int) :: t
      have q1 : x = t.length / 256 % 256 := by omega
      have q2 : y = t.length % 256 := by omega
      rw [← q1, ← q2]
theorem G12_is (k : Nat) (hk : 2000 < k) (b : List Int) (hb : ∀ c ∈ b, byteOK c) (hl : b.length ≤ 10000000) : G12 k (b, ()) = some ((openF b).1, (openF b).2, ()) := by
  have hF := one_frame hb
  have hH := one_hdr hb
  rw [G12_eq]
  unfold openF
  simp only [ofNat_len]
  by_cases c3 : b.length < 3
  · rw [sel_pos (by omega), if_neg (fun h => by have := (hF.1 h).2.1; omega)]; rfl
  obtain ⟨x, y, e0, e1, hx, hy, hh⟩ := hdrN_ok (b := b) hb (show 2 ≤ b.length by omega)
  have ez : Int.toNat 0 = 0 := rfl
  have eo : Int.toNat 1 = 1 := rfl
  rw [sel_neg (by omega), sel_pos (by omega), sel_pos (by omega)]
  simp only [ez, eo, e0, e1, hdr_wrap hx hy]
  rw [wrap64 (n := (b.length : Int) - 2) (by omega) (by omega), ← hh]
  by_cases ch : hdrN b = (b.length : Int) - 2
  case neg =>
    rw [sel_not, sel_neg ch, if_neg (fun h => by obtain ⟨f1, f2, f3⟩ := hF.1 h; exact ch ((hH f2 f3).1 f1))]; rfl
  rw [sel_not, sel_pos ch]
  by_cases c4 : (2050 : Int) < b.length
  · rw [sel_pos c4, if_neg (fun h => by have := (hF.1 h).2.2; omega)]; rfl
  rw [sel_neg c4, if_pos (hF.2 ⟨(hH (by omega) (by omega)).2 ch, by omega, by omega⟩)]
  have hx2 : ∀ c ∈ b.drop 2, byteOK c := bytes_drop hb 2
  have hxl : (b.drop 2).length ≤ b.length := by rw [List.length_drop]; omega
  have ed : (Int.toNat 2) = 2 := rfl
  rw [sel_pos (by omega), sel_pos (by omega), sel_pos (by omega), ← ofNat_len, all_of_b, ed, G28_is k (by omega) _ hx2 (by omega), ocall_some]
  generalize b.drop 2 = z at hx2
  (try simp only [])
  by_cases he : (readM z).2 = 0
  case neg => rw [sel_not, sel_neg he, if_neg he]; rfl
  obtain ⟨w1, w2, w3⟩ := write_read_msg hx2 he
  have eR : ((((readM z).1.1, (readM z).1.2.1, ()) : Msg)) = (readM z).1 := rfl
  rw [sel_not, sel_pos he, if_pos he]
  (try simp only [])
  rw [eR, readDealR k hk _ w1 (by omega), ocall_some]
theorem rpush_loop (k : Nat) (hk : 2000 < k) (q : Queue) (l : List Deal) (hl : l.length ≤ 1000) (gl : ∀ d ∈ l, goodD d) (ll : ∀ d ∈ l, lens 300 d) (v5 : Int) (v6 : List (List Int)) : ∀ (j i : Nat), i + j = l.length → ∀ n, j < n →
    G14_3 k n (l, letters (l.take i), (i : Int), q.1, q.2.1, v5, v6, ()) = some (if (l.drop i).all dealOK = true then .inl (letters l, q.1, q.2.1, v5, v6, ()) else .inr (1, q.1, q.2.1, ())) := by
  intro j
  induction j with
  | zero =>
    intro i hij n hn
    obtain ⟨n, rfl⟩ : ∃ m, n = m + 1 := ⟨n - 1, by omega⟩
    rw [List.take_of_length_le (by omega), List.drop_eq_nil_of_le (by omega), G14_3_eq, sel_neg (by simp only [ofNat_len]; omega)]
    rfl
  | succ j ih =>
    intro i hij n hn
    obtain ⟨n, rfl⟩ : ∃ m, n = m + 1 := ⟨n - 1, by omega⟩
    have hlt : i < l.length := by omega
    have hm := List.getElem_mem hlt
    have hR : G9 k (((l[i]).1, (l[i]).2.1, (l[i]).2.2.1, (l[i]).2.2.2.1, (l[i]).2.2.2.2.1, (l[i]).2.2.2.2.2.1, ()), ()) = _ := G9_is k 300 (by omega) (by omega) l[i] (ll _ hm) (gl _ hm)
    have hL := fun ho : dealOK l[i] = true => G10_is k hk l[i] (gl _ hm) ho
    have hw : IntKind.i64.wrap ((i : Int) + 1) = ((i + 1 : Nat) : Int) := by rw [wrap64 (by omega) (by omega)]; omega
    rw [G14_3_eq]
    simp only [ofNat_len, Int.toNat_natCast, getD_of hlt]
    rw [sel_pos (by omega), sel_pos (by omega), sel_pos (by omega), hR, ocall_some, List.drop_eq_getElem_cons hlt, List.all_cons]
    by_cases ho : dealOK l[i] = true
    · have hL : G10 k (((l[i]).1, (l[i]).2.1, (l[i]).2.2.1, (l[i]).2.2.2.1, (l[i]).2.2.2.2.1, (l[i]).2.2.2.2.2.1, ()), ()) = _ := hL ho
      have e : letters (l.take i) ++ [letterB l[i]] = letters (l.take (i + 1)) := by
        unfold letters; rw [List.take_add_one, List.getElem?_eq_getElem hlt, List.map_append]; rfl
      have hlen : (letters (l.take i)).length ≤ 1000 := by unfold letters; rw [List.length_map, List.length_take]; omega
      rw [ho]
      simp only [Bool.not_true, sel_false, Bool.true_and]
      rw [sel_pos (by omega), sel_pos (by omega), hL, ocall_some, sel_pos (by omega), hw, e]
      exact ih (i + 1) (by omega) n (by omega)
    · rw [Bool.eq_false_iff.2 ho]; rfl
theorem G14_is (k : Nat) (hk : 2000 < k) (q : Queue) (l : List Deal) (hl : l.length ≤ 1000) (gl : ∀ d ∈ l, goodD d) (ll : ∀ d ∈ l, lens 300 d) : G14 k (q, l, ()) = some ((pushF q l).1, (pushF q l).2, ()) := by
  have hlp := rpush_loop k hk q l hl gl ll 0 [] l.length 0 (by omega) k (by omega)
  have hP := G31_is k q (letters l) (by unfold letters; rw [List.length_map]; omega)
  rw [List.drop_zero, Int.natCast_zero] at hlp
  have hlp : G14_3 k k (l, [], 0, q.1, q.2.1, 0, [], ()) = _ := hlp
  unfold pushF
  obtain ⟨r, items, ⟨⟩⟩ := q
  rw [G14_eq, hlp, ocall_some]
  by_cases h : l.all dealOK = true
  · rw [if_pos h, esel_inl, if_pos h]
    (try simp only [])
    rw [hP, ocall_some]
  · rw [if_neg h, esel_inr, if_neg h]
end Go.Proofs.YtjgnpmdbkgeakaaGreatDoor.G
end
section
set_option linter.unusedVariables false
set_option linter.unusedSimpArgs false
set_option maxRecDepth 100000
namespace Go.Proofs.YtjgnpmdbkgeakaaGreatDoor.PurePostRight
open Go Go.Proofs.YtjgnpmdbkgeakaaGreatDoor Th Bits G
theorem same (k : Nat) (q : G.Queue) (hk : q.2.1.length < k) (hl : q.2.1.length ≤ 100000) (hb : ∀ x ∈ q.2.1, ∀ c ∈ x, byteOK c) : G15 k ((q.1, q.2.1, ()), (q.1, q.2.1, ()), ()) = some (true, ()) := by
  rw [G15_eq, sel_pos rfl, G32_is k _ _ (by omega) hk hb hb, decide_eq_true rfl, ocall_some]
theorem push_in (q : G.Queue) (l : List G.Deal) (hl : l.length ≤ 300) (hq : q.2.1.length ≤ 300) (hb : ∀ x ∈ q.2.1, ∀ c ∈ x, byteOK c) : (pushF q l).1.2.1.length ≤ 600 ∧ ∀ x ∈ (pushF q l).1.2.1, ∀ c ∈ x, byteOK c := by
  have hin : ∀ x ∈ q.2.1 ++ letters l, ∀ c ∈ x, byteOK c := fun x hx => by
    rcases List.mem_append.1 hx with h | h
    · exact hb x h
    · obtain ⟨d, _, rfl⟩ := List.mem_map.1 h
      exact letter_bytes d
  unfold pushF
  split
  · unfold putQ
    split
    · split
      · exact ⟨by simp only [List.length_append, letters, List.length_map]; omega, hin⟩
      · exact ⟨Nat.le_trans hq (by decide), hb⟩
    · exact ⟨Nat.le_trans hq (by decide), hb⟩
  · exact ⟨Nat.le_trans hq (by decide), hb⟩
theorem tail (b : List Int) (q : G.Queue) (l : List G.Deal) (hb : ∀ c ∈ b, byteOK c) (hbl : b.length ≤ 3000) (hq : ∀ x ∈ q.2.1, ∀ c ∈ x, byteOK c) (hql : q.2.1.length ≤ 300) (gl : ∀ d ∈ l, goodD d) (hl : l.length ≤ 300) (ll : ∀ d ∈ l, lens 300 d) :
    (ocall (G11 6000 (b, ())) fun r => ocall (G12 6000 (b, ())) fun r_4 => ocall (G13 6000 ((q.1, q.2.1, ()), l, ())) fun r_5 => ocall (G14 6000 ((q.1, q.2.1, ()), l, ())) fun r_6 =>
      sel (sameI r.1.1 r_4.1.1 && (sameS r.1.2.1 r_4.1.2.1 && (sameI r.1.2.2.1 r_4.1.2.2.1 && (sameI r.1.2.2.2.1 r_4.1.2.2.2.1 && (sameS r.1.2.2.2.2.1 r_4.1.2.2.2.2.1 && (sameS r.1.2.2.2.2.2.1 r_4.1.2.2.2.2.2.1 && true))))))
        (sel (decide (r.2.1 = r_4.2.1)) (ocall (G15 6000 ((r_5.1.1, r_5.1.2.1, ()), (r_6.1.1, r_6.1.2.1, ()), ())) fun r => sel r.1 (some (decide (r_5.2.1 = r_6.2.1), ())) (some (false, ()))) (some (false, ()))) (some (false, ()))) = some (true, ()) := by
  obtain ⟨p1, p2⟩ := push_in q l hl hql hq
  have e : ((q.1, q.2.1, ()) : G.Queue) = q := rfl
  rw [e, G11_is 6000 (by omega) b hb (by omega) (by omega), ocall_some, G12_is 6000 (by omega) b hb (by omega), ocall_some, G13_is 6000 (by omega) q l (by omega) gl ll, ocall_some, G14_is 6000 (by omega) q l (by omega) gl ll, ocall_some]
  (try simp only [])
  rw [sameD, decide_eq_true rfl, sel_true, sel_pos trivial, same 6000 (pushF q l).1 (by omega) (by omega) p2, ocall_some]
  simp only [sel_true, decide_true]
theorem main (d : G.Deal) (b : List Int) (q : G.Queue) (l : List G.Deal) (gd : goodD d) (hb : ∀ c ∈ b, byteOK c) (hq : ∀ x ∈ q.2.1, ∀ c ∈ x, byteOK c) (gl : ∀ d ∈ l, goodD d) : G3 6000 (d, b, q, l, ()) = some (true, ()) := by
  have hsd := shortS 6000 d
  have hL := fun hl => G8_is 6000 300 (by omega) (by omega) (by omega) d gd hl
  have hR := fun hl => G9_is 6000 300 (by omega) (by omega) d hl gd
  have hLr := fun ho => G10_is 6000 (by omega) d gd ho
  obtain ⟨b1, hQ, hQ2⟩ := G6_is 6000 (by omega) q.2.1
  obtain ⟨b2, hD, hD2⟩ := G7_is 6000 l 300 (by omega) (by omega)
  have hD : G7 6000 (l, 300, ()) = some (b2, ()) := hD
  have tl := fun hbl hql hl ll => tail b q l hb hbl hq hql gl hl ll
  obtain ⟨d1, d2, d3, d4, d5, d6, ⟨⟩⟩ := d
  obtain ⟨room, items, ⟨⟩⟩ := q
  rw [G3_eq, G4_is 6000 (by omega), ocall_some]
  simp only [Bool.not_true, sel_false]
  rw [hsd, ocall_some]
  by_cases ld : lens 300 (d1, d2, d3, d4, d5, d6, ())
  case neg => rw [decide_eq_false ld]; rfl
  rw [decide_eq_true ld]
  simp only [Bool.not_true, sel_false, ofNat_len]
  by_cases c : (3000 : Int) < b.length
  · rw [sel_pos c]
  rw [sel_neg c, hQ, ocall_some]
  cases b1 with
  | false => rfl
  | true =>
  simp only [Bool.not_true, sel_false]
  rw [hD, ocall_some]
  cases b2 with
  | false => rfl
  | true =>
  obtain ⟨q1, _⟩ := hQ2 rfl
  obtain ⟨l1, l2⟩ := hD2 rfl
  have tl := tl (by omega) q1 l1 l2
  (try simp only [] at tl)
  simp only [Bool.not_true, sel_false]
  rw [hL ld, ocall_some, hR ld, ocall_some]
  by_cases ho : dealOK (d1, d2, d3, d4, d5, d6, ()) = true
  · rw [if_pos ho, ho]
    simp only [sel_true, decide_true, Bool.not_true, sel_false]
    rw [hLr ho, ocall_some]
    simp only [decide_true, Bool.not_true, sel_false]
    rw [ocall_some]
    simp only [Bool.not_true, sel_false]
    exact tl
  · rw [if_neg ho, Bool.eq_false_iff.2 ho]
    simp only [sel_false]
    rw [ocall_some]
    simp only [Bool.not_false, sel_true, decide_true, Bool.not_true, sel_false, List.length_nil, Int.natCast_zero]
    exact tl
theorem pure (x0 : Ty.den (.st (.cons (.int .i64) (.cons .str (.cons (.int .u64) (.cons (.int .u32) (.cons .str (.cons .str .nil)))))))) (x1 : Ty.den (.slice (.int .u8))) (x2 : Ty.den (.st (.cons (.int .i64) (.cons (.slice (.slice (.int .u8))) .nil)))) (x3 : Ty.den (.slice (.st (.cons (.int .i64) (.cons .str (.cons (.int .u64) (.cons (.int .u32) (.cons .str (.cons .str .nil))))))))) (g0 : Ty.Good (.st (.cons (.int .i64) (.cons .str (.cons (.int .u64) (.cons (.int .u32) (.cons .str (.cons .str .nil))))))) x0) (g1 : Ty.Good (.slice (.int .u8)) x1) (g2 : Ty.Good (.st (.cons (.int .i64) (.cons (.slice (.slice (.int .u8))) .nil))) x2) (g3 : Ty.Good (.slice (.st (.cons (.int .i64) (.cons .str (.cons (.int .u64) (.cons (.int .u32) (.cons .str (.cons .str .nil)))))))) x3) : ∃ k, F3 k (x0, (x1, (x2, (x3, PUnit.unit)))) = some (true, PUnit.unit) :=
  ⟨6000, main x0 x1 x2 x3 ⟨good_u64 g0.2.2.1, good_u32 g0.2.2.2.1⟩ (fun c hc => good_u8 (g1.2.2 c hc)) (fun x hx c hc => good_u8 ((g2.2.1.2.2 x hx).2.2 c hc)) (fun d hd => have h := g3.2.2 d hd; ⟨good_u64 h.2.2.1, good_u32 h.2.2.2.1⟩)⟩
end Go.Proofs.YtjgnpmdbkgeakaaGreatDoor.PurePostRight
end
section
set_option linter.unusedVariables false
set_option linter.unusedSimpArgs false
namespace Go.Proofs.YtjgnpmdbkgeakaaGreatDoor
open Go Go.ChangeShapes Go.WideShapes Go.ChangeAt Go.RowKit Th
theorem own : ownKnob Tryz.prog.godebug = none := by kernel_rfl
theorem laidOut : laidOutB Tryz.prog = true := by kernel_rfl
theorem gTypes : Tryz.prog.globalNamed "paydesk/deal.types" = some 0 := by kernel_rfl
theorem tTypes : (Tryz.prog.globals[0]?).map (·.type) = some 122 := by kernel_rfl
theorem mapsRowed' : mapsRowed Tryz.prog = true := by kernel_rfl
theorem stopsHeard' : Tryz.prog.stopsHeard = true := by kernel_rfl
theorem stops' : Tryz.prog.stops = [] := by kernel_rfl
theorem stopKnobs' : Tryz.prog.stopKnobs = [] := by kernel_rfl
theorem plainKeys' : Tryz.prog.plainKeys = Rows.postRightRow.plainKeys := by kernel_rfl
def ioL : List Char := [Char.ofNat 104, Char.ofNat 97, Char.ofNat 114, Char.ofNat 110, Char.ofNat 101, Char.ofNat 115, Char.ofNat 115, Char.ofNat 32, Char.ofNat 102, Char.ofNat 48, Char.ofNat 53, Char.ofNat 98, Char.ofNat 48, Char.ofNat 99, Char.ofNat 57, Char.ofNat 54, Char.ofNat 49, Char.ofNat 49, Char.ofNat 52, Char.ofNat 56, Char.ofNat 98, Char.ofNat 99, Char.ofNat 102, Char.ofNat 49, Char.ofNat 49, Char.ofNat 51, Char.ofNat 97, Char.ofNat 99, Char.ofNat 98, Char.ofNat 98, Char.ofNat 52, Char.ofNat 101, Char.ofNat 57, Char.ofNat 53, Char.ofNat 48, Char.ofNat 98, Char.ofNat 49, Char.ofNat 55, Char.ofNat 57, Char.ofNat 102, Char.ofNat 102, Char.ofNat 51, Char.ofNat 52, Char.ofNat 48, Char.ofNat 49, Char.ofNat 99, Char.ofNat 53, Char.ofNat 99, Char.ofNat 98, Char.ofNat 101, Char.ofNat 53, Char.ofNat 55, Char.ofNat 101, Char.ofNat 56, Char.ofNat 97, Char.ofNat 50, Char.ofNat 99, Char.ofNat 55, Char.ofNat 57, Char.ofNat 50, Char.ofNat 57, Char.ofNat 52, Char.ofNat 51, Char.ofNat 99, Char.ofNat 97, Char.ofNat 55, Char.ofNat 98, Char.ofNat 48, Char.ofNat 100, Char.ofNat 54, Char.ofNat 54, Char.ofNat 102, Char.ofNat 32, Char.ofNat 99, Char.ofNat 117, Char.ofNat 116, Char.ofNat 32, Char.ofNat 97, Char.ofNat 116, Char.ofNat 32, Char.ofNat 112, Char.ofNat 97, Char.ofNat 121, Char.ofNat 100, Char.ofNat 101, Char.ofNat 115, Char.ofNat 107, Char.ofNat 47, Char.ofNat 112, Char.ofNat 97, Char.ofNat 121, Char.ofNat 100, Char.ofNat 101, Char.ofNat 115, Char.ofNat 107, Char.ofNat 108, Char.ofNat 97, Char.ofNat 119, Char.ofNat 49, Char.ofNat 55, Char.ofNat 46, Char.ofNat 80, Char.ofNat 111, Char.ofNat 115, Char.ofNat 116, Char.ofNat 82, Char.ofNat 105, Char.ofNat 103, Char.ofNat 104, Char.ofNat 116]
theorem io0 : Tryz.prog.initOrder = String.ofList ioL := by kernel_rfl
theorem io : Tryz.prog.initOrder.toList = ioL := by rw [io0, String.toList_ofList]
def ioW : List (List Char) := wordsSigns ioL
theorem ws : wordsSigns Tryz.prog.initOrder.toList = ioW := by rw [io]; rfl
def mainOf (l : List (List Char)) : Option (Bool × List Char) := match l with
  | h :: s :: _ => if !isSumSigns s then none else if h == "harness".toList then some (true, s) else if h == "ownmain".toList then some (false, s) else none
  | _ => none
theorem mainIs_of {P : Program} {W : List (List Char)} (h : wordsSigns P.initOrder.toList = W) : P.mainIs = mainOf W := by
  unfold Program.mainIs; rw [h]; rfl
theorem sha : (ioL.drop 8).take 64 = "f05b0c961148bcf113acbb4e950b179ff3401c5cbe57e8a2c792943ca7b0d66f".toList := by
  have : "f05b0c961148bcf113acbb4e950b179ff3401c5cbe57e8a2c792943ca7b0d66f" = String.ofList ((ioL.drop 8).take 64) := by kernel_rfl
  rw [this, String.toList_ofList]
theorem main0 : mainOf ioW = some (true, (ioL.drop 8).take 64) := by kernel_rfl
theorem mainIs' : Tryz.prog.mainIs = some (true, "f05b0c961148bcf113acbb4e950b179ff3401c5cbe57e8a2c792943ca7b0d66f".toList) := by
  rw [← sha, ← main0]; exact mainIs_of ws
def mayOf (l : List (List Char)) (laysLater bearsReflect : Bool) (fits : List String → Bool) : Bool := match behindMainWord l with
  | c :: rest =>
    ((c == "gc".toList || c == "spec".toList) && (rest.isEmpty || rest.head? == some "stop".toList)) ||
    (c == "carried".toList && rest.take 2 == ["gc".toList, "cut".toList] && !laysLater && !bearsReflect) ||
    ((stripLifts liftWords (c :: rest)).2.head? == some "cut".toList &&
      ((stripLifts liftWords (c :: rest)).1.contains "finals" || !laysLater) && ((stripLifts liftWords (c :: rest)).1.contains "reflectrows" || !bearsReflect) &&
      ((stripLifts liftWords (c :: rest)).1.contains "reflectrows" || !(stripLifts liftWords (c :: rest)).1.contains "leanrows") &&
      fits (stripLifts liftWords (c :: rest)).1)
  | [] => false
theorem may_of {P : Program} {W : List (List Char)} (h : wordsSigns P.initOrder.toList = W) : P.mayEnter = mayOf W P.laysLater P.bearsReflect P.doorFits := by
  unfold Program.mayEnter; rw [h]; rfl
theorem lays : Tryz.prog.laysLater = false := by kernel_rfl
theorem bears : Tryz.prog.bearsReflect = false := by kernel_rfl
theorem strip0 : mayOf ioW false false (fun l => decide (l = [])) = true := by kernel_rfl
theorem fits0 : Tryz.prog.doorFits [] = true := by kernel_rfl
theorem may_mono {W : List (List Char)} {a b : Bool} {f g : List String → Bool} (hfg : ∀ l, f l = true → g l = true) (h : mayOf W a b f = true) : mayOf W a b g = true := by
  unfold mayOf at h ⊢
  split at h
  · simp only [Bool.or_eq_true, Bool.and_eq_true] at h ⊢
    rcases h with (h | h) | h
    · exact .inl (.inl h)
    · exact .inl (.inr h)
    · exact .inr ⟨h.1, hfg _ h.2⟩
  · exact h
theorem mayEnter' : Tryz.prog.mayEnter = true := by
  rw [may_of ws, lays, bears]
  exact may_mono (fun l h => by rw [decide_eq_true_eq] at h; rw [h]; exact fits0) strip0
def liftsOf (l : List (List Char)) : List String :=
  let r := stripLifts liftWords (behindMainWord l)
  if r.2.head? == some "cut".toList then r.1 else []
theorem headLifts_of {P : Program} {W : List (List Char)} (h : wordsSigns P.initOrder.toList = W) : P.headLifts = liftsOf W := by
  unfold Program.headLifts; rw [h]; rfl
theorem headLifts' : Tryz.prog.headLifts = [] := (headLifts_of ws).trans (by kernel_rfl)
def finalOf (l : List (List Char)) (hl : List String) : Bool :=
  let ws := behindMainWord l
  (ws.head? == some "carried".toList && ws.take 3 != ["carried".toList, "gc".toList, "cut".toList]) || hl.contains "finals"
theorem liftsFinal_of {P : Program} {W : List (List Char)} (h : wordsSigns P.initOrder.toList = W) : P.liftsFinal = finalOf W P.headLifts := by
  unfold Program.liftsFinal; rw [h]; rfl
theorem liftsFinal' : Tryz.prog.liftsFinal = Rows.postRightRow.lifted := by rw [liftsFinal_of ws, headLifts']; kernel_rfl
def makeOf (l : List (List Char)) (hl : List String) : Option Make :=
  match behindMainWord l with
  | c :: rest => if c == "gc".toList || c == "spec".toList then some .whole else if c == "cut".toList || (c == "finals".toList && rest.head? == some "cut".toList) then some .cut else if c == "carried".toList then some .carried else if hl.isEmpty then none else some (.lifted hl)
  | [] => none
theorem make_of {P : Program} {W : List (List Char)} (h : wordsSigns P.initOrder.toList = W) : P.make = makeOf W P.headLifts := by
  unfold Program.make; rw [h]; rfl
theorem make' : Tryz.prog.make = some Rows.postRightRow.make := by rw [make_of ws, headLifts']; kernel_rfl
abbrev laidL : List (String × DataW Unit) := [("paydesk/deal.types", Rows.laid_paydesk_deal_types)]
theorem door_met (os : Os) (args : Array Value) : laidMetH Tryz.prog laidL ((World.doorLaid Tryz.prog 400 os).forCall (fun _ _ => 0) ⟨#[], args, []⟩).memory :=
  laidMetH_of_parts3 (fuel := 8) (laidMet_of_run' 8 (by kernel_rfl) (by kernel_rfl)) (by kernel_rfl) (by kernel_rfl)
theorem glob_of_laid {W : World} (h : laidMetH Tryz.prog laidL W) : GlobOK W (Old W) := by
  rw [MakeChecks.laidMetH_plain _ _ _ (by kernel_rfl)] at h
  obtain ⟨ps, ⟨g0, t0, cs0, f0, p0, q0, hg0, ht0, hv0, hd0, _, _⟩, _, _⟩ := h
  obtain rfl := Option.some.inj (gTypes.symm.trans hg0)
  obtain rfl := Option.some.inj (tTypes.symm.trans ht0)
  obtain ⟨xs, m1, rfl, hx1, hlen, hn8, hel⟩ := DataW.trod_array Tryz.underlying122 hd0
  have c9 : Tryz.prog.cellsOf 9 = 1 := by kernel_rfl
  have cA : Tryz.prog.cellsOf 122 = 8 := by kernel_rfl
  simp only [Prod.mk.injEq] at hx1
  have hx1 : (DataW.agg [.lit (.string []), .lit (.string [48, 49, 48, 48]), .lit (.string [48, 49, 49, 48]), .lit (.string [48, 52, 48, 48]), .lit (.string [48, 52, 49, 48]), .lit (.string [48, 52, 50, 48]), .lit (.string [48, 52, 50, 49]), .lit (.string [48, 52, 51, 48])] : DataW Unit) = .agg (xs.map (·.1)) := hx1.1
  simp only [DataW.agg.injEq] at hx1
  have key : ∀ (j : Nat) (s : List UInt8), ([[], [48, 49, 48, 48], [48, 49, 49, 48], [48, 52, 48, 48], [48, 52, 49, 48], [48, 52, 50, 48], [48, 52, 50, 49], [48, 52, 51, 48]] : List (List UInt8))[j]? = some s → W.cell? ⟨0, j, none⟩ = some (strV s) := by
    intro j s hs
    have hj : j < 8 := by have := (List.getElem?_eq_some_iff.1 hs).1; simpa using this
    have he := hel j hj
    rw [c9, Nat.mul_one] at he
    have hxj : xs[j]? = some xs[j] := by simp [show j < xs.length by omega]
    rw [hxj] at he
    obtain ⟨b, e1, e2, _⟩ := DataW.trod_string Tryz.underlying9 he
    have hlit : xs[j].1 = .lit (.string s) := by
      have e3 : (xs.map (·.1))[j]? = some xs[j].1 := by rw [List.getElem?_map, hxj]; rfl
      rw [← hx1] at e3
      have h8 : j = 0 ∨ j = 1 ∨ j = 2 ∨ j = 3 ∨ j = 4 ∨ j = 5 ∨ j = 6 ∨ j = 7 := by omega
      rcases h8 with rfl | rfl | rfl | rfl | rfl | rfl | rfl | rfl <;> (simp only [List.getElem?_cons_zero, List.getElem?_cons_succ, Option.some.injEq] at e3 hs; subst hs; exact e3.symm)
    rw [e2] at hlit
    have hb : b.data.toList = s := by simpa using hlit
    have hc : cs0[j]? = some (.string b) := by
      have : (cs0.toList.drop j).take 1 = [.string b] := e1
      have h1 : ((cs0.toList.drop j).take 1)[0]? = some (.string b) := by rw [this]; rfl
      rw [List.getElem?_take_of_lt (by omega), List.getElem?_drop, Nat.add_zero, Array.getElem?_toList] at h1
      exact h1
    rw [World.var?_cell gTypes hv0 j, hc]
    unfold strV
    rw [← hb]
  have h0 : 0 < W.heap.size := by
    have := key 0 [] rfl
    unfold World.cell? at this
    split at this
    · rename_i hb; exact (Array.getElem?_eq_some_iff.1 hb).1
    · cases this
  intro n r hr
  have hn : n = 0 := by
    unfold gtab at hr
    cases hb : Nat.beq n 0 with
    | false => rw [hb] at hr; cases hr
    | true => exact Nat.eq_of_beq_eq_true hb
  subst hn
  have hr : r = ⟨9, .str, [[], [48, 49, 48, 48], [48, 49, 49, 48], [48, 52, 48, 48], [48, 52, 49, 48], [48, 52, 50, 48], [48, 52, 50, 49], [48, 52, 51, 48]]⟩ := (Option.some.inj hr).symm
  subst hr
  refine ⟨_, rfl, fun j x hx => ⟨[strV x], rfl, fun i u hu => ?_, rfl⟩⟩
  have hi : i = 0 := by have := (List.getElem?_eq_some_iff.1 hu).1; simp at this; omega
  subst hi
  have hu : u = strV x := by simpa using hu.symm
  subst hu
  have ha : (⟨0, 0, none⟩ : Addr).add (j * (Ty.size .str) + 0) = ⟨0, j, none⟩ := by
    show (⟨0, 0, none⟩ : Addr).add (j * 1 + 0) = _
    unfold Addr.add; split <;> simp_all
  rw [ha]
  exact ⟨key j x hx, h0⟩
end Go.Proofs.YtjgnpmdbkgeakaaGreatDoor
end
section
set_option linter.unusedVariables false
set_option linter.unusedSimpArgs false
namespace Go.Proofs.YtjgnpmdbkgeakaaGreatDoor.postRight
open Go.ChangeShapes Go.WideShapes Go.ChangeAt Go.RowKit Go.Proofs.YtjgnpmdbkgeakaaGreatDoor Th G
open Go.ChangeMaps (open_string shut_string)
theorem own : ownKnob Tryz.prog.godebug = none := by kernel_rfl
theorem laidOut : laidOutB Tryz.prog = true := by kernel_rfl
set_option maxRecDepth 100000 in
theorem lifted (os : Os) (started : os.Started) (H : Type) (enc : TypeId × Value → H) :
    ReturnsInHanded {} Tryz.checked os 3 .any (fun w args => (Rows.postRightSpec.pre enc Tryz.prog Tryz.f3 [] false w args ∧ laidMetH Tryz.prog laidL w) ∧ sizedMet enc Tryz.prog Tryz.f3 (OpenSpec.ofChange Rows.postRightSpec) false w args) (Rows.postRightSpec.post enc Tryz.prog Tryz.f3 false true false false) := by
  refine returnsInHanded_of_change_and (C := Tryz.checked) (X := fun w _ => laidMetH Tryz.prog laidL w) (fun _ _ _ hh h => h.of_heap hh) own started (by kernel_rfl) Tryz.func3
    (ChangeSpec.witness_shaped (enc := enc) (C := Tryz.checked) (os := os) (X := fun w _ => laidMetH Tryz.prog laidL w) false (World.doorLaid Tryz.prog 400 os) #[.agg #[.int .i64 0, .string ByteArray.empty, .int .u64 0, .int .u32 0, .string ByteArray.empty, .string ByteArray.empty], .slice none 0 0, .agg #[.int .i64 0, .slice none 0 0], .slice none 0 0] 8 rfl (World.shaped_of_RefB (by kernel_rfl) (by kernel_rfl)) (by kernel_rfl) (by kernel_rfl) (by kernel_rfl) (door_met os _)) ?_
  intro W base args ds gs before hval0 hW hcnd hsz0 hL _
  have hsz : (DataW.weightsEach Tryz.prog (Tryz.f3.params.toList ++ Rows.postRightSpec.plain.varTypes Tryz.prog) (ds ++ gs)).all (· ≤ reachBytes) = true := hsz0
  have hval : ∀ (j : Nat) t v, Tryz.f3.params[j]? = some t → args[j]? = some v → Value.okWide Tryz.prog W .any base t v := hval0
  have hW' := hW
  obtain ⟨p, q, hA0, hV, rfl, hfz, hnd⟩ := hW
  have hA : DataW.TrodAll enc Tryz.prog W 0 (fun _ => true) true Tryz.f3.params.toList args.toList ds p := hA0
  rw [Tryz.params3] at hA hval hsz
  obtain ⟨v0, vs0, d0, ds0, p0, q0, hargs, rfl, rfl, h0, r0⟩ := trodAll_cons hA
  obtain ⟨v1, vs1, d1, ds1, p1, q1, rfl, rfl, rfl, h1, r1⟩ := trodAll_cons r0
  obtain ⟨v2, vs2, d2, ds2, p2, q2, rfl, rfl, rfl, h2, r2⟩ := trodAll_cons r1
  obtain ⟨v3, vs3, d3, ds3, p3, q3, rfl, rfl, rfl, h3, r3⟩ := trodAll_cons r2
  obtain ⟨rfl, rfl, rfl⟩ := trodAll_nil r3
  obtain rfl : args = #[v0, v1, v2, v3] := by cases args; simp_all
  obtain ⟨rfl, rfl⟩ := trodVars_none hV
  obtain ⟨x0, a0, g0⟩ := open_arg (T := (.st (.cons (.int .i64) (.cons .str (.cons (.int .u64) (.cons (.int .u32) (.cons .str (.cons .str .nil)))))))) (by kernel_rfl) (hval 0 25 v0 rfl rfl) h0 (weights_of hsz (j := 0) (t := 25) rfl rfl)
  have k0 := h0
  have lt0 : ∀ x ∈ p0, x.block < W.heap.size := by obtain ⟨m, hm⟩ := k0; exact DataW.trod_lt m _ _ _ hm
  obtain ⟨x1, a1, g1⟩ := open_arg (T := (.slice (.int .u8))) (by kernel_rfl) (hval 1 26 v1 rfl rfl) h1 (weights_of hsz (j := 1) (t := 26) rfl rfl)
  have k1 := h1
  have lt1 : ∀ x ∈ p1, x.block < W.heap.size := by obtain ⟨m, hm⟩ := k1; exact DataW.trod_lt m _ _ _ hm
  obtain ⟨x2, a2, g2⟩ := open_arg (T := (.st (.cons (.int .i64) (.cons (.slice (.slice (.int .u8))) .nil)))) (by kernel_rfl) (hval 2 29 v2 rfl rfl) h2 (weights_of hsz (j := 2) (t := 29) rfl rfl)
  have k2 := h2
  have lt2 : ∀ x ∈ p2, x.block < W.heap.size := by obtain ⟨m, hm⟩ := k2; exact DataW.trod_lt m _ _ _ hm
  obtain ⟨x3, a3, g3⟩ := open_arg (T := (.slice (.st (.cons (.int .i64) (.cons .str (.cons (.int .u64) (.cons (.int .u32) (.cons .str (.cons .str .nil))))))))) (by kernel_rfl) (hval 3 30 v3 rfl rfl) h3 (weights_of hsz (j := 3) (t := 30) rfl rfl)
  have k3 := h3
  have lt3 : ∀ x ∈ p3, x.block < W.heap.size := by obtain ⟨m, hm⟩ := k3; exact DataW.trod_lt m _ _ _ hm
  obtain ⟨k, hk⟩ := PurePostRight.pure x0 x1 x2 x3 g0 g1 g2 g3
  clear hA0 hval0 hsz0 hsz
  refine (law_of (fn3 k [Ty.av (.st (.cons (.int .i64) (.cons .str (.cons (.int .u64) (.cons (.int .u32) (.cons .str (.cons .str .nil))))))) x0, Ty.av (.slice (.int .u8)) x1, Ty.av (.st (.cons (.int .i64) (.cons (.slice (.slice (.int .u8))) .nil))) x2, Ty.av (.slice (.st (.cons (.int .i64) (.cons .str (.cons (.int .u64) (.cons (.int .u32) (.cons .str (.cons .str .nil)))))))) x3] (x0, (x1, (x2, (x3, PUnit.unit)))) (true, PUnit.unit) rfl rfl hk) (glob_of_laid hL) (us := [v0, v1, v2, v3]) ⟨a0, a1, a2, a3, trivial⟩).mono fun e W' ⟨he, bel⟩ => ?_
  subst he
  exact ⟨_, rfl, _, _, _, [], _, [], hW', trodAll_mk1 (shut_bool Tryz.underlying4 _), (trodAll_cons_mk (Below.trod laidOut (by kernel_rfl) (of_decide_eq_true (by kernel_rfl)) k0 bel lt0) (trodAll_cons_mk (Below.trod laidOut (by kernel_rfl) (of_decide_eq_true (by kernel_rfl)) k1 bel lt1) (trodAll_cons_mk (Below.trod laidOut (by kernel_rfl) (of_decide_eq_true (by kernel_rfl)) k2 bel lt2) (trodAll_cons_mk (Below.trod laidOut (by kernel_rfl) (of_decide_eq_true (by kernel_rfl)) k3 bel lt3) trodAll_mk0)))), rfl, bel.frame _, fun h => by cases h⟩
theorem inP : Tryz.prog.inPlace 3 = [] := by kernel_rfl
theorem unf : Tryz.prog.unfollowed 3 = true := by kernel_rfl
theorem rec' : Tryz.prog.recurses 3 = true := by kernel_rfl
theorem nam : Tryz.prog.varsNamed 3 = ["paydesk/deal.types"] := by kernel_rfl
theorem lk : false = Tryz.prog.looks [] := by kernel_rfl
theorem gb : false = Rows.postRightRow.goesBy Tryz.prog := by kernel_rfl
theorem facts : joinedFacts Tryz.prog 3 Tryz.f3 Rows.postRightSpec Rows.postRightRow = true := by
  unfold joinedFacts
  rw [laidOut, mapsRowed', stopsHeard', mayEnter', plainKeys', liftsFinal', make', stops', stopKnobs', inP, unf, rec', nam]
  kernel_rfl
theorem over : Rows.postRightRow.holds Tryz.pinned (OpenSpec.ofChange Rows.postRightSpec) :=
  OpenClaim.holds_of_wide 3 Tryz.f3 rfl rfl rfl rfl rfl rfl rfl ⟨rfl, rfl, rfl, rfl, rfl⟩ rfl rfl rfl rfl rfl (by kernel_rfl) Tryz.func3 facts
    (of_decide_eq_true (by kernel_rfl)) (by unfold Func.isWrapper; first | (rw [if_pos (by decide +kernel)]; kernel_rfl) | (rw [if_neg (by decide +kernel)]; exact ⟨rfl, rfl⟩))
    (fun os started H enc _ => lifted os started H enc)
end Go.Proofs.YtjgnpmdbkgeakaaGreatDoor.postRight
namespace Go.Proofs.YtjgnpmdbkgeakaaGreatDoor
theorem postRight_card_holds : Rows.PostRightCardSaid :=
  Claim7.holds_tied_plain_at .later [] [.data] true (true, "f05b0c961148bcf113acbb4e950b179ff3401c5cbe57e8a2c792943ca7b0d66f") false
    postRight.over (fun _ h => by cases h) (by kernel_rfl) (fun _ h => by cases h) postRight_row_tie rfl ⟨rfl, rfl⟩ mainIs' rfl
    (fun f fn hf hfn => by
      obtain rfl : f = 3 := Option.some.inj ((show Tryz.prog.funcNamed "paydesk/paydesklaw17.PostRight" = some 3 by kernel_rfl).symm.trans hf) |>.symm
      obtain rfl : fn = Tryz.f3 := (Option.some.inj (Tryz.func3.symm.trans hfn)).symm
      exact ⟨postRight.lk, fun j t ht => by
        rw [Tryz.params3] at ht
        have hm : t ∈ [25, 26, 29, 30] := by simpa using Array.mem_of_getElem? ht
        have hall : ([25, 26, 29, 30].all fun u => !Tryz.prog.wantsStandIn u) = true := by kernel_rfl
        exact (show Tryz.prog.wantsStandIn t = false by simpa using List.all_eq_true.1 hall t hm)⟩)
    postRight.gb
end Go.Proofs.YtjgnpmdbkgeakaaGreatDoor
end
