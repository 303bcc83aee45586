/- What comes of MessageBack: always true. -/
import Derived.Test.YtjgnpmdbkgeakaaPureMessageRight
set_option linter.unusedVariables false
set_option linter.unusedSimpArgs false
set_option maxRecDepth 100000
namespace Go.Proofs.Ytjgnpmdbkgeakaa.PureMessageBack
open Go Go.Proofs.Ytjgnpmdbkgeakaa Th G Bits PureMessageRight

theorem right_len {m : G.Msg} (h : msgRight m = true) : ∀ x ∈ m.2.1, x.2.1.length ≤ 999 := by
  intro x hx
  obtain ⟨d, hd, hs, _⟩ := right_def ((items_ok m.2.1 0 (msg_parts.1 h).1).1 x hx)
  exact (sized_le (defOf_mem hd).1 hs).2

theorem writeM_inj {m o : G.Msg} (hm : msgRight m = true) (ho : msgRight o = true) : ofBytes (writeM m) = ofBytes (writeM o) ↔ m = o := by
  constructor
  · intro h
    have h2 : writeM m = writeM o := by rw [← toBytes_ofBytes _ (writeM_ok m), h, toBytes_ofBytes _ (writeM_ok o)]
    have h3 := read_write_msg hm
    rw [h2, read_write_msg ho] at h3
    exact (congrArg Prod.fst h3).symm
  · intro h; rw [h]

theorem writeM_size {m : G.Msg} (h : msgRight m = true) (hl : m.2.1.length ≤ 200) : 4 ≤ (writeM m).length ∧ (writeM m).length ≤ 300000 := by
  have h1 := writeM_len m
  have h2 := known_len (msg_parts.1 h).2.1
  have h3 := bytesB_le (bmM m.2.1)
  have h4 := tailM_len m.2.1 (items_ok m.2.1 0 (msg_parts.1 h).1).1
  omega

theorem behind (b : List Int) (hb : ∀ c ∈ b, byteOK c) (hl : b.length ≤ 5000) :
    (ocall (G25 6000 (b, ())) fun r => sel (!decide (r.2.1 = 0)) (ocall (G28 6000 ((r.1.1, r.1.2.1, ()), ([], [], ()), ())) fun r => some (r.1, ()))
      (ocall (G21 6000 ((r.1.1, r.1.2.1, ()), ())) fun r_6 => sel (decide (r_6.2.1 = 0)) (ocall (G27 6000 ((r.1.1, r.1.2.1, ()), ())) fun r => sel r.1 (some (decide (ofBytes r_6.1 = ofBytes b), ())) (some (false, ()))) (some (false, ())))) = some ((true : Bool), ()) := by
  rw [G25_is 6000 (by omega) b hb (by omega), ocall_some]
  (try simp only [])
  by_cases he : (readM b).2 = 0
  · obtain ⟨w1, w2, w3⟩ := write_read_msg hb he
    have hx : ∀ x ∈ (readM b).1.2.1, x.2.1.length ≤ maxLen ∧ x.2.1.length < 6000 := fun x hx => by
      have := right_len w1 x hx
      rw [maxLen_eq]; omega
    have hW := G21_is 6000 (by omega) (readM b).1.1 (readM b).1.2.1 (by omega) hx
    have hR := G27_is 6000 (by omega) (readM b).1.1 (readM b).1.2.1 (by omega) (by omega) hx
    have e : (((readM b).1.1, (readM b).1.2.1, ()) : G.Msg) = (readM b).1 := rfl
    rw [e] at hW hR
    rw [sel_not, sel_pos he, e, hW, if_pos w1, ocall_some, hR, ocall_some, w1]
    simp only [decide_true, sel_true]
    rw [w2, decide_eq_true rfl]
  · rw [sel_not, sel_neg he, readM_bad he]
    have hS := sameM 6000 (by omega) zeroM (by decide) zeroM
    rw [decide_eq_true rfl] at hS
    simp only [zeroM] at hS ⊢
    rw [hS, ocall_some]

theorem main (typ : Txt) (l : List G.Item) (otyp : Txt) (ol : List G.Item) (b : List Int) (cut : Int) (hb : ∀ c ∈ b, byteOK c) (hc : 0 ≤ cut ∧ cut ≤ 65535) : G7 6000 ((typ, l, ()), (otyp, ol, ()), b, cut, ()) = some (true, ()) := by
  rw [G7_eq, awake 6000 (by omega), ocall_some]
  simp only [Bool.not_true, sel_false]
  obtain ⟨s, hs, hs2⟩ := G19_is 6000 (by omega) typ l
  rw [hs, ocall_some]
  cases s with
  | false => rfl
  | true =>
  simp only [Bool.not_true, sel_false]
  obtain ⟨hm1, hm2, hm3⟩ := hs2 rfl
  have hl2 : l.length ≤ 200 := hm2
  obtain ⟨s, hs, hs2⟩ := G19_is 6000 (by omega) otyp ol
  rw [hs, ocall_some]
  cases s with
  | false => rfl
  | true =>
  simp only [Bool.not_true, sel_false, ofNat_len]
  obtain ⟨ho1, ho2, ho3⟩ := hs2 rfl
  have hol2 : ol.length ≤ 200 := ho2
  by_cases hlb : b.length ≤ 5000
  case neg => rw [sel_pos (by omega)]
  rw [sel_neg (by omega)]
  have hx : ∀ x ∈ l, x.2.1.length ≤ maxLen ∧ x.2.1.length < 6000 := fun x hx => by
    have : x.2.1.length ≤ 1200 := hm3 x hx
    rw [maxLen_eq]; omega
  have hxo : ∀ x ∈ ol, x.2.1.length ≤ maxLen ∧ x.2.1.length < 6000 := fun x hx => by
    have : x.2.1.length ≤ 1200 := ho3 x hx
    rw [maxLen_eq]; omega
  have hW := G21_is 6000 (by omega) typ l (by omega) hx
  have hWo := G21_is 6000 (by omega) otyp ol (by omega) hxo
  have tail := behind b hb hlb
  rw [hW, ocall_some, hWo, ocall_some]
  by_cases hr : msgRight (typ, l, ()) = true
  case neg =>
    rw [if_neg hr]
    (try simp only [])
    rw [sel_neg (by decide)]
    exact tail
  rw [if_pos hr]
  (try simp only [])
  obtain ⟨z1, z2⟩ := writeM_size hr hl2
  have hwb := writeM_ok (typ, l, ())
  have hb0 := read_write_msg hr
  rw [sel_pos trivial, sel_pos (by omega), G25_is 6000 (by omega) _ hwb (by omega), ocall_some, hb0]
  rw [sel_not, sel_neg (by omega)]
  obtain ⟨c, rfl⟩ := Int.eq_ofNat_of_zero_le hc.1
  have hw : IntKind.i64.wrap (c : Int) = c := wrap64 (by omega) (by omega)
  have hmod : (c : Int).tmod ((writeM (typ, l, ())).length : Int) = ((c % (writeM (typ, l, ())).length : Nat) : Int) := by rw [← Int.ofNat_tmod]
  have hlt : c % (writeM (typ, l, ())).length < (writeM (typ, l, ())).length := Nat.mod_lt _ (by omega)
  have e0 : Int.ofNat 0 = 0 := rfl
  simp only [hw, hmod, e0]
  rw [sel_pos (by omega), sel_pos (by omega), sel_pos (Int.le_refl _)]
  have et : List.drop (Int.toNat 0) (List.take (((c % (writeM (typ, l, ())).length : Nat) : Int)).toNat (writeM (typ, l, ()))) = (writeM (typ, l, ())).take (c % (writeM (typ, l, ())).length) := by rw [Int.toNat_natCast]; rfl
  have hcut := readM_cut hr hlt
  rw [et, G25_is 6000 (by omega) _ (fun x hx => hwb x (List.mem_of_mem_take hx)) (by rw [List.length_take]; omega), ocall_some, sel_pos (by omega), sel_pos (by omega)]
  have hby : byteOK (IntKind.u8.wrap (c : Int)) := by
    unfold byteOK IntKind.wrap
    simp only [IntKind.bits, IntKind.signed]
    simp
    omega
  have hone : [IntKind.u8.wrap (c : Int)] = toBytes (ofBytes [IntKind.u8.wrap (c : Int)]) := (toBytes_ofBytes _ (fun x hx => by simp only [List.mem_singleton] at hx; rw [hx]; exact hby)).symm
  have hmore := read_write_more hr (ofBytes [IntKind.u8.wrap (c : Int)])
  rw [← hone, if_neg (by simp [ofBytes])] at hmore
  rw [G25_is 6000 (by omega) _ (fun x hx => by
    rcases List.mem_append.1 hx with h | h
    · exact hwb x h
    · simp only [List.mem_singleton] at h; rw [h]; exact hby) (by simp only [List.length_append, List.length_cons, List.length_nil]; omega), ocall_some, hmore]
  have hS := sameM 6000 (by omega) (typ, l, ()) (by show l.length ≤ 200; omega) (typ, l, ())
  rw [decide_eq_true rfl] at hS
  (try simp only [])
  rw [sel_not, sel_pos trivial, hS, ocall_some]
  simp only [Bool.not_true, sel_false]
  rw [sel_not, sel_pos hcut, sel_not, sel_pos trivial]
  by_cases hro : msgRight (otyp, ol, ()) = true
  · have hS2 := sameM 6000 (by omega) (typ, l, ()) (by show l.length ≤ 200; omega) (otyp, ol, ())
    rw [if_pos hro]
    (try simp only [])
    rw [sel_pos trivial, hS2, ocall_some]
    have hd : decide (ofBytes (writeM (typ, l, ())) = ofBytes (writeM (otyp, ol, ()))) = decide (((typ, l, ()) : G.Msg) = (otyp, ol, ())) := decide_eq_decide.2 (writeM_inj hr hro)
    rw [hd]
    simp only [beq_self_eq_true, Bool.not_true, sel_false]
    exact tail
  · rw [if_neg hro]
    (try simp only [])
    rw [sel_neg (by decide)]
    exact tail

theorem pure (x0 : Ty.den (.st (.cons .str (.cons (.slice (.st (.cons (.int .i64) (.cons .str .nil)))) .nil)))) (x1 : Ty.den (.st (.cons .str (.cons (.slice (.st (.cons (.int .i64) (.cons .str .nil)))) .nil)))) (x2 : Ty.den (.slice (.int .u8))) (x3 : Ty.den (.int .u16)) (g0 : Ty.Good (.st (.cons .str (.cons (.slice (.st (.cons (.int .i64) (.cons .str .nil)))) .nil))) x0) (g1 : Ty.Good (.st (.cons .str (.cons (.slice (.st (.cons (.int .i64) (.cons .str .nil)))) .nil))) x1) (g2 : Ty.Good (.slice (.int .u8)) x2) (g3 : Ty.Good (.int .u16) x3) : ∃ k, F7 k (x0, (x1, (x2, (x3, PUnit.unit)))) = some (true, PUnit.unit) :=
  ⟨6000, main x0.1 x0.2.1 x1.1 x1.2.1 x2 x3 (fun c hc => good_u8 (g2.2.2 c hc)) (good_u16 g3)⟩
end Go.Proofs.Ytjgnpmdbkgeakaa.PureMessageBack
