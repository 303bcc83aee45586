/- The statement LineEvents, out of what its function answers. No condition. -/
import Derived.Test.YtjgnpmdbkgeakaaDoorQLineEvents4
import Derived.Test.YtjgnpmdbkgeakaaDoorRows
import Derived.JoinedOf
import Derived.LaidMore
import Derived.FnData
import Derived.ChangeBears2
import Derived.Stop.Joined
import Derived.Carry
import Derived.Test.YtjgnpmdbkgeakaaDoorCards
import Derived.Test.YtjgnpmdbkgeakaaDoorTie
import Derived.SevenTiedAt
section
set_option linter.unusedVariables false
set_option linter.unusedSimpArgs false
set_option maxRecDepth 100000
namespace Go.Proofs.YtjgnpmdbkgeakaaDoor.PureDealBytes
open Go Go.Proofs.YtjgnpmdbkgeakaaDoor Th G Bits PureDealRight
theorem main (d : Deal) (at_ by_ : Int) (gd : goodD d) (ha : 0 ≤ at_ ∧ at_ ≤ 255) (hby : 0 ≤ by_ ∧ by_ ≤ 255) : G17 6000 (d, at_, by_, ()) = some (true, ()) := by
  have hsd := shortD 6000 d
  have hw := fun hl => G37_is 6000 300 (by omega) (by omega) d hl gd
  have hsm := sameD d d
  have hsm2 := fun x => sameD x d
  have hsz := deal_size gd
  have hrt := ok_right gd
  have hrw := read_write_deal gd
  have hil := itemsK_len d
  obtain ⟨dk, pan, amt, stan, rrn, code, ⟨⟩⟩ := d
  have hil : (itemsK (dk, pan, amt, stan, rrn, code, ())).length ≤ 5 := hil
  rw [G17_eq, awake 6000 (by omega), ocall_some]
  simp only [Bool.not_true, sel_false]
  rw [hsd, ocall_some]
  by_cases hl : lens 300 (dk, pan, amt, stan, rrn, code, ())
  case neg => rw [decide_eq_false hl]; rfl
  rw [decide_eq_true hl]
  simp only [Bool.not_true, sel_false]
  rw [hw hl]
  by_cases hok : dealOK (dk, pan, amt, stan, rrn, code, ()) = true
  case neg =>
    rw [if_neg hok, ocall_some]
    have h0 := G79_is 6000 (by omega) [] [] (by simp) (fun x hx => absurd hx (by simp))
    rw [if_neg (by decide)] at h0
    (try simp only [])
    rw [h0, ocall_some]
    rfl
  rw [if_pos hok, ocall_some]
  have hr := hrt hok
  have hxl := right_len hr
  have hW := G79_is 6000 (by omega) (typeK dk) (itemsK (dk, pan, amt, stan, rrn, code, ())) (by omega) (fun x hx => by have := hxl x hx; rw [maxLen_eq]; omega)
  rw [if_pos hr] at hW
  have hsz := hsz hok
  have hrw := hrw hok
  (try simp only [])
  rw [hW, ocall_some]
  have hb0 := writeM_ok (typeK dk, itemsK (dk, pan, amt, stan, rrn, code, ()), ())
  have hlen := writeM_len (typeK dk, itemsK (dk, pan, amt, stan, rrn, code, ()), ())
  have h4 : (typeK dk).length = 4 := known_len (msg_parts.1 hr).2.1
  have hR := read_write_msg hr
  have hlm : (itemsK (dk, pan, amt, stan, rrn, code, ())).length ≤ 200 := by omega
  generalize hM : ((typeK dk, itemsK (dk, pan, amt, stan, rrn, code, ()), ()) : G.Msg) = M at hr hsz hb0 hR hrw hlen
  have hsz' : (writeM M).length ≤ 200 := by rw [← hM]; rw [← hM] at hsz; exact hsz
  have hML : M.2.1.length ≤ 200 := by rw [← hM]; exact hlm
  have hpos : 4 ≤ (writeM M).length := by rw [hlen, ← hM]; (try simp only []); omega
  have hrw' : readD M = ((dk, pan, amt, stan, rrn, code, ()), 0) := hrw
  simp only [ofNat_len]
  rw [sel_not, sel_pos trivial, sel_neg (by omega), G80_is 6000 (by omega) _ hb0 (by omega), ocall_some, hR]
  have eM : (((M.1, M.2.1, ()) : G.Msg)) = M := rfl
  (try simp only [])
  rw [eM, readDeal M hr hML, ocall_some, hrw']
  (try simp only [])
  rw [sel_not, sel_pos trivial, sel_not, sel_pos trivial, sel_not, sel_pos trivial]
  have hsm' : (sameI dk dk && (sameS pan pan && (sameI amt amt && (sameI stan stan && (sameS rrn rrn && (sameS code code && true)))))) = true := by rw [hsm, decide_eq_true rfl]
  rw [hsm', Bool.not_true, sel_false, sel_neg (by omega), sel_pos (by omega), sel_not, sel_neg (by omega)]
  obtain ⟨a, rfl⟩ := Int.eq_ofNat_of_zero_le ha.1
  obtain ⟨y, rfl⟩ := Int.eq_ofNat_of_zero_le hby.1
  have hwr : IntKind.i64.wrap (a : Int) = a := wrap64 (by omega) (by omega)
  have hmod : (a : Int).tmod ((writeM M).length : Int) = ((a % (writeM M).length : Nat) : Int) := by rw [← Int.ofNat_tmod]
  have hlt : a % (writeM M).length < (writeM M).length := Nat.mod_lt _ (by omega)
  simp only [hwr, hmod, Int.toNat_natCast]
  rw [sel_pos (by omega), sel_pos (by omega), sel_pos hlt, sel_pos (by omega), sel_pos (by omega), sel_pos hlt, getD_of hlt]
  generalize a % (writeM M).length = i at hlt
  have hxi := hb0 (writeM M)[i] (List.getElem_mem _)
  obtain ⟨x, hx⟩ := Int.eq_ofNat_of_zero_le hxi.1
  have hx2 : x < 256 := by unfold byteOK at hxi; omega
  obtain ⟨hxor, hxlt⟩ := b_xor8 hx2 (y := y) (by omega)
  rw [hx, hxor]
  -- the bytes, one turned
  have hc : ((writeM M).set i ((x ^^^ y : Nat) : Int) = writeM M) ↔ (y : Int) = 0 := by
    constructor
    · intro h
      have := congrArg (fun l => l[i]?) h
      simp only [List.getElem?_set_self hlt, List.getElem?_eq_getElem hlt, Option.some.injEq, hx] at this
      have h2 : (x ^^^ y) = x := by omega
      have := xor_same.1 h2
      omega
    · intro h
      have h0 : y = 0 := by omega
      rw [h0, Nat.xor_zero, ← hx, List.set_getElem_self]
  have hcb : ∀ c ∈ (writeM M).set i ((x ^^^ y : Nat) : Int), byteOK c := by
    intro c hc
    rcases List.mem_or_eq_of_mem_set hc with h | h
    · exact hb0 c h
    · rw [h]; unfold byteOK; omega
  have hcl : ((writeM M).set i ((x ^^^ y : Nat) : Int)).length ≤ 1000000000 := by rw [List.length_set]; omega
  generalize (writeM M).set i ((x ^^^ y : Nat) : Int) = c at hc hcb hcl
  rw [G80_is 6000 (by omega) c hcb hcl, ocall_some]
  (try simp only [])
  by_cases he : (readM c).2 = 0
  case neg =>
    have hy : ¬ (y : Int) = 0 := fun h => he (by rw [hc.2 h, hR])
    rw [sel_not, sel_neg he, decide_eq_false hy]; rfl
  obtain ⟨w1, w2, w3⟩ := write_read_msg hcb he
  have eR : ((((readM c).1.1, (readM c).1.2.1, ()) : G.Msg)) = (readM c).1 := rfl
  rw [sel_not, sel_pos he, eR, readDeal _ w1 (by omega), ocall_some]
  by_cases hd : (readD (readM c).1).2 = 0
  · rw [sel_pos hd]
    have hv := readD_val hd
    obtain ⟨k1, k2⟩ := write_read_deal hd
    have hs2 := hsm2 (readD (readM c).1).1
    (try simp only [] at hs2)
    rw [hs2]
    have hiff : (readD (readM c).1).1 = (dk, pan, amt, stan, rrn, code, ()) ↔ (y : Int) = 0 := by
      constructor
      · intro h
        apply hc.1
        rw [hv] at h
        rw [h] at k1
        rw [← w2, ← k1, ← hM]
      · intro h
        rw [hc.2 h, hR, hrw']
    have hdd : decide ((readD (readM c).1).1 = (dk, pan, amt, stan, rrn, code, ())) = decide ((y : Int) = 0) := decide_eq_decide.2 hiff
    rw [hdd]
    simp
  · rw [sel_neg hd]
    have hy : ¬ (y : Int) = 0 := fun h => hd (by rw [hc.2 h, hR, hrw'])
    rw [decide_eq_false hy]; rfl
theorem pure (x0 : Ty.den (.st (.cons (.int .i64) (.cons .str (.cons (.int .u64) (.cons (.int .u32) (.cons .str (.cons .str .nil)))))))) (x1 : Ty.den (.int .u8)) (x2 : Ty.den (.int .u8)) (g0 : Ty.Good (.st (.cons (.int .i64) (.cons .str (.cons (.int .u64) (.cons (.int .u32) (.cons .str (.cons .str .nil))))))) x0) (g1 : Ty.Good (.int .u8) x1) (g2 : Ty.Good (.int .u8) x2) : ∃ k, F17 k (x0, (x1, (x2, PUnit.unit))) = some (true, PUnit.unit) :=
  ⟨6000, main x0 x1 x2 ⟨good_u64 g0.2.2.1, good_u32 g0.2.2.2.1⟩ (good_u8 g1) (good_u8 g2)⟩
end Go.Proofs.YtjgnpmdbkgeakaaDoor.PureDealBytes
end
section
set_option linter.unusedVariables false
set_option linter.unusedSimpArgs false
set_option maxRecDepth 100000
namespace Go.Proofs.YtjgnpmdbkgeakaaDoor.G
open Go Go.Proofs.YtjgnpmdbkgeakaaDoor Th Bits
def sendM (d : Deal) : Msg := (typeK d.1, itemsK d, ())
def sendB (d : Deal) : List Int := writeM (sendM d)
theorem sendDeal (k : Nat) (hk : 2000 < k) (d : Deal) (gd : goodD d) (hl : lens 300 d) : G37 k (d, ()) = some (if dealOK d = true then (sendM d, 0, ()) else (([], [], ()), 1, ())) := G37_is k 300 (by omega) (by omega) d hl gd
theorem send_right {d : Deal} (gd : goodD d) (h : dealOK d = true) : msgRight (sendM d) = true := ok_right gd h
theorem send_bytes (d : Deal) : ∀ c ∈ sendB d, byteOK c := writeM_ok _
theorem send_size {d : Deal} (gd : goodD d) (h : dealOK d = true) : (sendB d).length ≤ 200 := PureDealBytes.deal_size gd h
theorem sendMsg (k : Nat) (hk : 2000 < k) {d : Deal} (gd : goodD d) (h : dealOK d = true) : G79 k (sendM d, ()) = some (sendB d, 0, ()) := by
  have hxl := right_len (send_right gd h)
  have hil := itemsK_len d
  have hW := G79_is k (by omega) (typeK d.1) (itemsK d) (by omega) (fun x hx => by have := hxl x hx; rw [maxLen_eq]; omega)
  rw [if_pos (show msgRight (typeK d.1, itemsK d, ()) = true from send_right gd h)] at hW
  exact hW
theorem sendNone (k : Nat) (hk : 2000 < k) : G79 k (([], [], ()), ()) = some ([], 1, ()) := by
  have h0 := G79_is k (by omega) [] [] (by simp) (fun x hx => absurd hx (by simp))
  rwa [if_neg (by decide)] at h0
theorem event_send {d : Deal} (gd : goodD d) (h : dealOK d = true) (side : Int) : eventF side (sendB d) = if evK side d.1 ≠ 0 then ((evK side d.1, d, ()), true) else (zeroEv, false) := by
  have h1 : readM (sendB d) = (sendM d, 0) := read_write_msg (send_right gd h)
  have h2 : readD (sendM d) = (d, 0) := read_write_deal gd h
  unfold eventF
  rw [h1]
  (try simp only [])
  rw [h2]
  by_cases c : evK side d.1 ≠ 0
  · rw [if_pos c, if_pos ⟨trivial, rfl, c⟩]
  · rw [if_neg c, if_neg fun h => c h.2.2]
theorem event_right (k L : Nat) (h2 : 2 ≤ L) (hL : L ≤ 1000000) (hk : L + 100 < k) (kind : Int) {d : Deal} (hl : lens L d) (gd : goodD d) (h : dealOK d = true) (h4 : kind ≠ 4) (hd : d.1 = kindE kind) : G49 k ((kind, d, ()), ()) = some (true, ()) := by
  rw [G49_is k L h2 hL hk kind d hl gd]
  unfold eventOK
  rw [if_neg h4]
  have h1 := (ok_parts h).1
  simp [h, hd]
  omega
def dA7 : Deal := (7, [], 0, 1, [82, 82, 78, 48, 48, 48, 48, 48, 48, 48, 48, 49], [48, 48], ())
theorem dA7_good : goodD dA7 := ⟨by decide, by decide⟩
theorem dA7_ok : dealOK dA7 = true := by decide
theorem dA7_lens : lens 300 dA7 := by unfold lens; decide
theorem nextA1 : nextR ([], false, ()) [0, 2, 97, 98, 0, 1, 99] = (([], false, ()), [0, 1, 99], [97, 98], 0) := by kernel_rfl
theorem nextA2 : nextR ([], false, ()) [0, 0] = (([], true, ()), [], [], 12) := by kernel_rfl
theorem G81_is (k : Nat) (hk : 4000 < k) : G81 k () = some (true, ()) := by
  have hD := sendDeal k (by omega) dA7 dA7_good dA7_lens
  rw [if_pos dA7_ok] at hD
  have hM := sendMsg k (by omega) dA7_good dA7_ok
  have hE := fun side => G82_is k (by omega) side (sendB dA7) (send_bytes _) (by have := send_size dA7_good dA7_ok; omega)
  have v2 : eventF 2 (sendB dA7) = ((5, dA7, ()), true) := by rw [event_send dA7_good dA7_ok]; rfl
  have v1 : eventF 1 (sendB dA7) = (zeroEv, false) := by rw [event_send dA7_good dA7_ok]; rfl
  have h2 := hE 2
  have h1 := hE 1
  rw [v2] at h2
  rw [v1] at h1
  have hN1 := G84_is k (by omega) ([], false, ()) [0, 2, 97, 98, 0, 1, 99] (by simp) (by simp) (by simp [byteOK]) (by simp) (by simp; omega)
  rw [nextA1] at hN1
  have hN2 := G84_is k (by omega) ([], false, ()) [0, 0] (by simp) (by simp) (by simp [byteOK]) (by simp) (by simp; omega)
  rw [nextA2] at hN2
  rw [G81_eq]
  have hD' : G37 k ((7, [], 0, 1, [82, 82, 78, 48, 48, 48, 48, 48, 48, 48, 48, 49], [48, 48], ()), ()) = some (sendM dA7, 0, ()) := hD
  rw [hD', ocall_some]
  have hM' : G79 k (((sendM dA7).1, (sendM dA7).2.1, ()), ()) = some (sendB dA7, 0, ()) := hM
  (try simp only [])
  rw [hM', ocall_some]
  (try simp only [])
  rw [h2, ocall_some, h1, ocall_some, hN1, ocall_some]
  (try simp only [])
  rw [hN2, ocall_some]
  (try simp only [])
  rfl
end Go.Proofs.YtjgnpmdbkgeakaaDoor.G
end
section
set_option linter.unusedVariables false
set_option linter.unusedSimpArgs false
set_option maxHeartbeats 1000000
namespace Go.Proofs.YtjgnpmdbkgeakaaDoor.PureLineEvents
open Go Go.Proofs.YtjgnpmdbkgeakaaDoor Th Bits G PureDealRight
theorem same_i (a : Int) : sameI a a = true := by simp [sameI]
theorem same_s (a : List UInt8) : sameS a a = true := by simp [sameS]
theorem main (d : Deal) (side : Int) (gd : goodD d) : G20 20000 (d, side, ()) = some (true, ()) := by
  have hsd := shortD 20000 d
  have hw := fun hl => sendDeal 20000 (by omega) d gd hl
  have hR := fun hl => G33_is 20000 300 (by omega) (by omega) d hl gd
  have hC := fun kind hl h h4 hd => event_right 20000 300 (by omega) (by omega) (by omega) kind (d := d) hl gd h h4 hd
  have hS := fun h => send_size gd h
  have hMs := fun h => sendMsg 20000 (by omega) gd h
  have hE := fun h side => G82_is 20000 (by omega) side (sendB d) (send_bytes d) h
  have hV := fun h side => event_send gd h side
  have hP := fun h => ok_parts (d := d) h
  obtain ⟨dk, pan, amt, stan, rrn, code, ⟨⟩⟩ := d
  rw [G20_eq, G81_is 20000 (by omega), ocall_some]
  simp only [Bool.not_true, sel_false]
  rw [hsd, ocall_some]
  by_cases hl : lens 300 (dk, pan, amt, stan, rrn, code, ())
  case neg => rw [decide_eq_false hl]; rfl
  rw [decide_eq_true hl]
  simp only [Bool.not_true, sel_false]
  rw [hw hl]
  by_cases hok : dealOK (dk, pan, amt, stan, rrn, code, ()) = true
  case neg =>
    have hok' : dealOK (dk, pan, amt, stan, rrn, code, ()) = false := by simpa using hok
    rw [if_neg hok, ocall_some]
    (try simp only [])
    rw [sendNone 20000 (by omega), ocall_some, hR hl, hok', ocall_some]
    rfl
  rw [if_pos hok, ocall_some]
  have hM := hMs hok
  have hE := fun side => hE (by have := hS hok; omega) side
  generalize hB : sendB (dk, pan, amt, stan, rrn, code, ()) = B at hM hE hV
  generalize sendM (dk, pan, amt, stan, rrn, code, ()) = M at hM
  (try simp only [])
  rw [show ((M.1, M.2.1, ()) : Msg) = M from rfl, hM, ocall_some]
  simp only [decide_true, Bool.not_true, sel_false]
  have hV := hV hok
  (try simp only [] at hV)
  have hp := (hP hok).1
  have hp2 := (hP hok).2.1
  (try simp only [] at hp hp2)
  have hd : ∀ kind, kind ≠ 4 → dk = kindE kind → G49 20000 ((kind, (dk, pan, amt, stan, rrn, code, ()), ()), ()) = some (true, ()) := fun kind h4 h => hC kind hl hok h4 h
  rw [hE 1, ocall_some, hE 2, ocall_some, hE side, ocall_some]
  have hside : side = 1 ∨ side = 2 ∨ ((side ≠ 1 ∧ side ≠ 2) ∧ (eventF side B).2 = false) := by
    by_cases s1 : side = 1
    · exact .inl s1
    by_cases s2 : side = 2
    · exact .inr (.inl s2)
    refine .inr (.inr ⟨⟨s1, s2⟩, ?_⟩)
    rw [hV]
    have : evK side dk = 0 := by unfold evK; rw [if_neg (by omega), if_neg (by omega), if_neg (by omega)]
    rw [this]; rfl
  have h1 := hV 1
  have h2 := hV 2
  rcases (by omega : dk = 1 ∨ dk = 2 ∨ dk = 3 ∨ dk = 4 ∨ dk = 5 ∨ dk = 6 ∨ dk = 7) with rfl | rfl | rfl | rfl | rfl | rfl | rfl
  · have e1 : eventF 1 B = ((1, (1, pan, amt, stan, rrn, code, ()), ()), true) := h1
    have e2 : eventF 2 B = (zeroEv, false) := h2
    have := hd 1 (by decide) rfl
    rw [e1, e2]
    clear hE hV hM hC hS hMs hw hR hsd hP h1 h2 hd
    rcases hside with rfl | rfl | ⟨⟨s1, s2⟩, s3⟩
    · simp [sel, same_i, same_s, this, ocall_some, e1, e2]
    · simp [sel, same_i, same_s, this, ocall_some, e1, e2]
    · simp [sel, same_i, same_s, this, ocall_some, s1, s2, s3]
  · have e1 : eventF 1 B = (zeroEv, false) := h1
    have e2 : eventF 2 B = ((2, (2, pan, amt, stan, rrn, code, ()), ()), true) := h2
    have := hd 2 (by decide) rfl
    rw [e1, e2]
    clear hE hV hM hC hS hMs hw hR hsd hP h1 h2 hd
    rcases hside with rfl | rfl | ⟨⟨s1, s2⟩, s3⟩
    · simp [sel, same_i, same_s, this, ocall_some, e1, e2]
    · simp [sel, same_i, same_s, this, ocall_some, e1, e2]
    · simp [sel, same_i, same_s, this, ocall_some, s1, s2, s3]
  · have e1 : eventF 1 B = ((3, (3, pan, amt, stan, rrn, code, ()), ()), true) := h1
    have e2 : eventF 2 B = (zeroEv, false) := h2
    have := hd 3 (by decide) rfl
    rw [e1, e2]
    clear hE hV hM hC hS hMs hw hR hsd hP h1 h2 hd
    rcases hside with rfl | rfl | ⟨⟨s1, s2⟩, s3⟩
    · simp [sel, same_i, same_s, this, ocall_some, e1, e2]
    · simp [sel, same_i, same_s, this, ocall_some, e1, e2]
    · simp [sel, same_i, same_s, this, ocall_some, s1, s2, s3]
  · have e1 : eventF 1 B = (zeroEv, false) := h1
    have e2 : eventF 2 B = (zeroEv, false) := h2
    rw [e1, e2]
    clear hE hV hM hC hS hMs hw hR hsd hP h1 h2 hd
    rcases hside with rfl | rfl | ⟨⟨s1, s2⟩, s3⟩
    · simp [sel, same_i, same_s, ocall_some, e1, e2]
    · simp [sel, same_i, same_s, ocall_some, e1, e2]
    · simp [sel, same_i, same_s, ocall_some, s1, s2, s3]
  · have e1 : eventF 1 B = (zeroEv, false) := h1
    have e2 : eventF 2 B = (zeroEv, false) := h2
    rw [e1, e2]
    clear hE hV hM hC hS hMs hw hR hsd hP h1 h2 hd
    rcases hside with rfl | rfl | ⟨⟨s1, s2⟩, s3⟩
    · simp [sel, same_i, same_s, ocall_some, e1, e2]
    · simp [sel, same_i, same_s, ocall_some, e1, e2]
    · simp [sel, same_i, same_s, ocall_some, s1, s2, s3]
  · have e1 : eventF 1 B = (zeroEv, false) := h1
    have e2 : eventF 2 B = (zeroEv, false) := h2
    rw [e1, e2]
    clear hE hV hM hC hS hMs hw hR hsd hP h1 h2 hd
    rcases hside with rfl | rfl | ⟨⟨s1, s2⟩, s3⟩
    · simp [sel, same_i, same_s, ocall_some, e1, e2]
    · simp [sel, same_i, same_s, ocall_some, e1, e2]
    · simp [sel, same_i, same_s, ocall_some, s1, s2, s3]
  · have e1 : eventF 1 B = (zeroEv, false) := h1
    have e2 : eventF 2 B = ((5, (7, pan, amt, stan, rrn, code, ()), ()), true) := h2
    have := hd 5 (by decide) rfl
    rw [e1, e2]
    clear hE hV hM hC hS hMs hw hR hsd hP h1 h2 hd
    rcases hside with rfl | rfl | ⟨⟨s1, s2⟩, s3⟩
    · simp [sel, same_i, same_s, this, ocall_some, e1, e2]
    · simp [sel, same_i, same_s, this, ocall_some, e1, e2]
    · simp [sel, same_i, same_s, this, ocall_some, s1, s2, s3]
theorem pure (x0 : Ty.den (.st (.cons (.int .i64) (.cons .str (.cons (.int .u64) (.cons (.int .u32) (.cons .str (.cons .str .nil)))))))) (x1 : Ty.den (.int .i64)) (g0 : Ty.Good (.st (.cons (.int .i64) (.cons .str (.cons (.int .u64) (.cons (.int .u32) (.cons .str (.cons .str .nil))))))) x0) (g1 : Ty.Good (.int .i64) x1) : ∃ k, F20 k (x0, (x1, PUnit.unit)) = some (true, PUnit.unit) :=
  ⟨20000, main x0 x1 ⟨good_u64 g0.2.2.1, good_u32 g0.2.2.2.1⟩⟩
end Go.Proofs.YtjgnpmdbkgeakaaDoor.PureLineEvents
end
section
set_option linter.unusedVariables false
set_option linter.unusedSimpArgs false
namespace Go.Proofs.YtjgnpmdbkgeakaaDoor
open Go Go.ChangeShapes Go.WideShapes Go.ChangeAt Go.RowKit Th
theorem own : ownKnob Tryd.prog.godebug = none := by kernel_rfl
theorem laidOut : laidOutB Tryd.prog = true := by kernel_rfl
theorem gTypes : Tryd.prog.globalNamed "paydesk/deal.types" = some 0 := by kernel_rfl
theorem tTypes : (Tryd.prog.globals[0]?).map (·.type) = some 229 := by kernel_rfl
theorem mapsRowed' : mapsRowed Tryd.prog = true := by kernel_rfl
theorem stopsHeard' : Tryd.prog.stopsHeard = true := by kernel_rfl
theorem stops' : Tryd.prog.stops = [] := by kernel_rfl
theorem stopKnobs' : Tryd.prog.stopKnobs = [] := by kernel_rfl
theorem plainKeys' : Tryd.prog.plainKeys = Rows.keyRightRow.plainKeys := by kernel_rfl
def ioL : List Char := [Char.ofNat 104, Char.ofNat 97, Char.ofNat 114, Char.ofNat 110, Char.ofNat 101, Char.ofNat 115, Char.ofNat 115, Char.ofNat 32, Char.ofNat 52, Char.ofNat 98, Char.ofNat 55, Char.ofNat 54, Char.ofNat 48, Char.ofNat 97, Char.ofNat 99, Char.ofNat 102, Char.ofNat 49, Char.ofNat 97, Char.ofNat 100, Char.ofNat 99, Char.ofNat 54, Char.ofNat 100, Char.ofNat 51, Char.ofNat 54, Char.ofNat 49, Char.ofNat 50, Char.ofNat 51, Char.ofNat 50, Char.ofNat 57, Char.ofNat 97, Char.ofNat 98, Char.ofNat 51, Char.ofNat 99, Char.ofNat 50, Char.ofNat 48, Char.ofNat 101, Char.ofNat 99, Char.ofNat 48, Char.ofNat 49, Char.ofNat 52, Char.ofNat 53, Char.ofNat 53, Char.ofNat 56, Char.ofNat 101, Char.ofNat 50, Char.ofNat 54, Char.ofNat 55, Char.ofNat 99, Char.ofNat 52, Char.ofNat 57, Char.ofNat 52, Char.ofNat 101, Char.ofNat 54, Char.ofNat 53, Char.ofNat 52, Char.ofNat 48, Char.ofNat 49, Char.ofNat 57, Char.ofNat 99, Char.ofNat 97, Char.ofNat 98, Char.ofNat 49, Char.ofNat 57, Char.ofNat 50, Char.ofNat 49, Char.ofNat 49, Char.ofNat 98, Char.ofNat 102, Char.ofNat 49, Char.ofNat 57, Char.ofNat 54, Char.ofNat 49, Char.ofNat 32, Char.ofNat 99, Char.ofNat 117, Char.ofNat 116, Char.ofNat 32, Char.ofNat 97, Char.ofNat 116, Char.ofNat 32, Char.ofNat 112, Char.ofNat 97, Char.ofNat 121, Char.ofNat 100, Char.ofNat 101, Char.ofNat 115, Char.ofNat 107, Char.ofNat 47, Char.ofNat 112, Char.ofNat 97, Char.ofNat 121, Char.ofNat 100, Char.ofNat 101, Char.ofNat 115, Char.ofNat 107, Char.ofNat 108, Char.ofNat 97, Char.ofNat 119, Char.ofNat 48, Char.ofNat 55, Char.ofNat 46, Char.ofNat 75, Char.ofNat 101, Char.ofNat 121, Char.ofNat 82, Char.ofNat 105, Char.ofNat 103, Char.ofNat 104, Char.ofNat 116, Char.ofNat 32, Char.ofNat 112, Char.ofNat 97, Char.ofNat 121, Char.ofNat 100, Char.ofNat 101, Char.ofNat 115, Char.ofNat 107, Char.ofNat 47, Char.ofNat 112, Char.ofNat 97, Char.ofNat 121, Char.ofNat 100, Char.ofNat 101, Char.ofNat 115, Char.ofNat 107, Char.ofNat 108, Char.ofNat 97, Char.ofNat 119, Char.ofNat 48, Char.ofNat 55, Char.ofNat 46, Char.ofNat 75, Char.ofNat 101, Char.ofNat 121, Char.ofNat 79, Char.ofNat 114, Char.ofNat 100, Char.ofNat 101, Char.ofNat 114, Char.ofNat 32, Char.ofNat 112, Char.ofNat 97, Char.ofNat 121, Char.ofNat 100, Char.ofNat 101, Char.ofNat 115, Char.ofNat 107, Char.ofNat 47, Char.ofNat 112, Char.ofNat 97, Char.ofNat 121, Char.ofNat 100, Char.ofNat 101, Char.ofNat 115, Char.ofNat 107, Char.ofNat 108, Char.ofNat 97, Char.ofNat 119, Char.ofNat 48, Char.ofNat 55, Char.ofNat 46, Char.ofNat 75, Char.ofNat 101, Char.ofNat 121, Char.ofNat 83, Char.ofNat 104, Char.ofNat 97, Char.ofNat 114, Char.ofNat 100, Char.ofNat 115, Char.ofNat 32, Char.ofNat 112, Char.ofNat 97, Char.ofNat 121, Char.ofNat 100, Char.ofNat 101, Char.ofNat 115, Char.ofNat 107, Char.ofNat 47, Char.ofNat 112, Char.ofNat 97, Char.ofNat 121, Char.ofNat 100, Char.ofNat 101, Char.ofNat 115, Char.ofNat 107, Char.ofNat 108, Char.ofNat 97, Char.ofNat 119, Char.ofNat 48, Char.ofNat 54, Char.ofNat 46, Char.ofNat 68, Char.ofNat 101, Char.ofNat 97, Char.ofNat 108, Char.ofNat 82, Char.ofNat 105, Char.ofNat 103, Char.ofNat 104, Char.ofNat 116, Char.ofNat 32, Char.ofNat 112, Char.ofNat 97, Char.ofNat 121, Char.ofNat 100, Char.ofNat 101, Char.ofNat 115, Char.ofNat 107, Char.ofNat 47, Char.ofNat 112, Char.ofNat 97, Char.ofNat 121, Char.ofNat 100, Char.ofNat 101, Char.ofNat 115, Char.ofNat 107, Char.ofNat 108, Char.ofNat 97, Char.ofNat 119, Char.ofNat 48, Char.ofNat 54, Char.ofNat 46, Char.ofNat 68, Char.ofNat 101, Char.ofNat 97, Char.ofNat 108, Char.ofNat 66, Char.ofNat 97, Char.ofNat 99, Char.ofNat 107, Char.ofNat 32, Char.ofNat 112, Char.ofNat 97, Char.ofNat 121, Char.ofNat 100, Char.ofNat 101, Char.ofNat 115, Char.ofNat 107, Char.ofNat 47, Char.ofNat 112, Char.ofNat 97, Char.ofNat 121, Char.ofNat 100, Char.ofNat 101, Char.ofNat 115, Char.ofNat 107, Char.ofNat 108, Char.ofNat 97, Char.ofNat 119, Char.ofNat 49, Char.ofNat 50, Char.ofNat 46, Char.ofNat 67, Char.ofNat 111, Char.ofNat 114, Char.ofNat 101, Char.ofNat 82, Char.ofNat 105, Char.ofNat 103, Char.ofNat 104, Char.ofNat 116, Char.ofNat 32, Char.ofNat 112, Char.ofNat 97, Char.ofNat 121, Char.ofNat 100, Char.ofNat 101, Char.ofNat 115, Char.ofNat 107, Char.ofNat 47, Char.ofNat 112, Char.ofNat 97, Char.ofNat 121, Char.ofNat 100, Char.ofNat 101, Char.ofNat 115, Char.ofNat 107, Char.ofNat 108, Char.ofNat 97, Char.ofNat 119, Char.ofNat 49, Char.ofNat 50, Char.ofNat 46, Char.ofNat 67, Char.ofNat 111, Char.ofNat 114, Char.ofNat 101, Char.ofNat 83, Char.ofNat 116, Char.ofNat 101, Char.ofNat 112, Char.ofNat 115, Char.ofNat 32, Char.ofNat 112, Char.ofNat 97, Char.ofNat 121, Char.ofNat 100, Char.ofNat 101, Char.ofNat 115, Char.ofNat 107, Char.ofNat 47, Char.ofNat 112, Char.ofNat 97, Char.ofNat 121, Char.ofNat 100, Char.ofNat 101, Char.ofNat 115, Char.ofNat 107, Char.ofNat 108, Char.ofNat 97, Char.ofNat 119, Char.ofNat 49, Char.ofNat 50, Char.ofNat 46, Char.ofNat 67, Char.ofNat 111, Char.ofNat 114, Char.ofNat 101, Char.ofNat 79, Char.ofNat 110, Char.ofNat 99, Char.ofNat 101, Char.ofNat 32, Char.ofNat 112, Char.ofNat 97, Char.ofNat 121, Char.ofNat 100, Char.ofNat 101, Char.ofNat 115, Char.ofNat 107, Char.ofNat 47, Char.ofNat 112, Char.ofNat 97, Char.ofNat 121, Char.ofNat 100, Char.ofNat 101, Char.ofNat 115, Char.ofNat 107, Char.ofNat 108, Char.ofNat 97, Char.ofNat 119, Char.ofNat 49, Char.ofNat 50, Char.ofNat 46, Char.ofNat 67, Char.ofNat 111, Char.ofNat 114, Char.ofNat 101, Char.ofNat 82, Char.ofNat 101, Char.ofNat 115, Char.ofNat 116, Char.ofNat 115, Char.ofNat 32, Char.ofNat 112, Char.ofNat 97, Char.ofNat 121, Char.ofNat 100, Char.ofNat 101, Char.ofNat 115, Char.ofNat 107, Char.ofNat 47, Char.ofNat 112, Char.ofNat 97, Char.ofNat 121, Char.ofNat 100, Char.ofNat 101, Char.ofNat 115, Char.ofNat 107, Char.ofNat 108, Char.ofNat 97, Char.ofNat 119, Char.ofNat 49, Char.ofNat 48, Char.ofNat 46, Char.ofNat 83, Char.ofNat 104, Char.ofNat 97, Char.ofNat 114, Char.ofNat 100, Char.ofNat 82, Char.ofNat 105, Char.ofNat 103, Char.ofNat 104, Char.ofNat 116, Char.ofNat 32, Char.ofNat 112, Char.ofNat 97, Char.ofNat 121, Char.ofNat 100, Char.ofNat 101, Char.ofNat 115, Char.ofNat 107, Char.ofNat 47, Char.ofNat 112, Char.ofNat 97, Char.ofNat 121, Char.ofNat 100, Char.ofNat 101, Char.ofNat 115, Char.ofNat 107, Char.ofNat 108, Char.ofNat 97, Char.ofNat 119, Char.ofNat 49, Char.ofNat 48, Char.ofNat 46, Char.ofNat 83, Char.ofNat 104, Char.ofNat 97, Char.ofNat 114, Char.ofNat 100, Char.ofNat 83, Char.ofNat 119, Char.ofNat 97, Char.ofNat 112, Char.ofNat 115, Char.ofNat 32, Char.ofNat 112, Char.ofNat 97, Char.ofNat 121, Char.ofNat 100, Char.ofNat 101, Char.ofNat 115, Char.ofNat 107, Char.ofNat 47, Char.ofNat 112, Char.ofNat 97, Char.ofNat 121, Char.ofNat 100, Char.ofNat 101, Char.ofNat 115, Char.ofNat 107, Char.ofNat 108, Char.ofNat 97, Char.ofNat 119, Char.ofNat 49, Char.ofNat 53, Char.ofNat 46, Char.ofNat 76, Char.ofNat 101, Char.ofNat 100, Char.ofNat 103, Char.ofNat 101, Char.ofNat 114, Char.ofNat 82, Char.ofNat 105, Char.ofNat 103, Char.ofNat 104, Char.ofNat 116, Char.ofNat 32, Char.ofNat 112, Char.ofNat 97, Char.ofNat 121, Char.ofNat 100, Char.ofNat 101, Char.ofNat 115, Char.ofNat 107, Char.ofNat 47, Char.ofNat 112, Char.ofNat 97, Char.ofNat 121, Char.ofNat 100, Char.ofNat 101, Char.ofNat 115, Char.ofNat 107, Char.ofNat 108, Char.ofNat 97, Char.ofNat 119, Char.ofNat 49, Char.ofNat 53, Char.ofNat 46, Char.ofNat 76, Char.ofNat 101, Char.ofNat 100, Char.ofNat 103, Char.ofNat 101, Char.ofNat 114, Char.ofNat 79, Char.ofNat 110, Char.ofNat 99, Char.ofNat 101, Char.ofNat 32, Char.ofNat 112, Char.ofNat 97, Char.ofNat 121, Char.ofNat 100, Char.ofNat 101, Char.ofNat 115, Char.ofNat 107, Char.ofNat 47, Char.ofNat 112, Char.ofNat 97, Char.ofNat 121, Char.ofNat 100, Char.ofNat 101, Char.ofNat 115, Char.ofNat 107, Char.ofNat 108, Char.ofNat 97, Char.ofNat 119, Char.ofNat 49, Char.ofNat 53, Char.ofNat 46, Char.ofNat 76, Char.ofNat 101, Char.ofNat 100, Char.ofNat 103, Char.ofNat 101, Char.ofNat 114, Char.ofNat 84, Char.ofNat 119, Char.ofNat 105, Char.ofNat 99, Char.ofNat 101, Char.ofNat 32, Char.ofNat 112, Char.ofNat 97, Char.ofNat 121, Char.ofNat 100, Char.ofNat 101, Char.ofNat 115, Char.ofNat 107, Char.ofNat 47, Char.ofNat 112, Char.ofNat 97, Char.ofNat 121, Char.ofNat 100, Char.ofNat 101, Char.ofNat 115, Char.ofNat 107, Char.ofNat 108, Char.ofNat 97, Char.ofNat 119, Char.ofNat 48, Char.ofNat 54, Char.ofNat 46, Char.ofNat 68, Char.ofNat 101, Char.ofNat 97, Char.ofNat 108, Char.ofNat 66, Char.ofNat 121, Char.ofNat 116, Char.ofNat 101, Char.ofNat 115, Char.ofNat 32, Char.ofNat 112, Char.ofNat 97, Char.ofNat 121, Char.ofNat 100, Char.ofNat 101, Char.ofNat 115, Char.ofNat 107, Char.ofNat 47, Char.ofNat 112, Char.ofNat 97, Char.ofNat 121, Char.ofNat 100, Char.ofNat 101, Char.ofNat 115, Char.ofNat 107, Char.ofNat 108, Char.ofNat 97, Char.ofNat 119, Char.ofNat 49, Char.ofNat 52, Char.ofNat 46, Char.ofNat 76, Char.ofNat 105, Char.ofNat 110, Char.ofNat 101, Char.ofNat 82, Char.ofNat 105, Char.ofNat 103, Char.ofNat 104, Char.ofNat 116, Char.ofNat 32, Char.ofNat 112, Char.ofNat 97, Char.ofNat 121, Char.ofNat 100, Char.ofNat 101, Char.ofNat 115, Char.ofNat 107, Char.ofNat 47, Char.ofNat 112, Char.ofNat 97, Char.ofNat 121, Char.ofNat 100, Char.ofNat 101, Char.ofNat 115, Char.ofNat 107, Char.ofNat 108, Char.ofNat 97, Char.ofNat 119, Char.ofNat 49, Char.ofNat 52, Char.ofNat 46, Char.ofNat 76, Char.ofNat 105, Char.ofNat 110, Char.ofNat 101, Char.ofNat 80, Char.ofNat 97, Char.ofNat 114, Char.ofNat 116, Char.ofNat 115, Char.ofNat 32, Char.ofNat 112, Char.ofNat 97, Char.ofNat 121, Char.ofNat 100, Char.ofNat 101, Char.ofNat 115, Char.ofNat 107, Char.ofNat 47, Char.ofNat 112, Char.ofNat 97, Char.ofNat 121, Char.ofNat 100, Char.ofNat 101, Char.ofNat 115, Char.ofNat 107, Char.ofNat 108, Char.ofNat 97, Char.ofNat 119, Char.ofNat 49, Char.ofNat 52, Char.ofNat 46, Char.ofNat 76, Char.ofNat 105, Char.ofNat 110, Char.ofNat 101, Char.ofNat 69, Char.ofNat 118, Char.ofNat 101, Char.ofNat 110, Char.ofNat 116, Char.ofNat 115, Char.ofNat 32, Char.ofNat 112, Char.ofNat 97, Char.ofNat 121, Char.ofNat 100, Char.ofNat 101, Char.ofNat 115, Char.ofNat 107, Char.ofNat 47, Char.ofNat 112, Char.ofNat 97, Char.ofNat 121, Char.ofNat 100, Char.ofNat 101, Char.ofNat 115, Char.ofNat 107, Char.ofNat 108, Char.ofNat 97, Char.ofNat 119, Char.ofNat 49, Char.ofNat 55, Char.ofNat 46, Char.ofNat 80, Char.ofNat 111, Char.ofNat 115, Char.ofNat 116, Char.ofNat 66, Char.ofNat 97, Char.ofNat 99, Char.ofNat 107, Char.ofNat 32, Char.ofNat 112, Char.ofNat 97, Char.ofNat 121, Char.ofNat 100, Char.ofNat 101, Char.ofNat 115, Char.ofNat 107, Char.ofNat 47, Char.ofNat 112, Char.ofNat 97, Char.ofNat 121, Char.ofNat 100, Char.ofNat 101, Char.ofNat 115, Char.ofNat 107, Char.ofNat 108, Char.ofNat 97, Char.ofNat 119, Char.ofNat 50, Char.ofNat 49, Char.ofNat 46, Char.ofNat 84, Char.ofNat 114, Char.ofNat 97, Char.ofNat 99, Char.ofNat 101, Char.ofNat 79, Char.ofNat 116, Char.ofNat 104, Char.ofNat 101, Char.ofNat 114, Char.ofNat 115]
theorem io0 : Tryd.prog.initOrder = String.ofList ioL := by kernel_rfl
theorem io : Tryd.prog.initOrder.toList = ioL := by rw [io0, String.toList_ofList]
def ioW : List (List Char) := wordsSigns ioL
theorem ws : wordsSigns Tryd.prog.initOrder.toList = ioW := by rw [io]; rfl
def mainOf (l : List (List Char)) : Option (Bool × List Char) := match l with
  | h :: s :: _ => if !isSumSigns s then none else if h == "harness".toList then some (true, s) else if h == "ownmain".toList then some (false, s) else none
  | _ => none
theorem mainIs_of {P : Program} {W : List (List Char)} (h : wordsSigns P.initOrder.toList = W) : P.mainIs = mainOf W := by
  unfold Program.mainIs; rw [h]; rfl
theorem sha : (ioL.drop 8).take 64 = "4b760acf1adc6d3612329ab3c20ec014558e267c494e654019cab19211bf1961".toList := by
  have : "4b760acf1adc6d3612329ab3c20ec014558e267c494e654019cab19211bf1961" = String.ofList ((ioL.drop 8).take 64) := by kernel_rfl
  rw [this, String.toList_ofList]
theorem main0 : mainOf ioW = some (true, (ioL.drop 8).take 64) := by kernel_rfl
theorem mainIs' : Tryd.prog.mainIs = some (true, "4b760acf1adc6d3612329ab3c20ec014558e267c494e654019cab19211bf1961".toList) := by
  rw [← sha, ← main0]; exact mainIs_of ws
def mayOf (l : List (List Char)) (laysLater bearsReflect : Bool) (fits : List String → Bool) : Bool := match behindMainWord l with
  | c :: rest =>
    ((c == "gc".toList || c == "spec".toList) && (rest.isEmpty || rest.head? == some "stop".toList)) ||
    (c == "carried".toList && rest.take 2 == ["gc".toList, "cut".toList] && !laysLater && !bearsReflect) ||
    ((stripLifts liftWords (c :: rest)).2.head? == some "cut".toList &&
      ((stripLifts liftWords (c :: rest)).1.contains "finals" || !laysLater) && ((stripLifts liftWords (c :: rest)).1.contains "reflectrows" || !bearsReflect) &&
      ((stripLifts liftWords (c :: rest)).1.contains "reflectrows" || !(stripLifts liftWords (c :: rest)).1.contains "leanrows") &&
      fits (stripLifts liftWords (c :: rest)).1)
  | [] => false
theorem may_of {P : Program} {W : List (List Char)} (h : wordsSigns P.initOrder.toList = W) : P.mayEnter = mayOf W P.laysLater P.bearsReflect P.doorFits := by
  unfold Program.mayEnter; rw [h]; rfl
theorem lays : Tryd.prog.laysLater = false := by kernel_rfl
theorem bears : Tryd.prog.bearsReflect = false := by kernel_rfl
theorem strip0 : mayOf ioW false false (fun l => decide (l = [])) = true := by kernel_rfl
theorem fits0 : Tryd.prog.doorFits [] = true := by kernel_rfl
theorem may_mono {W : List (List Char)} {a b : Bool} {f g : List String → Bool} (hfg : ∀ l, f l = true → g l = true) (h : mayOf W a b f = true) : mayOf W a b g = true := by
  unfold mayOf at h ⊢
  split at h
  · simp only [Bool.or_eq_true, Bool.and_eq_true] at h ⊢
    rcases h with (h | h) | h
    · exact .inl (.inl h)
    · exact .inl (.inr h)
    · exact .inr ⟨h.1, hfg _ h.2⟩
  · exact h
theorem mayEnter' : Tryd.prog.mayEnter = true := by
  rw [may_of ws, lays, bears]
  exact may_mono (fun l h => by rw [decide_eq_true_eq] at h; rw [h]; exact fits0) strip0
def liftsOf (l : List (List Char)) : List String :=
  let r := stripLifts liftWords (behindMainWord l)
  if r.2.head? == some "cut".toList then r.1 else []
theorem headLifts_of {P : Program} {W : List (List Char)} (h : wordsSigns P.initOrder.toList = W) : P.headLifts = liftsOf W := by
  unfold Program.headLifts; rw [h]; rfl
theorem headLifts' : Tryd.prog.headLifts = [] := (headLifts_of ws).trans (by kernel_rfl)
def finalOf (l : List (List Char)) (hl : List String) : Bool :=
  let ws := behindMainWord l
  (ws.head? == some "carried".toList && ws.take 3 != ["carried".toList, "gc".toList, "cut".toList]) || hl.contains "finals"
theorem liftsFinal_of {P : Program} {W : List (List Char)} (h : wordsSigns P.initOrder.toList = W) : P.liftsFinal = finalOf W P.headLifts := by
  unfold Program.liftsFinal; rw [h]; rfl
theorem liftsFinal' : Tryd.prog.liftsFinal = Rows.keyRightRow.lifted := by rw [liftsFinal_of ws, headLifts']; kernel_rfl
def makeOf (l : List (List Char)) (hl : List String) : Option Make :=
  match behindMainWord l with
  | c :: rest => if c == "gc".toList || c == "spec".toList then some .whole else if c == "cut".toList || (c == "finals".toList && rest.head? == some "cut".toList) then some .cut else if c == "carried".toList then some .carried else if hl.isEmpty then none else some (.lifted hl)
  | [] => none
theorem make_of {P : Program} {W : List (List Char)} (h : wordsSigns P.initOrder.toList = W) : P.make = makeOf W P.headLifts := by
  unfold Program.make; rw [h]; rfl
theorem make' : Tryd.prog.make = some Rows.keyRightRow.make := by rw [make_of ws, headLifts']; kernel_rfl
abbrev laidL : List (String × DataW Unit) := [("paydesk/deal.types", Rows.laid_paydesk_deal_types)]
theorem door_met (os : Os) (args : Array Value) : laidMetH Tryd.prog laidL ((World.doorLaid Tryd.prog 400 os).forCall (fun _ _ => 0) ⟨#[], args, []⟩).memory :=
  laidMetH_of_parts3 (fuel := 8) (laidMet_of_run' 8 (by kernel_rfl) (by kernel_rfl)) (by kernel_rfl) (by kernel_rfl)
theorem glob_of_laid {W : World} (h : laidMetH Tryd.prog laidL W) : GlobOK W (Old W) := by
  rw [MakeChecks.laidMetH_plain _ _ _ (by kernel_rfl)] at h
  obtain ⟨ps, ⟨g0, t0, cs0, f0, p0, q0, hg0, ht0, hv0, hd0, _, _⟩, _, _⟩ := h
  obtain rfl := Option.some.inj (gTypes.symm.trans hg0)
  obtain rfl := Option.some.inj (tTypes.symm.trans ht0)
  obtain ⟨xs, m1, rfl, hx1, hlen, hn8, hel⟩ := DataW.trod_array Tryd.underlying229 hd0
  have c9 : Tryd.prog.cellsOf 9 = 1 := by kernel_rfl
  have cA : Tryd.prog.cellsOf 229 = 8 := by kernel_rfl
  simp only [Prod.mk.injEq] at hx1
  have hx1 : (DataW.agg [.lit (.string []), .lit (.string [48, 49, 48, 48]), .lit (.string [48, 49, 49, 48]), .lit (.string [48, 52, 48, 48]), .lit (.string [48, 52, 49, 48]), .lit (.string [48, 52, 50, 48]), .lit (.string [48, 52, 50, 49]), .lit (.string [48, 52, 51, 48])] : DataW Unit) = .agg (xs.map (·.1)) := hx1.1
  simp only [DataW.agg.injEq] at hx1
  have key : ∀ (j : Nat) (s : List UInt8), ([[], [48, 49, 48, 48], [48, 49, 49, 48], [48, 52, 48, 48], [48, 52, 49, 48], [48, 52, 50, 48], [48, 52, 50, 49], [48, 52, 51, 48]] : List (List UInt8))[j]? = some s → W.cell? ⟨0, j, none⟩ = some (strV s) := by
    intro j s hs
    have hj : j < 8 := by have := (List.getElem?_eq_some_iff.1 hs).1; simpa using this
    have he := hel j hj
    rw [c9, Nat.mul_one] at he
    have hxj : xs[j]? = some xs[j] := by simp [show j < xs.length by omega]
    rw [hxj] at he
    obtain ⟨b, e1, e2, _⟩ := DataW.trod_string Tryd.underlying9 he
    have hlit : xs[j].1 = .lit (.string s) := by
      have e3 : (xs.map (·.1))[j]? = some xs[j].1 := by rw [List.getElem?_map, hxj]; rfl
      rw [← hx1] at e3
      have h8 : j = 0 ∨ j = 1 ∨ j = 2 ∨ j = 3 ∨ j = 4 ∨ j = 5 ∨ j = 6 ∨ j = 7 := by omega
      rcases h8 with rfl | rfl | rfl | rfl | rfl | rfl | rfl | rfl <;> (simp only [List.getElem?_cons_zero, List.getElem?_cons_succ, Option.some.injEq] at e3 hs; subst hs; exact e3.symm)
    rw [e2] at hlit
    have hb : b.data.toList = s := by simpa using hlit
    have hc : cs0[j]? = some (.string b) := by
      have : (cs0.toList.drop j).take 1 = [.string b] := e1
      have h1 : ((cs0.toList.drop j).take 1)[0]? = some (.string b) := by rw [this]; rfl
      rw [List.getElem?_take_of_lt (by omega), List.getElem?_drop, Nat.add_zero, Array.getElem?_toList] at h1
      exact h1
    rw [World.var?_cell gTypes hv0 j, hc]
    unfold strV
    rw [← hb]
  have h0 : 0 < W.heap.size := by
    have := key 0 [] rfl
    unfold World.cell? at this
    split at this
    · rename_i hb; exact (Array.getElem?_eq_some_iff.1 hb).1
    · cases this
  intro n r hr
  have hn : n = 0 := by
    unfold gtab at hr
    cases hb : Nat.beq n 0 with
    | false => rw [hb] at hr; cases hr
    | true => exact Nat.eq_of_beq_eq_true hb
  subst hn
  have hr : r = ⟨9, .str, [[], [48, 49, 48, 48], [48, 49, 49, 48], [48, 52, 48, 48], [48, 52, 49, 48], [48, 52, 50, 48], [48, 52, 50, 49], [48, 52, 51, 48]]⟩ := (Option.some.inj hr).symm
  subst hr
  refine ⟨_, rfl, fun j x hx => ⟨[strV x], rfl, fun i u hu => ?_, rfl⟩⟩
  have hi : i = 0 := by have := (List.getElem?_eq_some_iff.1 hu).1; simp at this; omega
  subst hi
  have hu : u = strV x := by simpa using hu.symm
  subst hu
  have ha : (⟨0, 0, none⟩ : Addr).add (j * (Ty.size .str) + 0) = ⟨0, j, none⟩ := by
    show (⟨0, 0, none⟩ : Addr).add (j * 1 + 0) = _
    unfold Addr.add; split <;> simp_all
  rw [ha]
  exact ⟨key j x hx, h0⟩
end Go.Proofs.YtjgnpmdbkgeakaaDoor
end
section
set_option linter.unusedVariables false
set_option linter.unusedSimpArgs false
namespace Go.Proofs.YtjgnpmdbkgeakaaDoor.lineEvents
open Go.ChangeShapes Go.WideShapes Go.ChangeAt Go.RowKit Go.Proofs.YtjgnpmdbkgeakaaDoor Th G
open Go.ChangeMaps (open_string shut_string)
theorem own : ownKnob Tryd.prog.godebug = none := by kernel_rfl
theorem laidOut : laidOutB Tryd.prog = true := by kernel_rfl
set_option maxRecDepth 100000 in
theorem lifted (os : Os) (started : os.Started) (H : Type) (enc : TypeId × Value → H) :
    ReturnsInHanded {} Tryd.checked os 20 .any (fun w args => (Rows.lineEventsSpec.pre enc Tryd.prog Tryd.f20 [] false w args ∧ laidMetH Tryd.prog laidL w) ∧ sizedMet enc Tryd.prog Tryd.f20 (OpenSpec.ofChange Rows.lineEventsSpec) false w args) (Rows.lineEventsSpec.post enc Tryd.prog Tryd.f20 false true false false) := by
  refine returnsInHanded_of_change_and (C := Tryd.checked) (X := fun w _ => laidMetH Tryd.prog laidL w) (fun _ _ _ hh h => h.of_heap hh) own started (by kernel_rfl) Tryd.func20
    (ChangeSpec.witness_shaped (enc := enc) (C := Tryd.checked) (os := os) (X := fun w _ => laidMetH Tryd.prog laidL w) false (World.doorLaid Tryd.prog 400 os) #[.agg #[.int .i64 0, .string ByteArray.empty, .int .u64 0, .int .u32 0, .string ByteArray.empty, .string ByteArray.empty], .int .i64 0] 8 rfl (World.shaped_of_RefB (by kernel_rfl) (by kernel_rfl)) (by kernel_rfl) (by kernel_rfl) (by kernel_rfl) (door_met os _)) ?_
  intro W base args ds gs before hval0 hW hcnd hsz0 hL _
  have hsz : (DataW.weightsEach Tryd.prog (Tryd.f20.params.toList ++ Rows.lineEventsSpec.plain.varTypes Tryd.prog) (ds ++ gs)).all (· ≤ reachBytes) = true := hsz0
  have hval : ∀ (j : Nat) t v, Tryd.f20.params[j]? = some t → args[j]? = some v → Value.okWide Tryd.prog W .any base t v := hval0
  have hW' := hW
  obtain ⟨p, q, hA0, hV, rfl, hfz, hnd⟩ := hW
  have hA : DataW.TrodAll enc Tryd.prog W 0 (fun _ => true) true Tryd.f20.params.toList args.toList ds p := hA0
  rw [Tryd.params20] at hA hval hsz
  obtain ⟨v0, vs0, d0, ds0, p0, q0, hargs, rfl, rfl, h0, r0⟩ := trodAll_cons hA
  obtain ⟨v1, vs1, d1, ds1, p1, q1, rfl, rfl, rfl, h1, r1⟩ := trodAll_cons r0
  obtain ⟨rfl, rfl, rfl⟩ := trodAll_nil r1
  obtain rfl : args = #[v0, v1] := by cases args; simp_all
  obtain ⟨rfl, rfl⟩ := trodVars_none hV
  obtain ⟨x0, a0, g0⟩ := open_arg (T := (.st (.cons (.int .i64) (.cons .str (.cons (.int .u64) (.cons (.int .u32) (.cons .str (.cons .str .nil)))))))) (by kernel_rfl) (hval 0 25 v0 rfl rfl) h0 (weights_of hsz (j := 0) (t := 25) rfl rfl)
  have k0 := h0
  have lt0 : ∀ x ∈ p0, x.block < W.heap.size := by obtain ⟨m, hm⟩ := k0; exact DataW.trod_lt m _ _ _ hm
  obtain ⟨x1, a1, g1⟩ := open_arg (T := (.int .i64)) (by kernel_rfl) (hval 1 3 v1 rfl rfl) h1 (weights_of hsz (j := 1) (t := 3) rfl rfl)
  have k1 := h1
  have lt1 : ∀ x ∈ p1, x.block < W.heap.size := by obtain ⟨m, hm⟩ := k1; exact DataW.trod_lt m _ _ _ hm
  obtain ⟨k, hk⟩ := PureLineEvents.pure x0 x1 g0 g1
  clear hA0 hval0 hsz0 hsz
  refine (law_of (fn20 k [Ty.av (.st (.cons (.int .i64) (.cons .str (.cons (.int .u64) (.cons (.int .u32) (.cons .str (.cons .str .nil))))))) x0, Ty.av (.int .i64) x1] (x0, (x1, PUnit.unit)) (true, PUnit.unit) rfl rfl hk) (glob_of_laid hL) (us := [v0, v1]) ⟨a0, a1, trivial⟩).mono fun e W' ⟨he, bel⟩ => ?_
  subst he
  exact ⟨_, rfl, _, _, _, [], _, [], hW', trodAll_mk1 (shut_bool Tryd.underlying4 _), (trodAll_cons_mk (Below.trod laidOut (by kernel_rfl) (of_decide_eq_true (by kernel_rfl)) k0 bel lt0) (trodAll_cons_mk (Below.trod laidOut (by kernel_rfl) (of_decide_eq_true (by kernel_rfl)) k1 bel lt1) trodAll_mk0)), rfl, bel.frame _, fun h => by cases h⟩
theorem inP : Tryd.prog.inPlace 20 = [] := by kernel_rfl
theorem unf : Tryd.prog.unfollowed 20 = true := by kernel_rfl
theorem rec' : Tryd.prog.recurses 20 = true := by kernel_rfl
theorem nam : Tryd.prog.varsNamed 20 = ["paydesk/deal.types"] := by kernel_rfl
theorem lk : false = Tryd.prog.looks [] := by kernel_rfl
theorem gb : false = Rows.lineEventsRow.goesBy Tryd.prog := by kernel_rfl
theorem facts : joinedFacts Tryd.prog 20 Tryd.f20 Rows.lineEventsSpec Rows.lineEventsRow = true := by
  unfold joinedFacts
  rw [laidOut, mapsRowed', stopsHeard', mayEnter', plainKeys', liftsFinal', make', stops', stopKnobs', inP, unf, rec', nam]
  kernel_rfl
theorem over : Rows.lineEventsRow.holds Tryd.pinned (OpenSpec.ofChange Rows.lineEventsSpec) :=
  OpenClaim.holds_of_wide 20 Tryd.f20 rfl rfl rfl rfl rfl rfl rfl ⟨rfl, rfl, rfl, rfl, rfl⟩ rfl rfl rfl rfl rfl (by kernel_rfl) Tryd.func20 facts
    (of_decide_eq_true (by kernel_rfl)) (by unfold Func.isWrapper; first | (rw [if_pos (by decide +kernel)]; kernel_rfl) | (rw [if_neg (by decide +kernel)]; exact ⟨rfl, rfl⟩))
    (fun os started H enc _ => lifted os started H enc)
end Go.Proofs.YtjgnpmdbkgeakaaDoor.lineEvents
namespace Go.Proofs.YtjgnpmdbkgeakaaDoor
theorem lineEvents_card_holds : Rows.LineEventsCardSaid :=
  Claim7.holds_tied_plain_at .later [] [.data] true (true, "4b760acf1adc6d3612329ab3c20ec014558e267c494e654019cab19211bf1961") false
    lineEvents.over (fun _ h => by cases h) (by kernel_rfl) (fun _ h => by cases h) lineEvents_row_tie rfl ⟨rfl, rfl⟩ mainIs' rfl
    (fun f fn hf hfn => by
      obtain rfl : f = 20 := Option.some.inj ((show Tryd.prog.funcNamed "paydesk/paydesklaw14.LineEvents" = some 20 by kernel_rfl).symm.trans hf) |>.symm
      obtain rfl : fn = Tryd.f20 := (Option.some.inj (Tryd.func20.symm.trans hfn)).symm
      exact ⟨lineEvents.lk, fun j t ht => by
        rw [Tryd.params20] at ht
        have hm : t ∈ [25, 3] := by simpa using Array.mem_of_getElem? ht
        have hall : ([25, 3].all fun u => !Tryd.prog.wantsStandIn u) = true := by kernel_rfl
        exact (show Tryd.prog.wantsStandIn t = false by simpa using List.all_eq_true.1 hall t hm)⟩)
    lineEvents.gb
end Go.Proofs.YtjgnpmdbkgeakaaDoor
end
