/- What comes of DealRight: always true. -/
import Derived.Test.YtjgnpmdbkgeakaaDoorDeal4
set_option linter.unusedVariables false
set_option linter.unusedSimpArgs false
set_option maxRecDepth 100000
namespace Go.Proofs.YtjgnpmdbkgeakaaDoor.PureDealRight
open Go Go.Proofs.YtjgnpmdbkgeakaaDoor Th G

theorem shortD (k : Nat) (d : Deal) : G24 k (d, ()) = some (decide (lens 300 d), ()) := by
  obtain ⟨kind, pan, amt, stan, rrn, code, ⟨⟩⟩ := d
  rw [G24_eq]
  simp only [ofNat_len]
  by_cases h : lens 300 (kind, pan, amt, stan, rrn, code, ())
  · have h1 : pan.length ≤ 300 := h.1
    have h2 : rrn.length ≤ 300 := h.2.1
    have h3 : code.length ≤ 300 := h.2.2
    rw [sel_pos (by omega), sel_pos (by omega), decide_eq_true h, decide_eq_true (show (code.length : Int) ≤ 300 by omega)]
  · rw [decide_eq_false h]
    by_cases h1 : pan.length ≤ 300
    · rw [sel_pos (by omega)]
      by_cases h2 : rrn.length ≤ 300
      · have h3 : ¬ code.length ≤ 300 := fun e => h ⟨h1, h2, e⟩
        rw [sel_pos (by omega), decide_eq_false (show ¬ (code.length : Int) ≤ 300 by omega)]
      · rw [sel_neg (by omega)]
    · rw [sel_neg (by omega)]

def dA : Deal := (5, [49, 56], 500, 7, [97, 98, 99, 100, 101, 102, 103, 104, 105, 106, 107, 108], [], ())
def dB : Deal := (1, [49, 57], 0, 0, [97, 98, 99, 100, 101, 102, 103, 104, 105, 106, 107, 108], [], ())
theorem okA : dealOK dA = true := by decide
theorem okB : dealOK dB = false := by decide
theorem goodA : goodD dA := ⟨by decide, by decide⟩
theorem goodB : goodD dB := ⟨by decide, by decide⟩
theorem itA : itemsK dA = [(2, [49, 56], ()), (4, [48, 48, 48, 48, 48, 48, 48, 48, 48, 53, 48, 48], ()), (11, [48, 48, 48, 48, 48, 55], ()), (37, [97, 98, 99, 100, 101, 102, 103, 104, 105, 106, 107, 108], ()), (90, originT 7, ())] := by decide

theorem awake (k : Nat) (hk : 3000 < k) : G34 k () = some (true, ()) := by
  rw [G34_eq]
  have w1 := G37_is k 300 (by omega) (by omega) dA (by decide) goodA
  have w2 := G37_is k 300 (by omega) (by omega) dB (by decide) goodB
  rw [if_pos okA] at w1
  rw [okB, if_neg (by simp)] at w2
  have rd := read_write_deal goodA okA
  have r1 := G40_is k (by omega) (typeK 5) (itemsK dA) (by have := itemsK_len dA; omega) (fun x hx => by have := itemsK_txt dA 300 (by decide) (by decide) (by decide) x hx; omega)
  have ri := G33_is k 300 (by omega) (by omega) dA (by decide) goodA
  rw [okA] at ri
  have rd' : readD (typeK 5, itemsK dA, ()) = (dA, 0) := rd
  rw [rd'] at r1
  have e5 : typeK dA.1 = typeK 5 := rfl
  rw [e5] at w1
  unfold dA at w1 r1 ri
  unfold dB at w2
  rw [w1, ocall_some]
  simp only []
  rw [r1, ocall_some, w2, ocall_some]
  simp only []
  have it := itA
  unfold dA at it
  rw [it, sel_pos trivial, sel_pos trivial, sel_pos trivial, sel_pos (by decide), sel_pos (by simp only [List.length_cons, List.length_nil]; rfl), sel_pos (by simp only [List.length_cons, List.length_nil]; decide), sel_pos (by rfl)]
  rw [ri]
  simp only [ocall_some, sel_true, G42_is]
  simp [sameI, sameS, asksK]

theorem main (d : Deal) (m : Msg) (kind : Int) (gd : goodD d) : G6 5000 (d, m, kind, ()) = some (true, ()) := by
  have hsd := shortD 5000 d
  have hw := G37_is 5000 300 (by omega) (by omega) d
  have hri := G33_is 5000 300 (by omega) (by omega) d
  have hrr := G36_is 5000 300 (by omega) (by omega) d
  have hW := fun h1 h7 => G39_is 5000 (by omega) d.1 d.2.1 d.2.2.1 d.2.2.2.1 d.2.2.2.2.1 d.2.2.2.2.2.1 h1 h7 gd.1 gd.2
  have hil := itemsK_len d
  have hok := @ok_parts d
  obtain ⟨k1, pan, amt, stan, rrn, code, ⟨⟩⟩ := d
  obtain ⟨typ, l, ⟨⟩⟩ := m
  rw [G6_eq, awake 5000 (by omega), ocall_some]
  simp only [Bool.not_true, sel_false]
  rw [hsd, ocall_some]
  by_cases hl : lens 300 (k1, pan, amt, stan, rrn, code, ())
  case neg => rw [decide_eq_false hl]; rfl
  rw [decide_eq_true hl]
  simp only [Bool.not_true, sel_false]
  obtain ⟨b, hb, hbs⟩ := G35_is 5000 (by omega) typ l
  rw [hb, ocall_some]
  cases b with
  | false => rfl
  | true =>
    obtain ⟨s1, s2, s3⟩ := hbs rfl
    simp only [] at s1 s2 s3
    simp only [Bool.not_true, sel_false]
    rw [hrr hl gd, ocall_some]
    have rc := G40_is 5000 (by omega) typ l (by omega) s3
    have rr := G41_is 5000 (by omega) typ l (by omega) s3
    rw [hw hl gd, ocall_some]
    have hsm := sameD (readD (typ, l, ())).1 (readD (typ, l, ())).1
    rw [decide_eq_true rfl] at hsm
    cases ho : dealOK (k1, pan, amt, stan, rrn, code, ()) with
    | true =>
      obtain ⟨a1, a7, _⟩ := hok ho
      rw [if_pos rfl]
      simp only [sel_true, Bool.not_true, sel_false]
      rw [sel_not, sel_pos trivial, hW a1 a7, ocall_some]
      simp only []
      rw [G38_is 5000 _ _ _ _ (by omega) (by omega), ocall_some, decide_eq_true rfl]
      simp only [Bool.not_true, sel_false]
      rw [rc, ocall_some, rr, ocall_some]
      simp only []
      rw [hri hl gd, ocall_some, ho]
      simp only [hsm, G42_is, G43_is, ocall_some]
      simp
    | false =>
      rw [if_neg (by simp)]
      simp only [sel_true, Bool.not_false, sel_false]
      rw [sel_not, sel_pos trivial, G38_is 5000 _ _ _ _ (by simp) (by simp), ocall_some, decide_eq_true rfl]
      simp only [Bool.not_true, sel_false]
      rw [rc, ocall_some, rr, ocall_some]
      simp only []
      rw [hri hl gd, ocall_some, ho]
      simp only [hsm, G42_is, G43_is, ocall_some]
      simp

theorem pure (x0 : Ty.den (.st (.cons (.int .i64) (.cons .str (.cons (.int .u64) (.cons (.int .u32) (.cons .str (.cons .str .nil)))))))) (x1 : Ty.den (.st (.cons .str (.cons (.slice (.st (.cons (.int .i64) (.cons .str .nil)))) .nil)))) (x2 : Ty.den (.int .i64)) (g0 : Ty.Good (.st (.cons (.int .i64) (.cons .str (.cons (.int .u64) (.cons (.int .u32) (.cons .str (.cons .str .nil))))))) x0) (g1 : Ty.Good (.st (.cons .str (.cons (.slice (.st (.cons (.int .i64) (.cons .str .nil)))) .nil))) x1) (g2 : Ty.Good (.int .i64) x2) : ∃ k, F6 k (x0, (x1, (x2, PUnit.unit))) = some (true, PUnit.unit) :=
  ⟨5000, main x0 x1 x2 ⟨good_u64 g0.2.2.1, good_u32 g0.2.2.2.1⟩⟩
end Go.Proofs.YtjgnpmdbkgeakaaDoor.PureDealRight
