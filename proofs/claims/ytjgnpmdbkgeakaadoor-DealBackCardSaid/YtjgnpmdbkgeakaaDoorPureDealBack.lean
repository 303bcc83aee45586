/- What comes of DealBack: always true. -/
import Derived.Test.YtjgnpmdbkgeakaaDoorPureDealRight
set_option linter.unusedVariables false
set_option linter.unusedSimpArgs false
set_option maxRecDepth 100000
namespace Go.Proofs.YtjgnpmdbkgeakaaDoor.PureDealBack
open Go Go.Proofs.YtjgnpmdbkgeakaaDoor Th G

/-- what the law asks of a message that was read -/
theorem tail (m : Msg) (k : Nat) (hk : 3000 < k) (hl : m.2.1.length ≤ 200) (hx : ∀ x ∈ m.2.1, x.2.1.length ≤ 1200) (h : (readD m).2 = 0) :
    G37 k ((readD m).1, ()) = some (m, 0, ()) ∧ G33 k ((readD m).1, ()) = some (true, ()) := by
  obtain ⟨_, _, _, _, e⟩ := readD_ok h
  obtain ⟨w1, w2⟩ := write_read_deal h
  have hL : lens 1200 (deM m) := ⟨getM_len 2 1200 _ hx, getM_len 37 1200 _ hx, getM_len 39 1200 _ hx⟩
  rw [e, G37_is k 1200 (by omega) (by omega) (deM m) hL (good_deM m), if_pos w2, w1, G33_is k 1200 (by omega) (by omega) (deM m) hL (good_deM m), w2]
  exact ⟨rfl, rfl⟩

theorem inj {d o : Deal} (gd : goodD d) (go : goodD o) (hd : dealOK d = true) (ho : dealOK o = true) : decide (((typeK d.1, itemsK d, ()) : Msg) = (typeK o.1, itemsK o, ())) = decide (d = o) := by
  refine decide_eq_decide.2 ⟨fun e => ?_, fun e => by rw [e]⟩
  have h1 := read_write_deal gd hd
  have h2 := read_write_deal go ho
  rw [e, h2] at h1
  exact (congrArg Prod.fst h1).symm

theorem main (d o : Deal) (m : Msg) (gd : goodD d) (go : goodD o) : G7 5000 (d, o, m, ()) = some (true, ()) := by
  have hsd := PureDealRight.shortD 5000 d
  have hso := PureDealRight.shortD 5000 o
  have hwd := G37_is 5000 300 (by omega) (by omega) d
  have hwo := G37_is 5000 300 (by omega) (by omega) o
  have hil := itemsK_len d
  have hit := itemsK_txt d 300
  have hij := @inj d o gd go
  have hrw := @read_write_deal d gd
  have hrg := @ok_right d gd
  have hdo := sameD d o
  have hdd := sameD d d
  have htl := tail m 5000 (by omega)
  have hbad := @readD_bad m
  have hz : ∀ x, x = zeroD → (sameI x.1 (OfNat.ofNat 0) && (sameS x.2.1 [] && (sameI x.2.2.1 (OfNat.ofNat 0) && (sameI x.2.2.2.1 (OfNat.ofNat 0) && (sameS x.2.2.2.2.1 [] && (sameS x.2.2.2.2.2.1 [] && true)))))) = true := by
    rintro x rfl; simp [sameI, sameS, zeroD]
  rw [decide_eq_true rfl] at hdd
  obtain ⟨k1, pan, amt, stan, rrn, code, ⟨⟩⟩ := d
  obtain ⟨k2, pan2, amt2, stan2, rrn2, code2, ⟨⟩⟩ := o
  obtain ⟨typ, l, ⟨⟩⟩ := m
  have hil' : (itemsK (k1, pan, amt, stan, rrn, code, ())).length ≤ 5 := hil
  rw [G7_eq, PureDealRight.awake 5000 (by omega), ocall_some]
  simp only [Bool.not_true, sel_false]
  rw [hsd, ocall_some]
  by_cases hl : lens 300 (k1, pan, amt, stan, rrn, code, ())
  case neg => rw [decide_eq_false hl]; rfl
  rw [decide_eq_true hl]
  simp only [Bool.not_true, sel_false]
  rw [hso, ocall_some]
  by_cases hl2 : lens 300 (k2, pan2, amt2, stan2, rrn2, code2, ())
  case neg => rw [decide_eq_false hl2]; rfl
  rw [decide_eq_true hl2]
  simp only [Bool.not_true, sel_false]
  obtain ⟨b, hb, hbs⟩ := G35_is 5000 (by omega) typ l
  rw [hb, ocall_some]
  cases b with
  | false => rfl
  | true =>
  obtain ⟨s1, s2, s3⟩ := hbs rfl
  simp only [] at s1 s2 s3
  simp only [Bool.not_true, sel_false]
  rw [hwd hl gd, ocall_some, hwo hl2 go, ocall_some]
  have rc := G40_is 5000 (by omega) typ l (by omega) s3
  have tl := htl s2 s3
  -- what stands behind
  have fin : (ocall (G40 5000 ((typ, l, ()), ())) fun (r : Deal × Int × Unit) =>
      sel (!decide (r.2.1 = (0 : Int))) (some (sameI r.1.1 (OfNat.ofNat (0 : Nat)) && (sameS r.1.2.1 [] && (sameI r.1.2.2.1 (OfNat.ofNat (0 : Nat)) && (sameI r.1.2.2.2.1 (OfNat.ofNat (0 : Nat)) && (sameS r.1.2.2.2.2.1 [] && (sameS r.1.2.2.2.2.2.1 [] && true))))), ()))
        (ocall (G37 5000 ((r.1.1, r.1.2.1, r.1.2.2.1, r.1.2.2.2.1, r.1.2.2.2.2.1, r.1.2.2.2.2.2.1, ()), ())) fun (r_2 : Msg × Int × Unit) =>
          sel (decide (r_2.2.1 = (0 : Int)))
            (ocall (G33 5000 ((r.1.1, r.1.2.1, r.1.2.2.1, r.1.2.2.2.1, r.1.2.2.2.2.1, r.1.2.2.2.2.2.1, ()), ())) fun (r : Bool × Unit) =>
              sel r.1 (ocall (G38 5000 ((r_2.1.1, r_2.1.2.1, ()), (typ, l, ()), ())) fun (r : Bool × Unit) => some (r.1, ())) (some (false, ())))
            (some (false, ())))) = some (true, ()) := by
    rw [rc, ocall_some]
    simp only []
    by_cases c : (readD (typ, l, ())).2 = 0
    · obtain ⟨t1, t2⟩ := tl c
      rw [sel_not, sel_pos c]
      have t1' : G37 5000 (((readD (typ, l, ())).1.1, (readD (typ, l, ())).1.2.1, (readD (typ, l, ())).1.2.2.1, (readD (typ, l, ())).1.2.2.2.1, (readD (typ, l, ())).1.2.2.2.2.1, (readD (typ, l, ())).1.2.2.2.2.2.1, ()), ()) = some ((typ, l, ()), 0, ()) := t1
      have t2' : G33 5000 (((readD (typ, l, ())).1.1, (readD (typ, l, ())).1.2.1, (readD (typ, l, ())).1.2.2.1, (readD (typ, l, ())).1.2.2.2.1, (readD (typ, l, ())).1.2.2.2.2.1, (readD (typ, l, ())).1.2.2.2.2.2.1, ()), ()) = some (true, ()) := t2
      rw [t1', ocall_some]
      simp only []
      rw [t2', sel_pos trivial, ocall_some, sel_true, G38_is 5000 _ _ _ _ (by omega) (by omega), ocall_some, decide_eq_true rfl]
    · rw [sel_not, sel_neg c, hz _ (hbad c)]
  cases ho : dealOK (k1, pan, amt, stan, rrn, code, ()) with
  | false =>
    rw [if_neg (by simp)]
    simp only []
    rw [sel_neg (by decide)]
    exact fin
  | true =>
    rw [if_pos rfl]
    simp only []
    rw [sel_pos trivial]
    have hrd := hrw ho
    have r1 := G40_is 5000 (by omega) (typeK k1) (itemsK (k1, pan, amt, stan, rrn, code, ())) (by omega) (fun x hx => by have := hit hl.1 hl.2.1 hl.2.2 x hx; omega)
    have hrd' : readD (typeK k1, itemsK (k1, pan, amt, stan, rrn, code, ()), ()) = ((k1, pan, amt, stan, rrn, code, ()), 0) := hrd
    rw [hrd'] at r1
    rw [r1, ocall_some]
    simp only []
    rw [sel_not, sel_pos trivial]
    simp only [] at hdd
    rw [hdd, Bool.not_true, sel_false]
    have r2 := G44_is 5000 (by omega) (typeK k1) (itemsK (k1, pan, amt, stan, rrn, code, ())) (by omega) (by omega) (fun x hx => by have := hit hl.1 hl.2.1 hl.2.2 x hx; rw [maxLen_eq]; omega)
    have r2' : msgRight (typeK k1, itemsK (k1, pan, amt, stan, rrn, code, ()), ()) = true := hrg ho
    rw [r2'] at r2
    rw [r2, ocall_some]
    simp only [Bool.not_true, sel_false]
    cases ho2 : dealOK (k2, pan2, amt2, stan2, rrn2, code2, ()) with
    | false =>
      rw [if_neg (by simp)]
      simp only []
      rw [sel_neg (by decide)]
      exact fin
    | true =>
      rw [if_pos rfl]
      simp only []
      rw [sel_pos trivial, G38_is 5000 _ _ _ _ (by omega) (by omega), ocall_some]
      have hij' := hij ho ho2
      simp only [] at hij' hdo
      rw [hij', hdo]
      have : (!decide (((k1, pan, amt, stan, rrn, code, ()) : Deal) = (k2, pan2, amt2, stan2, rrn2, code2, ())) == decide (((k1, pan, amt, stan, rrn, code, ()) : Deal) = (k2, pan2, amt2, stan2, rrn2, code2, ()))) = false := by
        cases decide (((k1, pan, amt, stan, rrn, code, ()) : Deal) = (k2, pan2, amt2, stan2, rrn2, code2, ())) <;> rfl
      rw [this, sel_false]
      exact fin

theorem pure (x0 : Ty.den (.st (.cons (.int .i64) (.cons .str (.cons (.int .u64) (.cons (.int .u32) (.cons .str (.cons .str .nil)))))))) (x1 : Ty.den (.st (.cons (.int .i64) (.cons .str (.cons (.int .u64) (.cons (.int .u32) (.cons .str (.cons .str .nil)))))))) (x2 : Ty.den (.st (.cons .str (.cons (.slice (.st (.cons (.int .i64) (.cons .str .nil)))) .nil)))) (g0 : Ty.Good (.st (.cons (.int .i64) (.cons .str (.cons (.int .u64) (.cons (.int .u32) (.cons .str (.cons .str .nil))))))) x0) (g1 : Ty.Good (.st (.cons (.int .i64) (.cons .str (.cons (.int .u64) (.cons (.int .u32) (.cons .str (.cons .str .nil))))))) x1) (g2 : Ty.Good (.st (.cons .str (.cons (.slice (.st (.cons (.int .i64) (.cons .str .nil)))) .nil))) x2) : ∃ k, F7 k (x0, (x1, (x2, PUnit.unit))) = some (true, PUnit.unit) :=
  ⟨5000, main x0 x1 x2 ⟨good_u64 g0.2.2.1, good_u32 g0.2.2.2.1⟩ ⟨good_u64 g1.2.2.1, good_u32 g1.2.2.2.1⟩⟩
end Go.Proofs.YtjgnpmdbkgeakaaDoor.PureDealBack
