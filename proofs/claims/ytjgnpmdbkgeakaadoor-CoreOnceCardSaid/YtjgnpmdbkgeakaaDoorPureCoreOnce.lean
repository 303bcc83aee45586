/- What comes of CoreOnce: always true. -/
import Derived.Test.YtjgnpmdbkgeakaaDoorCore6
import Derived.Test.YtjgnpmdbkgeakaaDoorPureCoreRight
import Derived.Test.YtjgnpmdbkgeakaaDoorEqQ
set_option linter.unusedVariables false
set_option linter.unusedSimpArgs false
set_option maxRecDepth 100000
namespace Go.Proofs.YtjgnpmdbkgeakaaDoor.PureCoreOnce
open Go Go.Proofs.YtjgnpmdbkgeakaaDoor Th G PureCoreRight

theorem loop18 (k : Nat) (l : List G.Event) (tr az ad ag i ks : Int) (kr : Txt) (e1 : Int) (e2 : Txt) (e3 : Int) (e4 : Txt) (e5 : Int) (e6 : Txt) (e7 e8 s1 : Int) (s2 : Txt) (s3 : Int) (s4 : Txt) (s5 : Int) (sc : Txt) (s7 s8 : Int) (A I : List Deal) (tm : Int) (rc : Bool) (hA : A.length ≤ 1000) :
    ∀ (j p : Nat), p + j = A.length → ∀ (c : Txt) (n : Nat), j < n →
      G10_18 k n (l, tr, c, az, ad, ag, i, (p : Int), ks, kr, e1, e2, e3, e4, e5, e6, e7, e8, s1, s2, s3, s4, s5, sc, s7, s8, A, I, tm, rc, ()) =
        some (match foldA sc (A.drop p) c with
          | some c' => .inl (l, tr, c', az, ad, ag, i, ks, kr, e1, e2, e3, e4, e5, e6, e7, e8, s1, s2, s3, s4, s5, sc, s7, s8, A, I, tm, rc, ())
          | none => .inr (false, ())) := by
  intro j
  induction j with
  | zero =>
    intro p hp c n hn
    obtain ⟨n, rfl⟩ : ∃ m, n = m + 1 := ⟨n - 1, by omega⟩
    rw [G10_18_eq, sel_neg (by simp only [ofNat_len]; omega), List.drop_eq_nil_of_le (by omega)]
    rfl
  | succ j ih =>
    intro p hp c n hn
    obtain ⟨n, rfl⟩ : ∃ m, n = m + 1 := ⟨n - 1, by omega⟩
    have hlt : p < A.length := by omega
    have ih1 := ih (p + 1) (by omega) c n (by omega)
    have ih2 := ih (p + 1) (by omega) A[p].2.2.2.2.2.1 n (by omega)
    rw [Int.natCast_add, Int.natCast_one] at ih1 ih2
    rw [G10_18_eq, sel_pos (by simp only [ofNat_len]; omega), sel_pos (by omega), sel_pos (by simp only [ofNat_len]; omega)]
    simp only [Int.toNat_natCast, getD_of hlt]
    rw [wrap64 (by omega) (by omega), ih1, ih2, List.drop_eq_getElem_cons hlt]
    generalize hR1 : foldA sc (A.drop (p + 1)) c = R1
    generalize hR2 : foldA sc (A.drop (p + 1)) A[p].2.2.2.2.2.1 = R2
    unfold foldA
    rw [hR1, hR2]
    by_cases c1 : A[p].1 = 2
    case neg => rw [sel_not, sel_neg c1, if_neg (fun h => c1 h.1)]
    rw [sel_not, sel_pos c1]
    by_cases c2 : A[p].2.2.2.2.2.1 = [57, 52]
    · rw [sel_pos c2]
      by_cases c3 : sc = [57, 52]
      · rw [sel_not, sel_pos c3, if_pos ⟨c1, fun h => h.2 c3⟩]
        by_cases c4 : c = []
        · rw [sel_not, sel_pos c4, if_neg (fun h => h.1 c4)]
        · rw [sel_not, sel_neg c4]
          by_cases c5 : A[p].2.2.2.2.2.1 = c
          · rw [sel_not, sel_pos c5, if_neg (fun h => h.2 c5)]
          · rw [sel_not, sel_neg c5, if_pos ⟨c4, c5⟩]
      · rw [sel_not, sel_neg c3, if_neg (fun h => h.2 ⟨c2, c3⟩)]
    · rw [sel_neg c2, if_pos ⟨c1, fun h => c2 h.1⟩]
      by_cases c4 : c = []
      · rw [sel_not, sel_pos c4, if_neg (fun h => h.1 c4)]
      · rw [sel_not, sel_neg c4]
        by_cases c5 : A[p].2.2.2.2.2.1 = c
        · rw [sel_not, sel_pos c5, if_neg (fun h => h.2 c5)]
        · rw [sel_not, sel_neg c5, if_pos ⟨c4, c5⟩]

theorem loop26 (k : Nat) (l : List G.Event) (tr : Int) (c : Txt) (az ad ag i ks : Int) (kr : Txt) (e1 : Int) (e2 : Txt) (e3 : Int) (e4 : Txt) (e5 : Int) (e6 : Txt) (e7 e8 s1 : Int) (s2 : Txt) (s3 : Int) (s4 : Txt) (s5 : Int) (sc : Txt) (s7 s8 : Int) (A I : List Deal) (tm : Int) (rc : Bool)
    (hI : I.length ≤ 1) (h1 : 0 ≤ az ∧ az ≤ 1000) (h2 : 0 ≤ ad ∧ ad ≤ 1000) (h3 : 0 ≤ ag ∧ ag ≤ 1000) (n : Nat) (hn : 2 < n) :
    G10_26 k n (l, tr, c, az, ad, ag, i, 0, ks, kr, e1, e2, e3, e4, e5, e6, e7, e8, s1, s2, s3, s4, s5, sc, s7, s8, A, I, tm, rc, ()) =
      some (l, tr, c, az + cntI 1 I, ad + cntI 5 I, ag + cntI 6 I, i, ks, kr, e1, e2, e3, e4, e5, e6, e7, e8, s1, s2, s3, s4, s5, sc, s7, s8, A, I, tm, rc, ()) := by
  obtain ⟨n, rfl⟩ : ∃ m, n = m + 2 := ⟨n - 2, by omega⟩
  match I, hI with
  | [], _ =>
    rw [G10_26_eq, sel_neg (by simp)]
    simp [cntI]
  | [d], _ =>
    have w0 : IntKind.i64.wrap (0 + 1) = 1 := by rfl
    have en : ∀ az ad ag : Int, G10_26 k (n + 1) (l, tr, c, az, ad, ag, i, 1, ks, kr, e1, e2, e3, e4, e5, e6, e7, e8, s1, s2, s3, s4, s5, sc, s7, s8, A, [d], tm, rc, ()) =
        some (l, tr, c, az, ad, ag, i, ks, kr, e1, e2, e3, e4, e5, e6, e7, e8, s1, s2, s3, s4, s5, sc, s7, s8, A, [d], tm, rc, ()) := by
      intro az ad ag
      rw [G10_26_eq, sel_neg (by simp)]
    rw [G10_26_eq, sel_pos (by simp), sel_pos (by omega), sel_pos (by simp)]
    have g0 : ∀ x : Deal, [d].getD (Int.toNat 0) x = d := fun _ => rfl
    simp only [g0, w0]
    rw [wrap64 (n := az + 1) (by omega) (by omega), wrap64 (n := ad + 1) (by omega) (by omega), wrap64 (n := ag + 1) (by omega) (by omega), en, en, en, en]
    by_cases c1 : d.1 = 1
    · rw [sel_pos c1]; simp [cntI, c1]
    rw [sel_neg c1]
    by_cases c5 : d.1 = 5
    · rw [sel_pos c5]; simp [cntI, c1, c5]
    rw [sel_neg c5]
    by_cases c6 : d.1 = 6
    · rw [sel_pos c6]; simp [cntI, c1, c5, c6]
    rw [sel_neg c6]; simp [cntI, c1, c5, c6]

theorem once_bounds {k : Key} {tr : Int} {e : Entry} {c : Txt} {az ad ag : Int} (ht : 0 ≤ tr ∧ tr ≤ 16) (h : OnceI k tr e c az ad ag) : (0 ≤ az ∧ az ≤ 1) ∧ (0 ≤ ad ∧ ad ≤ 1) ∧ (0 ≤ ag ∧ ag ≤ tr) ∧ -9223372036854775808 ≤ e.2.2.2.2.2.1 ∧ e.2.2.2.2.2.1 ≤ 9223372036854775807 := by
  obtain ⟨_, _, _, h⟩ := h
  rcases h with ⟨rfl, rfl, rfl, rfl⟩ | ⟨hE, _, rfl, rfl, rfl, hle, _⟩
  · exact ⟨by omega, by omega, by omega, by decide, by decide⟩
  · have hs := (entry_parts.1 hE).2.2.2.2
    have hp : 0 ≤ e.2.2.2.2.2.1 := by
      obtain ⟨a, b⟩ := staged_pos hs
      by_cases c4 : e.2.1 = 4 ∨ e.2.1 = 5 ∨ e.2.1 = 6
      · exact ((staged4 c4).1 hs).2.1
      · have hc : e.2.1 = 1 ∨ e.2.1 = 2 ∨ e.2.1 = 3 := by omega
        rcases hc with c | c | c
        · rw [c] at hs; rw [(staged1.1 hs).1]; decide
        · rw [c] at hs; rw [(staged2.1 hs).1]; decide
        · rw [c] at hs; rw [(staged3.1 hs).1]; decide
    refine ⟨by omega, ?_, by omega, by omega, by omega⟩
    split <;> omega

theorem loop9 (l : List G.Event) (hl : l.length ≤ 60) (hg : ∀ v ∈ l, goodD v.2.1) (tr : Int) (ht : 0 ≤ tr ∧ tr ≤ 16) (ks : Int) (kr : Txt) (hks : 0 ≤ ks ∧ ks ≤ 4294967295) :
    ∀ (j p : Nat), p + j = l.length → ∀ (e : Entry) (c : Txt) (az ad ag : Int), OnceI (ks, kr, ()) tr e c az ad ag → ∀ n, j < n →
      ∃ r, G10_9 5000 n (l, tr, c, az, ad, ag, (p : Int), ks, kr, e.1.1, e.1.2.1, e.2.1, e.2.2.1, e.2.2.2.1, e.2.2.2.2.1, e.2.2.2.2.2.1, e.2.2.2.2.2.2.1, ()) = some r ∧
        (r = .inr (true, ()) ∨ ∃ az ad ag, r = .inl (tr, az, ad, ag, ()) ∧ az ≤ 1 ∧ ad ≤ 1 ∧ ag ≤ tr) := by
  intro j
  induction j with
  | zero =>
    intro p hp e c az ad ag hi n hn
    obtain ⟨n, rfl⟩ : ∃ m, n = m + 1 := ⟨n - 1, by omega⟩
    obtain ⟨b1, b2, b3, _⟩ := once_bounds ht hi
    rw [G10_9_eq, sel_neg (by simp only [ofNat_len]; omega)]
    exact ⟨_, rfl, .inr ⟨az, ad, ag, rfl, b1.2, b2.2, b3.2⟩⟩
  | succ j ih =>
    intro p hp e c az ad ag hi n hn
    obtain ⟨n, rfl⟩ : ∃ m, n = m + 1 := ⟨n - 1, by omega⟩
    have hlt : p < l.length := by omega
    have hgd := hg l[p] (List.getElem_mem _)
    obtain ⟨b1, b2, b3, b4⟩ := once_bounds ht hi
    have next := fun e c az ad ag h => ih (p + 1) (by omega) e c az ad ag h n (by omega)
    have hi0 := hi
    obtain ⟨hc, hle, hge, _⟩ := hi0
    rw [G10_9_eq, sel_pos (by simp only [ofNat_len]; omega), sel_pos (by omega), sel_pos (by simp only [ofNat_len]; omega)]
    simp only [Int.toNat_natCast, getD_of hlt]
    rw [wrap64 (n := (p : Int) + 1) (by omega) (by omega), show (p : Int) + 1 = ((p + 1 : Nat) : Int) by omega]
    generalize l[p] = v at hgd
    obtain ⟨kind, ⟨dk, dpan, damt, dstan, drrn, dcode, ⟨⟩⟩, ⟨⟩⟩ := v
    (try simp only [])
    rw [shortDD 5000 (dk, dpan, damt, dstan, drrn, dcode, ()), ocall_some]
    by_cases hs : lens 300 (dk, dpan, damt, dstan, drrn, dcode, ())
    case neg => rw [decide_eq_false hs]; exact ⟨_, rfl, .inl rfl⟩
    rw [decide_eq_true hs]
    simp only [Bool.not_true, sel_false]
    by_cases hkr : 300 < kr.length
    · rw [sel_pos (by simp only [ofNat_len]; omega)]; exact ⟨_, rfl, .inl rfl⟩
    rw [sel_neg (by simp only [ofNat_len]; omega)]
    have hs2 : lens 300 (dk, dpan, damt, ks, kr, dcode, ()) := ⟨hs.1, by show kr.length ≤ 300; omega, hs.2.2⟩
    have hg2 : goodD (dk, dpan, damt, ks, kr, dcode, ()) := ⟨hgd.1, hks⟩
    have hdo := G47_is 5000 300 (by omega) (by omega) (by omega) e kind (dk, dpan, damt, ks, kr, dcode, ()) tr hle hge hs2 hg2 b4
    have ee : (((e.1.1, e.1.2.1, ()), e.2.1, e.2.2.1, e.2.2.2.1, e.2.2.2.2.1, e.2.2.2.2.2.1, e.2.2.2.2.2.2.1, ()) : Entry) = e := rfl
    rw [ee, hdo, ocall_some]
    by_cases hm : mayK e (kind, (dk, dpan, damt, ks, kr, dcode, ()), ()) tr = true
    case neg =>
      have hd : doK e (kind, (dk, dpan, damt, ks, kr, dcode, ()), ()) tr = (zeroS, 1) := by unfold doK; rw [if_neg hm]
      rw [hd]
      (try simp only [])
      rw [sel_not, sel_neg (by decide)]
      exact next e c az ad ag hi
    have hd : doK e (kind, (dk, dpan, damt, ks, kr, dcode, ()), ()) tr = (stepK e (kind, (dk, dpan, damt, ks, kr, dcode, ()), ()) tr, 0) := by unfold doK; rw [if_pos hm]
    rw [hd]
    have hok := step_ok hm
    obtain ⟨o1, o2, o3⟩ := once_step hm rfl hi hs2 hg2
    generalize stepK e (kind, (dk, dpan, damt, ks, kr, dcode, ()), ()) tr = s at hok o1 o2 o3
    have hA : s.2.1.length ≤ 2 := hok.2.2.2.2.2.1
    have hI : s.2.2.1.length ≤ 1 := hok.2.2.2.2.2.2
    (try simp only [])
    rw [sel_not, sel_pos trivial]
    have h18 := loop18 5000 l tr az ad ag (p : Int) ks kr e.1.1 e.1.2.1 e.2.1 e.2.2.1 e.2.2.2.1 e.2.2.2.2.1 e.2.2.2.2.2.1 e.2.2.2.2.2.2.1 s.1.1.1 s.1.1.2.1 s.1.2.1 s.1.2.2.1 s.1.2.2.2.1 s.1.2.2.2.2.1 s.1.2.2.2.2.2.1 s.1.2.2.2.2.2.2.1 s.2.1 s.2.2.1 s.2.2.2.1 s.2.2.2.2.1 (by omega) s.2.1.length 0 (by omega) c 5000 (by omega)
    rw [List.drop_zero, o1, Int.natCast_zero] at h18
    rw [h18, ocall_some, esel_inl]
    (try simp only [])
    rw [loop26 5000 l tr _ az ad ag (p : Int) ks kr e.1.1 e.1.2.1 e.2.1 e.2.2.1 e.2.2.2.1 e.2.2.2.2.1 e.2.2.2.2.2.1 e.2.2.2.2.2.2.1 s.1.1.1 s.1.1.2.1 s.1.2.1 s.1.2.2.1 s.1.2.2.2.1 s.1.2.2.2.2.1 s.1.2.2.2.2.2.1 s.1.2.2.2.2.2.2.1 s.2.1 s.2.2.1 s.2.2.2.1 s.2.2.2.2.1 hI (by omega) (by omega) (by omega) 5000 (by omega), ocall_some]
    (try simp only [])
    rw [wrap64 (n := (p : Int) + 1) (by omega) (by omega), show (p : Int) + 1 = ((p + 1 : Nat) : Int) by omega]
    by_cases hf : s.1.2.2.2.2.1 = [48, 48]
    · rw [sel_pos hf, sel_neg (fun h => o2 ⟨hf, h⟩)]
      exact next s.1 _ _ _ _ o3
    · rw [sel_neg hf]
      exact next s.1 _ _ _ _ o3

theorem main (ks : Int) (kr : Txt) (l : List G.Event) (tr : Int) (hks : 0 ≤ ks ∧ ks ≤ 4294967295) (hg : ∀ v ∈ l, goodD v.2.1) : G10 5000 ((ks, kr, ()), l, tr, ()) = some (true, ()) := by
  rw [G10_eq, awake 5000 (by omega), ocall_some]
  simp only [Bool.not_true, sel_false, ofNat_len]
  by_cases hl : l.length ≤ 60
  case neg => rw [sel_pos (by omega)]
  rw [sel_neg (by omega)]
  by_cases t0 : tr < 0
  · rw [sel_pos t0]
  rw [sel_neg t0]
  by_cases t1 : 16 < tr
  · rw [sel_pos t1]
  rw [sel_neg t1]
  have hz : OnceI (ks, kr, ()) tr zeroE [] 0 0 0 := ⟨rfl, ⟨by decide, by decide, by decide⟩, ⟨by decide, by decide⟩, .inl ⟨rfl, rfl, rfl, rfl⟩⟩
  obtain ⟨r, hr, h⟩ := loop9 l hl hg tr ⟨by omega, by omega⟩ ks kr hks l.length 0 (by omega) zeroE [] 0 0 0 hz 5000 (by omega)
  rw [Int.natCast_zero] at hr
  simp only [zeroE] at hr
  rw [hr, ocall_some]
  rcases h with rfl | ⟨az, ad, ag, rfl, h1, h2, h3⟩
  · rfl
  · rw [esel_inl, sel_pos h1, sel_pos h2, decide_eq_true h3]

theorem pure (x0 : Ty.den (.st (.cons (.int .u32) (.cons .str .nil)))) (x1 : Ty.den (.slice (.st (.cons (.int .i64) (.cons (.st (.cons (.int .i64) (.cons .str (.cons (.int .u64) (.cons (.int .u32) (.cons .str (.cons .str .nil))))))) .nil))))) (x2 : Ty.den (.int .i64)) (g0 : Ty.Good (.st (.cons (.int .u32) (.cons .str .nil))) x0) (g1 : Ty.Good (.slice (.st (.cons (.int .i64) (.cons (.st (.cons (.int .i64) (.cons .str (.cons (.int .u64) (.cons (.int .u32) (.cons .str (.cons .str .nil))))))) .nil)))) x1) (g2 : Ty.Good (.int .i64) x2) : ∃ k, F10 k (x0, (x1, (x2, PUnit.unit))) = some (true, PUnit.unit) :=
  ⟨5000, main x0.1 x0.2.1 x1 x2 (good_u32 g0.1) fun v hv => have h := g1.2.2 v hv; ⟨good_u64 h.2.1.2.2.1, good_u32 h.2.1.2.2.2.1⟩⟩
end Go.Proofs.YtjgnpmdbkgeakaaDoor.PureCoreOnce
