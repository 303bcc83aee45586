/- The statement HandTurns, out of what its function answers. No condition. -/
import Derived.Test.YtmkgkgamkeeneaaQHandTurns2
import Derived.Test.YtmkgkgamkeeneaaRows
import Derived.Carry
section
set_option linter.unusedVariables false
set_option linter.unusedSimpArgs false
set_option maxRecDepth 100000
namespace Go.Proofs.Ytmkgkgamkeeneaa.G
open Go Go.Proofs.Ytmkgkgamkeeneaa Th
theorem tmod4_neg {n : Int} (h : n ≤ 0) : n.tmod 4096 = -((-n) % 4096) := by
  have := Int.neg_tmod (-n) 4096
  rw [Int.neg_neg] at this
  rw [this, tmod4 (by omega)]
theorem turn_of (n : Int) : (IntKind.i64.wrap (n.tmod 4096 + 4096)).tmod 4096 = n % 4096 := by
  rcases (show 0 ≤ n ∨ n ≤ 0 by omega) with h | h
  · rw [tmod4 h, wrap64 (by omega) (by omega), tmod4 (by omega)]; omega
  · rw [tmod4_neg h, wrap64 (by omega) (by omega), tmod4 (by omega)]; omega
theorem G11_is (k : Nat) (t : Int) (h0 : 0 ≤ t) (h : t ≤ 18446744073709551615) : ∃ z, G11 k (t, ()) = some (z, ()) ∧ isH z (t % 4096).toNat := by
  rw [G11_eq]
  have hw : IntKind.u64.wrap (t.tdiv 64) = t / 64 := by rw [tdiv64 h0]; exact wrapu64 (by omega) (by omega)
  rw [hw, tmod64 h0, tmod64 (by omega)]
  exact ⟨_, rfl, (t / 64 % 64).toNat, (t % 64).toNat, by omega, by omega, by omega, isI_nat (by omega) (by omega), isI_nat (by omega) (by omega)⟩
theorem c_addI {x y u v : Nat} {a b c d : Int} (h1 : isI x a) (h2 : isI y b) (h3 : isI u c) (h4 : isI v d) (l1 : (a + c).natAbs < 2 ^ 53) (l2 : (b + d).natAbs < 2 ^ 53) :
    cOK .add x y u v = true ∧ isI (cVal .add x y u v).1 (a + c) ∧ isI (cVal .add x y u v).2 (b + d) := by
  obtain ⟨p, hp, ip⟩ := isI_add h1 h3 l1
  obtain ⟨q, hq, iq⟩ := isI_add h2 h4 l2
  have e : cOp .add x y u v = some (p, q) := by
    show cSumBits .add .f64 x y u v = _
    unfold cSumBits
    rw [show floatBits .add .f64 x u = some p from hp, show floatBits .add .f64 y v = some q from hq]; rfl
  unfold cOK cVal
  rw [e]
  exact ⟨rfl, ip, iq⟩
theorem c_subI {x y u v : Nat} {a b c d : Int} (h1 : isI x a) (h2 : isI y b) (h3 : isI u c) (h4 : isI v d) (l1 : (a - c).natAbs < 2 ^ 53) (l2 : (b - d).natAbs < 2 ^ 53) :
    cOK .sub x y u v = true ∧ isI (cVal .sub x y u v).1 (a - c) ∧ isI (cVal .sub x y u v).2 (b - d) := by
  obtain ⟨p, hp, ip⟩ := isI_sub h1 h3 l1
  obtain ⟨q, hq, iq⟩ := isI_sub h2 h4 l2
  have e : cOp .sub x y u v = some (p, q) := by
    show cSumBits .sub .f64 x y u v = _
    unfold cSumBits
    rw [show floatBits .sub .f64 x u = some p from hp, show floatBits .sub .f64 y v = some q from hq]; rfl
  unfold cOK cVal
  rw [e]
  exact ⟨rfl, ip, iq⟩
theorem isI_z : isI 0 (0 : Int) := isI_zero
theorem G21_is (k : Nat) (x y : Nat) (a b : Nat) (ha : a < 127) (hb : b < 127) (hx : isI x a) (hy : isI y b) : ∃ z, G21 k ((x, y), ()) = some (z, ()) ∧ isH z ((64 * a + b) % 4096) := by
  have c1 := c_addI hx hy i1c im64c (by rw [p53]; omega) (by rw [p53]; omega)
  have c2 := c_subI c1.2.1 c1.2.2 i64c isI_z (by rw [p53]; omega) (by rw [p53]; omega)
  have c3 := c_subI hx hy i64c isI_z (by rw [p53]; omega) (by rw [p53]; omega)
  rw [G21_eq, fGeq hy i64c, fGeq hx i64c, fGeq c1.2.1 i64c, c1.1, c2.1, c3.1]
  simp only [sel_true]
  by_cases h1 : (64 : Int) ≤ b
  · rw [sel_pos h1]
    by_cases h2 : (64 : Int) ≤ (a : Int) + 1
    · rw [sel_pos h2]
      refine ⟨_, rfl, a + 1 - 64, b - 64, by omega, by omega, by omega, ?_, ?_⟩
      · have e : ((a + 1 - 64 : Nat) : Int) = (a : Int) + 1 - 64 := by omega
        rw [e]; exact c2.2.1
      · have e : ((b - 64 : Nat) : Int) = (b : Int) + -64 - 0 := by omega
        rw [e]; exact c2.2.2
    · rw [sel_neg h2]
      refine ⟨_, rfl, a + 1, b - 64, by omega, by omega, by omega, ?_, ?_⟩
      · have e : ((a + 1 : Nat) : Int) = (a : Int) + 1 := by omega
        rw [e]; exact c1.2.1
      · have e : ((b - 64 : Nat) : Int) = (b : Int) + -64 := by omega
        rw [e]; exact c1.2.2
  · rw [sel_neg h1]
    by_cases h2 : (64 : Int) ≤ a
    · rw [sel_pos h2]
      refine ⟨_, rfl, a - 64, b, by omega, by omega, by omega, ?_, ?_⟩
      · have e : ((a - 64 : Nat) : Int) = (a : Int) - 64 := by omega
        rw [e]; exact c3.2.1
      · have e : (b : Int) = (b : Int) - 0 := by omega
        rw [e]; exact c3.2.2
    · rw [sel_neg h2]
      exact ⟨_, rfl, a, b, by omega, by omega, by omega, hx, hy⟩
theorem G13_is (k : Nat) {z w : Nat × Nat} {n m : Nat} (hz : isH z n) (hw : isH w m) : ∃ v, G13 k (z, w, ()) = some (v, ()) ∧ isH v ((n + m) % 4096) := by
  have r1 := right_of (k := k) hz
  have r2 := right_of (k := k) hw
  obtain ⟨x, y⟩ := z
  obtain ⟨u, v⟩ := w
  obtain ⟨a, b, ha, hb, rfl, hx, hy⟩ := hz
  obtain ⟨c, d, hc, hd, rfl, hu, hv⟩ := hw
  have c1 := c_addI hx hy hu hv (by rw [p53]; omega) (by rw [p53]; omega)
  obtain ⟨q, hq, hi⟩ := G21_is k _ _ (a + c) (b + d) (by omega) (by omega) (by rw [Int.natCast_add]; exact c1.2.1) (by rw [Int.natCast_add]; exact c1.2.2)
  rw [G13_eq, r1, ocall_some]
  simp only [Bool.not_true, sel_false]
  rw [r2, ocall_some, c1.1]
  simp only [Bool.not_true, sel_false, sel_true]
  rw [hq, ocall_some]
  refine ⟨_, rfl, ?_⟩
  rw [show 64 * a + b + (64 * c + d) = 64 * (a + c) + (b + d) by omega]
  exact hi
theorem G15_is (k : Nat) {z : Nat × Nat} {n : Nat} (hz : isH z n) (t : Int) : ∃ v, G15 k (z, t, ()) = some (v, ()) ∧ isH v (((n : Int) + t) % 4096).toNat := by
  obtain ⟨w, h1, h2⟩ := G11_is k (t % 4096) (by omega) (by omega)
  obtain ⟨v, h3, h4⟩ := G13_is k hz h2
  obtain ⟨x, y⟩ := z
  rw [G15_eq, turn_of, wrapu64 (by omega) (by omega), h1, ocall_some]
  rw [show (w.1, w.2) = w from rfl, h3, ocall_some]
  refine ⟨_, rfl, ?_⟩
  have e : (((n : Int) + t) % 4096).toNat = (n + (t % 4096 % 4096).toNat) % 4096 := by omega
  rw [e]; exact h4
theorem G17_is (k : Nat) {z w : Nat × Nat} {n m : Nat} (hz : isH z n) (hw : isH w m) : G17 k (z, w, ()) = some (((m : Int) - n) % 4096, ()) := by
  have r1 := right_of (k := k) hz
  have r2 := right_of (k := k) hw
  obtain ⟨x, y⟩ := z
  obtain ⟨u, v⟩ := w
  obtain ⟨a, b, ha, hb, rfl, hx, hy⟩ := hz
  obtain ⟨c, d, hc, hd, rfl, hu, hv⟩ := hw
  have c1 := c_subI hu hv hx hy (by rw [p53]; omega) (by rw [p53]; omega)
  have e1 := isI_int c1.2.1 (by rw [p53]; omega)
  have e2 := isI_int c1.2.2 (by rw [p53]; omega)
  have k1 : iOK .i64 (cVal BinOp.sub u v x y).1 = true := by unfold iOK; rw [e1]; rfl
  have k2 : iOK .i64 (cVal BinOp.sub u v x y).2 = true := by unfold iOK; rw [e2]; rfl
  have v1 : iVal .i64 (cVal BinOp.sub u v x y).1 = (c : Int) - a := by unfold iVal; rw [e1]; rfl
  have v2 : iVal .i64 (cVal BinOp.sub u v x y).2 = (d : Int) - b := by unfold iVal; rw [e2]; rfl
  rw [G17_eq, r1, ocall_some]
  simp only [Bool.not_true, sel_false]
  rw [r2, ocall_some, c1.1, k1, k2, v1, v2]
  simp only [Bool.not_true, sel_false, sel_true]
  rw [wrap64 (n := ((c : Int) - a) * 64) (by omega) (by omega), wrap64 (n := ((c : Int) - a) * 64 + ((d : Int) - b)) (by omega) (by omega), wrap64 (by omega) (by omega), tmod4 (by omega)]
  congr 2
  omega
def gap (now : Int) (n : Nat) : Int := if ((n : Int) - now) % 4096 = 0 then 4096 else ((n : Int) - now) % 4096
def nextT (now : Int) (n : Nat) : Int × Int := if now + gap now n ≤ 18446744073709551615 then (now + gap now n, 0) else (0, 10)
theorem G7_is (k : Nat) (now : Int) (h0 : 0 ≤ now) (h : now ≤ 18446744073709551615) {z : Nat × Nat} {n : Nat} (hz : isH z n) : G7 k (now, z, ()) = some ((nextT now n).1, (nextT now n).2, ()) := by
  obtain ⟨w, h1, h2⟩ := G11_is k now h0 h
  have h3 := G17_is k h2 hz
  have hn := isH_lt hz
  obtain ⟨x, y⟩ := z
  rw [G7_eq, h1, ocall_some, show (w.1, w.2) = w from rfl, h3, ocall_some]
  have e : ((n : Int) - ((now % 4096).toNat : Int)) % 4096 = ((n : Int) - now) % 4096 := by omega
  rw [e]
  (try simp only [])
  rw [sel_neg (show ¬ ((n : Int) - now) % 4096 < 0 by omega)]
  unfold nextT gap
  by_cases hg : ((n : Int) - now) % 4096 = 0
  · rw [sel_pos hg, if_pos hg, wrapu64 (n := 4096) (by omega) (by omega), wrapu64 (n := 18446744073709551615 - 4096) (by omega) (by omega)]
    by_cases ho : now + 4096 ≤ 18446744073709551615
    · rw [sel_neg (by omega), wrapu64 (by omega) (by omega), if_pos ho]
    · rw [sel_pos (by omega), if_neg ho]
  · rw [sel_neg hg, if_neg hg]
    generalize hr : ((n : Int) - now) % 4096 = r at *
    rw [wrapu64 (n := r) (by omega) (by omega), wrapu64 (n := 18446744073709551615 - r) (by omega) (by omega)]
    by_cases ho : now + r ≤ 18446744073709551615
    · rw [sel_neg (by omega), wrapu64 (by omega) (by omega), if_pos ho]
    · rw [sel_pos (by omega), if_neg ho]
end Go.Proofs.Ytmkgkgamkeeneaa.G
end
section
set_option linter.unusedVariables false
set_option linter.unusedSimpArgs false
set_option maxRecDepth 100000
namespace Go.Proofs.Ytmkgkgamkeeneaa.G
open Go Go.Proofs.Ytmkgkgamkeeneaa Th
theorem same_of {z w : Nat × Nat} {n : Nat} (hz : isH z n) (hw : isH w n) : cSame z.1 z.2 w.1 w.2 = true := by
  obtain ⟨a, b, ha, hb, rfl, hx, hy⟩ := hz
  obtain ⟨c, d, hc, hd, he, hu, hv⟩ := hw
  have e1 := fEq hx hu
  have e2 := fEq hy hv
  rw [decide_eq_true (by omega)] at e1 e2
  unfold cSame
  rw [show Op.floatEq .f64 z.1 w.1 = true from e1, show Op.floatEq .f64 z.2 w.2 = true from e2]; rfl
theorem h21 : isH (4611686018427387904, 4607182418800017408) 129 := ⟨2, 1, by omega, by omega, rfl, i2c, i1c⟩
theorem h22 : isH (4611686018427387904, 4611686018427387904) 130 := ⟨2, 2, by omega, by omega, rfl, i2c, i2c⟩
theorem h00 : isH (0, 0) 0 := ⟨0, 0, by omega, by omega, rfl, isI_zero, isI_zero⟩
theorem h163 : isH (4607182418800017408, 4634063279075885056) 127 := ⟨1, 63, by omega, by omega, rfl, i1c, i63c⟩
theorem h02 : isH (0, 4611686018427387904) 2 := ⟨0, 2, by omega, by omega, rfl, isI_zero, i2c⟩
theorem h6363 : isH (4634063279075885056, 4634063279075885056) 4095 := ⟨63, 63, by omega, by omega, rfl, i63c, i63c⟩
theorem h630 : isH (4634063279075885056, 0) 4032 := ⟨63, 0, by omega, by omega, rfl, i63c, isI_zero⟩
theorem h640 : ¬ ∃ n, isH (4634204016564240384, 0) n := by
  rintro ⟨n, a, b, ha, hb, _, hx, _⟩
  have := isI_one hx i64c
  omega
theorem G5_is (k : Nat) : G5 k () = some (true, ()) := by
  obtain ⟨z1, p1, q1⟩ := G11_is k 130 (by omega) (by omega)
  obtain ⟨z2, p2, q2⟩ := G13_is k h163 h02
  obtain ⟨z3, p3, q3⟩ := G15_is k h00 (-1)
  have s1 := same_of q1 h22
  have s2 := same_of q2 h21
  have s3 := same_of q3 h6363
  rw [G5_eq, G7_is k 130 (by omega) (by omega) h21, ocall_some, G7_is k 18446744073709551614 (by omega) (by omega) h00, ocall_some, p1, ocall_some, s1, sel_true, p2, ocall_some, s2, sel_true, p3, ocall_some, s3, sel_true, G17_is k h22 h21, ocall_some]
  rw [show nextT 130 129 = (4225, 0) from by decide, show nextT 18446744073709551614 0 = (0, 10) from by decide]
  rw [sel_pos (by decide), sel_pos (by decide), sel_pos (by decide), sel_pos (by decide), right_of h630, ocall_some, sel_true, not_right h640, ocall_some]
  rfl
end Go.Proofs.Ytmkgkgamkeeneaa.G
end
section
set_option linter.unusedVariables false
set_option linter.unusedSimpArgs false
set_option maxRecDepth 100000
namespace Go.Proofs.Ytmkgkgamkeeneaa.PureHandTurns
open Go Go.Proofs.Ytmkgkgamkeeneaa Th G
theorem nsame {z w : Nat × Nat} {n m : Nat} (hz : isH z n) (hw : isH w m) (e : n = m) : (!cSame z.1 z.2 w.1 w.2) = false := by
  subst e
  rw [same_of hz hw]; rfl
theorem idx (t n : Int) : (((t % 4096).toNat : Int) + n) % 4096 = (t + n) % 4096 := by omega
theorem idx2 {t u : Int} (ht : 0 ≤ t) (hu : 0 ≤ u) : ((t % 4096).toNat + (u % 4096).toNat) % 4096 = ((t + u) % 4096).toNat := by omega
theorem idx3 (x y : Nat) (h : y < 4096) : (((x : Int) + ((y : Int) - x) % 4096) % 4096).toNat = y := by omega
theorem ways (x y : Nat) : 0 ≤ ((y : Int) - x) % 4096 ∧ ((y : Int) - x) % 4096 < 4096 ∧ 0 ≤ ((x : Int) - y) % 4096 ∧ ((x : Int) - y) % 4096 < 4096 := by omega
theorem hab (x y : Nat) : ((y : Int) - x) % 4096 + ((x : Int) - y) % 4096 = 4096 ∨ (((y : Int) - x) % 4096 = 0 ∧ ((x : Int) - y) % 4096 = 0) := by omega
theorem gaps {t : Int} {m : Nat} (hm : m < 4096) : 1 ≤ gap t m ∧ gap t m ≤ 4096 ∧ (t + gap t m) % 4096 = m := by
  unfold gap
  split
  · omega
  · omega
theorem nxt {t : Int} {m : Nat} (ht : t ≤ 4294967295) (hm : m < 4096) : nextT t m = (t + gap t m, 0) := by
  have g := gaps (t := t) hm
  unfold nextT
  rw [if_pos (by omega)]
theorem per (t : Int) : (t + 4096) % 4096 = t % 4096 := by omega
theorem core (k : Nat) (t u n a b gp : Int) (za zb z4 z5 z6 z7 z8 z9 z10 : Nat × Nat)
    (x1 : IntKind.u64.wrap t = t) (x2 : IntKind.u64.wrap u = u) (x3 : IntKind.i64.wrap t = t) (x4 : IntKind.i64.wrap n = n) (x5 : IntKind.i64.wrap (t + n) = t + n)
    (x6 : IntKind.i64.wrap (0 - n) = -n) (x7 : IntKind.u64.wrap (t + u) = t + u) (x8 : IntKind.u64.wrap (t + 4096) = t + 4096) (x9 : IntKind.i64.wrap (a + b) = a + b)
    (p1 : G11 k (t, ()) = some (za, ())) (p2 : G11 k (u, ()) = some (zb, ()))
    (w1 : G17 k (za, zb, ()) = some (a, ())) (w2 : G17 k (zb, za, ()) = some (b, ()))
    (r4 : G15 k (za, n, ()) = some (z4, ())) (r5 : G15 k (z4, -n, ()) = some (z5, ()))
    (s4 : 0 ≤ t + n → ∃ z11 : Nat × Nat, IntKind.u64.wrap (t + n) = t + n ∧ G11 k (t + n, ()) = some (z11, ()) ∧ (!cSame z4.1 z4.2 z11.1 z11.2) = false)
    (s5 : (!cSame z5.1 z5.2 za.1 za.2) = false)
    (r6 : G13 k (za, zb, ()) = some (z6, ())) (r7 : G11 k (t + u, ()) = some (z7, ())) (s6 : (!cSame z6.1 z6.2 z7.1 z7.2) = false)
    (r8 : G15 k (za, a, ()) = some (z8, ())) (s8 : (!cSame z8.1 z8.2 zb.1 zb.2) = false)
    (hgap : G7 k (t, zb, ()) = some (t + gp, 0, ())) (ra : G9 k (za, ()) = some (true, ()))
    (r9 : G11 k (t + gp, ()) = some (z9, ())) (r10 : G11 k (t + 4096, ()) = some (z10, ()))
    (s9 : cSame z9.1 z9.2 zb.1 zb.2 = true) (s10 : cSame z10.1 z10.2 za.1 za.2 = true)
    (c1 : decide (t < t + gp) = true) (c2 : decide (t + gp ≤ t + 4096) = true) (hab : a + b = 4096 ∨ a = 0 ∧ b = 0) :
    G4 k (t, u, n, ()) = some (true, ()) := by
  have P : ∀ z : Nat × Nat, (((z, ()) : (Nat × Nat) × Unit).1.1, ((z, ()) : (Nat × Nat) × Unit).1.2) = z := fun _ => rfl
  rw [G4_eq, G5_is, ocall_some]
  rw [show (!(true, ()).1) = false from rfl, sel_false, x1, x2, x3, x4, x5, x6, x7, x8, p1, ocall_some, p2, ocall_some]
  rw [P za, P zb, w1, ocall_some, w2, ocall_some]
  by_cases hf : 0 ≤ t + n
  · obtain ⟨z11, x10, r11, s4⟩ := s4 hf
    rw [decide_eq_true hf, sel_true, x10, r4, ocall_some, r11, ocall_some]
    rw [show (!cSame ((z4, ()) : (Nat × Nat) × Unit).1.1 ((z4, ()) : (Nat × Nat) × Unit).1.2 ((z11, ()) : (Nat × Nat) × Unit).1.1 ((z11, ()) : (Nat × Nat) × Unit).1.2) = false from s4, sel_false]
    rw [ocall_some, P z4, r5, ocall_some]
    rw [show (!cSame ((z5, ()) : (Nat × Nat) × Unit).1.1 ((z5, ()) : (Nat × Nat) × Unit).1.2 ((za, ()) : (Nat × Nat) × Unit).1.1 ((za, ()) : (Nat × Nat) × Unit).1.2) = false from s5, sel_false, r6, ocall_some, r7, ocall_some]
    rw [show (!cSame ((z6, ()) : (Nat × Nat) × Unit).1.1 ((z6, ()) : (Nat × Nat) × Unit).1.2 ((z7, ()) : (Nat × Nat) × Unit).1.1 ((z7, ()) : (Nat × Nat) × Unit).1.2) = false from s6, sel_false]
    rw [show ((a, ()) : Int × Unit).1 = a from rfl, show ((b, ()) : Int × Unit).1 = b from rfl, r8, ocall_some]
    rw [show (!cSame ((z8, ()) : (Nat × Nat) × Unit).1.1 ((z8, ()) : (Nat × Nat) × Unit).1.2 ((zb, ()) : (Nat × Nat) × Unit).1.1 ((zb, ()) : (Nat × Nat) × Unit).1.2) = false from s8, sel_false, hgap, ocall_some, ra, ocall_some]
    rw [show ((true, ()) : Bool × Unit).1 = true from rfl, sel_true, x9]
    rw [show ((t + gp, 0, ()) : Int × Int × Unit).1 = t + gp from rfl, show ((t + gp, 0, ()) : Int × Int × Unit).2.1 = 0 from rfl, r9, ocall_some, r10, ocall_some]
    rw [show cSame ((z9, ()) : (Nat × Nat) × Unit).1.1 ((z9, ()) : (Nat × Nat) × Unit).1.2 ((zb, ()) : (Nat × Nat) × Unit).1.1 ((zb, ()) : (Nat × Nat) × Unit).1.2 = true from s9, show cSame ((z10, ()) : (Nat × Nat) × Unit).1.1 ((z10, ()) : (Nat × Nat) × Unit).1.2 ((za, ()) : (Nat × Nat) × Unit).1.1 ((za, ()) : (Nat × Nat) × Unit).1.2 = true from s10, sel_true]
    rw [show decide ((0 : Int) = 0) = true from rfl, sel_true, c1, c2, sel_true, sel_true]
    rcases hab with hab | ⟨ha, hb⟩
    · rw [sel_pos hab]
    · by_cases hab : a + b = 4096
      · rw [sel_pos hab]
      · rw [sel_neg hab, sel_pos ha, sel_pos hb]
  · rw [decide_eq_false hf, sel_false]
    rw [r4, ocall_some, P z4, r5, ocall_some]
    rw [show (!cSame ((z5, ()) : (Nat × Nat) × Unit).1.1 ((z5, ()) : (Nat × Nat) × Unit).1.2 ((za, ()) : (Nat × Nat) × Unit).1.1 ((za, ()) : (Nat × Nat) × Unit).1.2) = false from s5, sel_false, r6, ocall_some, r7, ocall_some]
    rw [show (!cSame ((z6, ()) : (Nat × Nat) × Unit).1.1 ((z6, ()) : (Nat × Nat) × Unit).1.2 ((z7, ()) : (Nat × Nat) × Unit).1.1 ((z7, ()) : (Nat × Nat) × Unit).1.2) = false from s6, sel_false]
    rw [show ((a, ()) : Int × Unit).1 = a from rfl, show ((b, ()) : Int × Unit).1 = b from rfl, r8, ocall_some]
    rw [show (!cSame ((z8, ()) : (Nat × Nat) × Unit).1.1 ((z8, ()) : (Nat × Nat) × Unit).1.2 ((zb, ()) : (Nat × Nat) × Unit).1.1 ((zb, ()) : (Nat × Nat) × Unit).1.2) = false from s8, sel_false, hgap, ocall_some, ra, ocall_some]
    rw [show ((true, ()) : Bool × Unit).1 = true from rfl, sel_true, x9]
    rw [show ((t + gp, 0, ()) : Int × Int × Unit).1 = t + gp from rfl, show ((t + gp, 0, ()) : Int × Int × Unit).2.1 = 0 from rfl, r9, ocall_some, r10, ocall_some]
    rw [show cSame ((z9, ()) : (Nat × Nat) × Unit).1.1 ((z9, ()) : (Nat × Nat) × Unit).1.2 ((zb, ()) : (Nat × Nat) × Unit).1.1 ((zb, ()) : (Nat × Nat) × Unit).1.2 = true from s9, show cSame ((z10, ()) : (Nat × Nat) × Unit).1.1 ((z10, ()) : (Nat × Nat) × Unit).1.2 ((za, ()) : (Nat × Nat) × Unit).1.1 ((za, ()) : (Nat × Nat) × Unit).1.2 = true from s10, sel_true]
    rw [show decide ((0 : Int) = 0) = true from rfl, sel_true, c1, c2, sel_true, sel_true]
    rcases hab with hab | ⟨ha, hb⟩
    · rw [sel_pos hab]
    · by_cases hab : a + b = 4096
      · rw [sel_pos hab]
      · rw [sel_neg hab, sel_pos ha, sel_pos hb]
theorem main (k : Nat) (t u n : Int) (ht : 0 ≤ t ∧ t ≤ 4294967295) (hu : 0 ≤ u ∧ u ≤ 4294967295) (hn : -32768 ≤ n ∧ n ≤ 32767) : G4 k (t, u, n, ()) = some (true, ()) := by
  obtain ⟨t0, t1⟩ := ht
  obtain ⟨u0, u1⟩ := hu
  obtain ⟨n0, n1⟩ := hn
  have mt : (t % 4096).toNat < 4096 := by omega
  have mu : (u % 4096).toNat < 4096 := by omega
  obtain ⟨za, p1, qa⟩ := G11_is k t t0 (by omega)
  obtain ⟨zb, p2, qb⟩ := G11_is k u u0 (by omega)
  obtain ⟨z4, r4, q4⟩ := G15_is k qa n
  rw [idx] at q4
  obtain ⟨z5, r5, q5⟩ := G15_is k q4 (-n)
  rw [idx, show t + n + -n = t by omega] at q5
  obtain ⟨z6, r6, q6⟩ := G13_is k qa qb
  rw [idx2 t0 u0] at q6
  obtain ⟨z7, r7, q7⟩ := G11_is k (t + u) (by omega) (by omega)
  have hgap := G7_is k t t0 (by omega) qb
  rw [nxt t1 mu] at hgap
  obtain ⟨z8, r8, q8⟩ := G15_is k qa ((((u % 4096).toNat : Int) - ((t % 4096).toNat : Int)) % 4096)
  rw [idx3 _ _ mu] at q8
  obtain ⟨g1, g2, g3⟩ := gaps (t := t) mu
  obtain ⟨z9, r9, q9⟩ := G11_is k (t + gap t (u % 4096).toNat) (by omega) (by omega)
  rw [g3, Int.toNat_natCast] at q9
  obtain ⟨z10, r10, q10⟩ := G11_is k (t + 4096) (by omega) (by omega)
  rw [per] at q10
  obtain ⟨a0, a1, b0, b1⟩ := ways (t % 4096).toNat (u % 4096).toNat
  refine core k t u n _ _ _ za zb z4 z5 z6 z7 z8 z9 z10 (wrapu64 t0 (by omega)) (wrapu64 u0 (by omega)) (wrap64 (by omega) (by omega)) (wrap64 (by omega) (by omega)) (wrap64 (by omega) (by omega)) ?_ (wrapu64 (by omega) (by omega)) (wrapu64 (by omega) (by omega)) (wrap64 (by omega) (by omega))
    p1 p2 (G17_is k qa qb) (G17_is k qb qa) r4 r5 ?_ (nsame q5 qa rfl) r6 r7 (nsame q6 q7 rfl) r8 (nsame q8 qb rfl) hgap (right_of qa) r9 r10 (same_of q9 qb) (same_of q10 qa) (decide_eq_true (by omega)) (decide_eq_true (by omega)) (hab _ _)
  · rw [wrap64 (by omega) (by omega)]; omega
  · intro hf
    obtain ⟨z11, r11, q11⟩ := G11_is k (t + n) hf (by omega)
    exact ⟨z11, wrapu64 hf (by omega), r11, nsame q4 q11 rfl⟩
theorem pure (x0 : Ty.den (.int .u32)) (x1 : Ty.den (.int .u32)) (x2 : Ty.den (.int .i16)) (g0 : Ty.Good (.int .u32) x0) (g1 : Ty.Good (.int .u32) x1) (g2 : Ty.Good (.int .i16) x2) : ∃ k, F4 k (x0, (x1, (x2, PUnit.unit))) = some (true, PUnit.unit) :=
  ⟨6000, main 6000 x0 x1 x2 (good_u32 g0) (good_u32 g1) (by
    have h : IntKind.i16.min ≤ (show Int from x2) ∧ (show Int from x2) ≤ IntKind.i16.max := g2
    have e1 : IntKind.i16.min = -32768 := by decide
    have e2 : IntKind.i16.max = 32767 := by decide
    rw [e1, e2] at h; exact h)⟩
end Go.Proofs.Ytmkgkgamkeeneaa.PureHandTurns
end
section
set_option linter.unusedVariables false
set_option linter.unusedSimpArgs false
namespace Go.Proofs.Ytmkgkgamkeeneaa.handTurns
open Go.ChangeShapes Go.WideShapes Go.ChangeAt Go.RowKit Go.Proofs.Ytmkgkgamkeeneaa Th G
open Go.ChangeMaps (open_string shut_string)
theorem own : ownKnob Try.prog.godebug = none := by kernel_rfl
theorem laidOut : laidOutB Try.prog = true := by kernel_rfl
set_option maxRecDepth 100000 in
theorem lifted (os : Os) (started : os.Started) (H : Type) (enc : TypeId × Value → H) :
    ReturnsInHanded {} Try.checked os 4 .any (Rows.handTurnsSpec.pre6 enc Try.prog Try.f4 Rows.handTurnsRow.domain false) (Rows.handTurnsSpec.post enc Try.prog Try.f4 false true false false) := by
  refine returnsInHanded_of_change_sized (C := Try.checked) own started (by kernel_rfl) Try.func4
    (ChangeSpec.witness6 (enc := enc) (C := Try.checked) false ⟨#[], #[.int .u32 0, .int .u32 0, .int .i16 0], []⟩ 8 (by kernel_rfl) (by kernel_rfl) (by kernel_rfl) (by kernel_rfl)) ?_
  intro W base args ds gs before hval0 hW hcnd hsz0 _
  have hsz : (DataW.weightsEach Try.prog (Try.f4.params.toList ++ Rows.handTurnsSpec.plain.varTypes Try.prog) (ds ++ gs)).all (· ≤ reachBytes) = true := hsz0
  have hval : ∀ (j : Nat) t v, Try.f4.params[j]? = some t → args[j]? = some v → Value.okWide Try.prog W .any base t v := hval0
  have hW' := hW
  obtain ⟨p, q, hA0, hV, rfl, hfz, hnd⟩ := hW
  have hA : DataW.TrodAll enc Try.prog W 0 (fun _ => true) true Try.f4.params.toList args.toList ds p := hA0
  rw [Try.params4] at hA hval hsz
  obtain ⟨v0, vs0, d0, ds0, p0, q0, hargs, rfl, rfl, h0, r0⟩ := trodAll_cons hA
  obtain ⟨v1, vs1, d1, ds1, p1, q1, rfl, rfl, rfl, h1, r1⟩ := trodAll_cons r0
  obtain ⟨v2, vs2, d2, ds2, p2, q2, rfl, rfl, rfl, h2, r2⟩ := trodAll_cons r1
  obtain ⟨rfl, rfl, rfl⟩ := trodAll_nil r2
  obtain rfl : args = #[v0, v1, v2] := by cases args; simp_all
  obtain ⟨rfl, rfl⟩ := trodVars_none hV
  obtain ⟨x0, a0, g0⟩ := open_arg (T := (.int .u32)) (by kernel_rfl) (hval 0 39 v0 rfl rfl) h0 (weights_of hsz (j := 0) (t := 39) rfl rfl)
  have k0 := h0
  have lt0 : ∀ x ∈ p0, x.block < W.heap.size := by obtain ⟨m, hm⟩ := k0; exact DataW.trod_lt m _ _ _ hm
  obtain ⟨x1, a1, g1⟩ := open_arg (T := (.int .u32)) (by kernel_rfl) (hval 1 39 v1 rfl rfl) h1 (weights_of hsz (j := 1) (t := 39) rfl rfl)
  have k1 := h1
  have lt1 : ∀ x ∈ p1, x.block < W.heap.size := by obtain ⟨m, hm⟩ := k1; exact DataW.trod_lt m _ _ _ hm
  obtain ⟨x2, a2, g2⟩ := open_arg (T := (.int .i16)) (by kernel_rfl) (hval 2 40 v2 rfl rfl) h2 (weights_of hsz (j := 2) (t := 40) rfl rfl)
  have k2 := h2
  have lt2 : ∀ x ∈ p2, x.block < W.heap.size := by obtain ⟨m, hm⟩ := k2; exact DataW.trod_lt m _ _ _ hm
  obtain ⟨k, hk⟩ := PureHandTurns.pure x0 x1 x2 g0 g1 g2
  clear hA0 hval0 hsz0 hsz
  refine (law_of (fn4 k [Ty.av (.int .u32) x0, Ty.av (.int .u32) x1, Ty.av (.int .i16) x2] (x0, (x1, (x2, PUnit.unit))) (true, PUnit.unit) rfl rfl hk) (fun _ _ hr => by cases hr) (us := [v0, v1, v2]) ⟨a0, a1, a2, trivial⟩).mono fun e W' ⟨he, bel⟩ => ?_
  subst he
  exact ⟨_, rfl, _, _, _, [], _, [], hW', trodAll_mk1 (shut_bool Try.underlying4 _), (trodAll_cons_mk (Below.trod laidOut (by kernel_rfl) (of_decide_eq_true (by kernel_rfl)) k0 bel lt0) (trodAll_cons_mk (Below.trod laidOut (by kernel_rfl) (of_decide_eq_true (by kernel_rfl)) k1 bel lt1) (trodAll_cons_mk (Below.trod laidOut (by kernel_rfl) (of_decide_eq_true (by kernel_rfl)) k2 bel lt2) trodAll_mk0))), rfl, bel.frame _, fun h => by cases h⟩
theorem over : Rows.handTurnsRow.holds Try.pinned (OpenSpec.ofChange Rows.handTurnsSpec) :=
  OpenClaim.holds_of_wide 4 Try.f4 rfl rfl rfl rfl rfl rfl rfl ⟨rfl, rfl, rfl, rfl, rfl⟩ rfl rfl rfl rfl rfl (by kernel_rfl) Try.func4 (by kernel_rfl)
    (of_decide_eq_true (by kernel_rfl)) (by unfold Func.isWrapper; first | (rw [if_pos (by decide +kernel)]; kernel_rfl) | (rw [if_neg (by decide +kernel)]; exact ⟨rfl, rfl⟩))
    (fun os started H enc _ => lifted os started H enc)
end Go.Proofs.Ytmkgkgamkeeneaa.handTurns
namespace Go.Proofs.Ytmkgkgamkeeneaa
theorem handTurns_holds : Rows.HandTurnsSaid := handTurns.over
end Go.Proofs.Ytmkgkgamkeeneaa
end
