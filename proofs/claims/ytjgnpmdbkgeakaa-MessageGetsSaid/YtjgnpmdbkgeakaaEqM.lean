/- What each function's run comes to, as a plain function. -/
import Derived.Test.YtjgnpmdbkgeakaaEqL
import Derived.KernelRfl
set_option maxRecDepth 1000000
set_option linter.unusedVariables false
set_option linter.unusedSimpArgs false
namespace Go.Proofs.Ytjgnpmdbkgeakaa.G
open Go Go.Proofs.Ytjgnpmdbkgeakaa Th
noncomputable def G6 (k : Nat) (v : (List UInt8 × List (Int × List UInt8 × Unit) × Unit) × Int × List Int × Unit) : Option (Bool × Unit) := F6 k v
theorem G6_eq (k : Nat) (v0 : List UInt8) (v1 : List (Int × List UInt8 × Unit)) (v2 : Int) (v3 : List Int) : G6 k ((v0, v1, ()), v2, v3, ()) = ocall (G18 k ()) fun r => sel (!r.1) (some (false, ())) (ocall (G19 k ((v0, v1, ()), ())) fun r => sel
 (!r.1) (some (true, ())) (sel (decide (5000 < Int.ofNat v3.length)) (some (true, ())) (ocall (G20 k ((v0, v1, ()), ())) fun r => ocall (G21 k ((v0, v1, ()), ())) fun r_1 => sel r.1 (sel (!decide (r_1.2.1 = 0)) (some (false, ())) (ocall (G22 k
 ((v0, v1, ()), ())) fun r_2 => sel (!decide (ofBytes r_1.1 = ofBytes r_2.1)) (some (false, ())) (sel (!r.1) (sel (!decide (r_1.2.1 = 1)) (some (false, ())) (sel (!decide (Int.ofNat r_1.1.length = 0)) (some (false, ())) (ocall (G23 k ((v0, v1, ()), v2,
 ())) fun r_3 => ocall (G24 k ((v0, v1, ()), v2, ())) fun r_4 => ocall (G25 k (v3, ())) fun r_5 => ocall (G26 k (v3, ())) fun r_6 => ocall (G27 k ((v0, v1, ()), ())) fun r_7 => sel (r_7.1 == r.1) (sel (decide (r_3.1 = r_4.1)) (sel (r_3.2.1 ==
 r_4.2.1) (ocall (G28 k ((r_5.1.1, r_5.1.2.1, ()), (r_6.1.1, r_6.1.2.1, ()), ())) fun r => sel r.1 (some (decide (r_5.2.1 = r_6.2.1), ())) (some (false, ()))) (some (false, ()))) (some (false, ()))) (some (false, ()))))) (ocall (G23 k
 ((v0, v1, ()), v2, ())) fun r_3 => ocall (G24 k ((v0, v1, ()), v2, ())) fun r_4 => ocall (G25 k (v3, ())) fun r_5 => ocall (G26 k (v3, ())) fun r_6 => ocall (G27 k ((v0, v1, ()), ())) fun r_7 => sel (r_7.1 == r.1) (sel (decide (r_3.1 =
 r_4.1)) (sel (r_3.2.1 == r_4.2.1) (ocall (G28 k ((r_5.1.1, r_5.1.2.1, ()), (r_6.1.1, r_6.1.2.1, ()), ())) fun r => sel r.1 (some (decide (r_5.2.1 = r_6.2.1), ())) (some (false, ()))) (some (false, ()))) (some (false, ()))) (some (false,
 ())))))) (sel (!r.1) (sel (!decide (r_1.2.1 = 1)) (some (false, ())) (sel (!decide (Int.ofNat r_1.1.length = 0)) (some (false, ())) (ocall (G23 k ((v0, v1, ()), v2, ())) fun r_2 => ocall (G24 k ((v0, v1, ()), v2, ())) fun r_3 => ocall (G25 k
 (v3, ())) fun r_4 => ocall (G26 k (v3, ())) fun r_5 => ocall (G27 k ((v0, v1, ()), ())) fun r_6 => sel (r_6.1 == r.1) (sel (decide (r_2.1 = r_3.1)) (sel (r_2.2.1 == r_3.2.1) (ocall (G28 k ((r_4.1.1, r_4.1.2.1, ()), (r_5.1.1, r_5.1.2.1, ()),
 ())) fun r => sel r.1 (some (decide (r_4.2.1 = r_5.2.1), ())) (some (false, ()))) (some (false, ()))) (some (false, ()))) (some (false, ()))))) (ocall (G23 k ((v0, v1, ()), v2, ())) fun r_2 => ocall (G24 k ((v0, v1, ()), v2,
 ())) fun r_3 => ocall (G25 k (v3, ())) fun r_4 => ocall (G26 k (v3, ())) fun r_5 => ocall (G27 k ((v0, v1, ()), ())) fun r_6 => sel (r_6.1 == r.1) (sel (decide (r_2.1 = r_3.1)) (sel (r_2.2.1 == r_3.2.1) (ocall (G28 k ((r_4.1.1, r_4.1.2.1, ()),
 (r_5.1.1, r_5.1.2.1, ()), ())) fun r => sel r.1 (some (decide (r_4.2.1 = r_5.2.1), ())) (some (false, ()))) (some (false, ()))) (some (false, ()))) (some (false, ()))))))) := by kernel_rfl
noncomputable def G7 (k : Nat) (v : (List UInt8 × List (Int × List UInt8 × Unit) × Unit) × (List UInt8 × List (Int × List UInt8 × Unit) × Unit) × List Int × Int × Unit) : Option (Bool × Unit) := F7 k v
theorem G7_eq (k : Nat) (v0 : List UInt8) (v1 : List (Int × List UInt8 × Unit)) (v2 : List UInt8) (v3 : List (Int × List UInt8 × Unit)) (v4 : List Int) (v5 : Int) : G7 k ((v0, v1, ()), (v2, v3, ()), v4, v5, ()) = ocall (G18 k ()) fun r => sel (!r.1) (some (false,
 ())) (ocall (G19 k ((v0, v1, ()), ())) fun r => sel (!r.1) (some (true, ())) (ocall (G19 k ((v2, v3, ()), ())) fun r => sel (!r.1) (some (true, ())) (sel (decide (5000 < Int.ofNat v4.length)) (some (true, ())) (ocall (G21 k ((v0, v1,
 ()), ())) fun r => ocall (G21 k ((v2, v3, ()), ())) fun r_1 => sel (decide (r.2.1 = 0)) (sel (decide (0 < Int.ofNat r.1.length)) (ocall (G25 k (r.1, ())) fun r_2 => sel (!decide (Int.ofNat r.1.length = 0)) (sel (decide (Int.ofNat 0 ≤ (IntKind.i64.wrap v5).tmod
 (Int.ofNat r.1.length))) (sel (decide ((IntKind.i64.wrap v5).tmod (Int.ofNat r.1.length) ≤ Int.ofNat r.1.length)) (sel (decide (Int.ofNat r.1.length ≤ Int.ofNat r.1.length)) (ocall (G25 k (List.drop (Int.ofNat 0).toNat (List.take ((IntKind.i64.wrap v5).tmod (Int.ofNat r.1.length)).toNat r.1),
 ())) fun r_3 => sel (decide ((0 + r.1.length) * 1 ≤ 140737488355328)) (sel (decide ((r.1.length + 1) * 1 ≤ 140737488355328)) (ocall (G25 k (r.1 ++ [IntKind.u8.wrap v5], ())) fun r_4 => sel (!decide (r_2.2.1 = 0)) (some (false, ())) (ocall (G28 k ((r_2.1.1, r_2.1.2.1,
 ()), (v0, v1, ()), ())) fun r_5 => sel (!r_5.1) (some (false, ())) (sel (!decide (r_3.2.1 = 2)) (some (false, ())) (sel (!decide (r_4.2.1 = 4)) (some (false, ())) (sel (decide (r_1.2.1 = 0)) (ocall (G28 k ((v0, v1, ()), (v2, v3, ()),
 ())) fun r_6 => sel (!decide (ofBytes r.1 = ofBytes r_1.1) == r_6.1) (some (false, ())) (ocall (G25 k (v4, ())) fun r => sel (!decide (r.2.1 = 0)) (ocall (G28 k ((r.1.1, r.1.2.1, ()), ([], [], ()), ())) fun r => some (r.1, ())) (ocall (G21 k
 ((r.1.1, r.1.2.1, ()), ())) fun r_7 => sel (decide (r_7.2.1 = 0)) (ocall (G27 k ((r.1.1, r.1.2.1, ()), ())) fun r => sel r.1 (some (decide (ofBytes r_7.1 = ofBytes v4), ())) (some (false, ()))) (some (false, ()))))) (ocall (G25 k (v4,
 ())) fun r => sel (!decide (r.2.1 = 0)) (ocall (G28 k ((r.1.1, r.1.2.1, ()), ([], [], ()), ())) fun r => some (r.1, ())) (ocall (G21 k ((r.1.1, r.1.2.1, ()), ())) fun r_6 => sel (decide (r_6.2.1 = 0)) (ocall (G27 k ((r.1.1, r.1.2.1,
 ()), ())) fun r => sel r.1 (some (decide (ofBytes r_6.1 = ofBytes v4), ())) (some (false, ()))) (some (false, ()))))))))) none) none) none) none) none) none) (ocall (G25 k (v4, ())) fun r => sel (!decide (r.2.1 = 0)) (ocall (G28 k ((r.1.1, r.1.2.1,
 ()), ([], [], ()), ())) fun r => some (r.1, ())) (ocall (G21 k ((r.1.1, r.1.2.1, ()), ())) fun r_2 => sel (decide (r_2.2.1 = 0)) (ocall (G27 k ((r.1.1, r.1.2.1, ()), ())) fun r => sel r.1 (some (decide (ofBytes r_2.1 = ofBytes v4),
 ())) (some (false, ()))) (some (false, ()))))) (ocall (G25 k (v4, ())) fun r => sel (!decide (r.2.1 = 0)) (ocall (G28 k ((r.1.1, r.1.2.1, ()), ([], [], ()), ())) fun r => some (r.1, ())) (ocall (G21 k ((r.1.1, r.1.2.1, ()),
 ())) fun r_2 => sel (decide (r_2.2.1 = 0)) (ocall (G27 k ((r.1.1, r.1.2.1, ()), ())) fun r => sel r.1 (some (decide (ofBytes r_2.1 = ofBytes v4), ())) (some (false, ()))) (some (false, ())))))))) := by kernel_rfl
noncomputable def G8_7 (k : Nat) (j : Nat) (v : Int × Bool × Int × List UInt8 × List (Int × List UInt8 × Unit) × Unit) : Option (Int × Bool × List UInt8 × List (Int × List UInt8 × Unit) × Unit ⊕ Bool × Unit) := F8_7 k j v
theorem G8_7_eq (k : Nat) (j : Nat) (v0 : Int) (v1 : Bool) (v2 : Int) (v3 : List UInt8) (v4 : List (Int × List UInt8 × Unit)) : G8_7 k (j + 1) (v0, v1, v2, v3, v4, ()) = sel (decide (v2 < Int.ofNat v4.length)) (sel (decide (0 ≤ v2)) (sel (decide (v2 < Int.ofNat v4.length)) (ocall (G23 k
 ((v3, v4, ()), (v4.getD v2.toNat (0, [], ())).1, ())) fun r => sel (!r.2.1) (some (Sum.inr (false, ()))) (sel (decide (0 ≤ v2)) (sel (decide (v2 < Int.ofNat v4.length)) (sel (!decide (r.1 = (v4.getD v2.toNat (0, [], ())).2.1)) (some (Sum.inr (false,
 ()))) (sel v1 (G8_7 k j (v0, true, IntKind.i64.wrap (v2 + 1), v3, v4, ())) (sel (decide (0 ≤ v2)) (sel (decide (v2 < Int.ofNat v4.length)) (G8_7 k j (v0, decide ((v4.getD v2.toNat (0, [], ())).1 = v0), IntKind.i64.wrap (v2 + 1), v3, v4, ())) none) none))) none) none))
 none) none) (some (Sum.inl (v0, v1, v3, v4, ()))) := by kernel_rfl
noncomputable def G8 (k : Nat) (v : (List UInt8 × List (Int × List UInt8 × Unit) × Unit) × Int × Unit) : Option (Bool × Unit) := F8 k v
theorem G8_eq (k : Nat) (v0 : List UInt8) (v1 : List (Int × List UInt8 × Unit)) (v2 : Int) : G8 k ((v0, v1, ()), v2, ()) = ocall (G18 k ()) fun r => sel (!r.1) (some (false, ())) (ocall (G19 k ((v0, v1, ()), ())) fun r => sel (!r.1) (some (true,
 ())) (ocall (G27 k ((v0, v1, ()), ())) fun r => sel (!r.1) (some (true, ())) (ocall (G8_7 k k (v2, false, 0, v0, v1, ())) fun e => esel e (fun v => ocall (G23 k ((v.2.2.1, v.2.2.2.1, ()), v.1, ())) fun r => sel (r.2.1 == v.2.1) (sel v.2.1 (some
 (true, ())) (some (decide (r.1 = []), ()))) (some (false, ()))) fun e => some (e.1, ())))) := by kernel_rfl
end Go.Proofs.Ytjgnpmdbkgeakaa.G
