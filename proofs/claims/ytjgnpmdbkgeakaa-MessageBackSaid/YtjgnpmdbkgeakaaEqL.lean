/- What each function's run comes to, as a plain function. -/
import Derived.Test.YtjgnpmdbkgeakaaEqK
import Derived.KernelRfl
set_option maxRecDepth 1000000
set_option linter.unusedVariables false
set_option linter.unusedSimpArgs false
namespace Go.Proofs.Ytjgnpmdbkgeakaa.G
open Go Go.Proofs.Ytjgnpmdbkgeakaa Th
noncomputable def G57 (k : Nat) (v : Int × Unit) : Option (List Int × Unit) := F57 k v
theorem G57_eq (k : Nat) (v0 : Int) : G57 k (v0, ()) = sel (decide (0 ≤ v0)) (sel (decide (v0 * 1 ≤ 140737488355328)) (some ([], ())) none) none := by kernel_rfl
noncomputable def G41_3 (k : Nat) (j : Nat) (v : List (List Int) × Int × List (List Int) × Int × Int × Unit) : Option (List (List Int) × Int × Unit) := F41_3 k j v
theorem G41_3_eq (k : Nat) (j : Nat) (v0 : List (List Int)) (v1 : Int) (v2 : List (List Int)) (v3 v4 : Int) : G41_3 k (j + 1) (v0, v1, v2, v3, v4, ()) = sel (decide (v4 < v3)) (sel (decide (0 ≤ v4)) (sel (decide (v4 < Int.ofNat v2.length)) (sel (decide (IntKind.i64.wrap (v1 + Int.ofNat
 (List.length (v2.getD v4.toNat []))) < 0)) none (G41_3 k j (v0, IntKind.i64.wrap (v1 + Int.ofNat (List.length (v2.getD v4.toNat []))), v2, v3, IntKind.i64.wrap (v4 + 1), ()))) none) none) (some (v0, v1, ())) := by kernel_rfl
noncomputable def G41_11 (k : Nat) (j : Nat) (v : List Int × List (List Int) × Int × Int × Unit) : Option (List Int × Unit) := F41_11 k j v
theorem G41_11_eq (k : Nat) (j : Nat) (v0 : List Int) (v1 : List (List Int)) (v2 v3 : Int) : G41_11 k (j + 1) (v0, v1, v2, v3, ()) = sel (decide (v3 < v2)) (sel (decide (0 ≤ v3)) (sel (decide (v3 < Int.ofNat v1.length)) (sel (decide ((v0.length + List.length (v1.getD v3.toNat [])) * 1 ≤
 140737488355328)) (G41_11 k j (v0 ++ v1.getD v3.toNat [], v1, v2, IntKind.i64.wrap (v3 + 1), ())) none) none) none) (some (v0, ())) := by kernel_rfl
noncomputable def G41 (k : Nat) (v : List (List Int) × Unit) : Option (List Int × Unit) := F41 k v
theorem G41_eq (k : Nat) (v0 : List (List Int)) : G41 k (v0, ()) = ocall (G41_3 k k (v0, 0, v0, Int.ofNat v0.length, 0, ())) fun e => ocall (G57 k (e.2.1, ())) fun r => ocall (G41_11 k k (r.1, e.1, Int.ofNat e.1.length, 0, ())) fun e => some (e.1, ()) := by
 kernel_rfl
noncomputable def G21_6 (k : Nat) (j : Nat) (v : List Int × List Int × List (Int × List UInt8 × Unit) × Int × Int × List UInt8 × List (Int × List UInt8 × Unit) × Unit) : Option (List Int × List Int × List UInt8 × List (Int × List UInt8 × Unit) × Unit) := F21_6 k j v
theorem G21_6_eq (k : Nat) (j : Nat) (v0 v1 : List Int) (v2 : List (Int × List UInt8 × Unit)) (v3 v4 : Int) (v5 : List UInt8) (v6 : List (Int × List UInt8 × Unit)) : G21_6 k (j + 1) (v0, v1, v2, v3, v4, v5, v6, ()) = sel (decide (v4 < v3)) (sel (decide (0 ≤ v4)) (sel (decide (v4 <
 Int.ofNat v2.length)) (ocall (G12 k ((v2.getD v4.toNat (0, [], ())).1, (v2.getD v4.toNat (0, [], ())).2.1, ())) fun r => sel (decide ((v0.length + 1) * 8 ≤ 140737488355328)) (sel (decide ((v1.length + r.1.length) * 1 ≤ 140737488355328)) (G21_6 k j (v0 ++ [(v2.getD v4.toNat
 (0, [], ())).1], v1 ++ r.1, v2, v3, IntKind.i64.wrap (v4 + 1), v5, v6, ())) none) none) none) none) (some (v0, v1, v5, v6, ())) := by kernel_rfl
noncomputable def G21 (k : Nat) (v : (List UInt8 × List (Int × List UInt8 × Unit) × Unit) × Unit) : Option (List Int × Int × Unit) := F21 k v
theorem G21_eq (k : Nat) (v0 : List UInt8) (v1 : List (Int × List UInt8 × Unit)) : G21 k ((v0, v1, ()), ()) = ocall (G27 k ((v0, v1, ()), ())) fun r => sel (!r.1) (some ([], 1, ())) (ocall (G21_6 k k ([], [], v1, Int.ofNat v1.length, 0, v0, v1, ()))
 fun e => ocall (G39 k (e.1, ())) fun r => ocall (G40 k ((r.1.1, r.1.2.1, ()), ())) fun r => ocall (G41 k ([toBytes e.2.2.1, r.1, e.2.1], ())) fun r => some (r.1, 0, ())) := by kernel_rfl
noncomputable def G69_3 (k : Nat) (j : Nat) (v : Int × List Int × Int × Int × Unit) : Option (Int × Unit) := F69_3 k j v
theorem G69_3_eq (k : Nat) (j : Nat) (v0 : Int) (v1 : List Int) (v2 v3 : Int) : G69_3 k (j + 1) (v0, v1, v2, v3, ()) = sel (decide (v3 < v2)) (sel (decide (0 ≤ v3)) (sel (decide (v3 < Int.ofNat v1.length)) (G69_3 k j (bits BinOp.or IntKind.u64 (IntKind.u64.wrap (v0 * 2 ^ min (Int.toNat 8)
 64)) (IntKind.u64.wrap (v1.getD v3.toNat 0)), v1, v2, IntKind.i64.wrap (v3 + 1), ())) none) none) (some (v0, ())) := by kernel_rfl
noncomputable def G69 (k : Nat) (v : List Int × Unit) : Option (Int × Unit) := F69 k v
theorem G69_eq (k : Nat) (v0 : List Int) : G69 k (v0, ()) = sel (decide (8 ≤ Int.ofNat v0.length)) (sel (decide (Int.ofNat v0.length ≤ Int.ofNat v0.length)) (ocall (G69_3 k k (0, List.drop (Int.ofNat 0).toNat (List.take (Int.toNat 8) v0), Int.ofNat (List.drop (Int.ofNat 0).toNat (List.take
 (Int.toNat 8) v0)).length, 0, ())) fun e => some (e.1, ())) none) none := by kernel_rfl
noncomputable def G63 (k : Nat) (v : List Int × Unit) : Option ((Int × Int × Unit) × Int × Int × Unit) := F63 k v
theorem G63_eq (k : Nat) (v0 : List Int) : G63 k (v0, ()) = sel (decide (Int.ofNat v0.length < 8)) (some ((0, 0, ()), 0, 2, ())) (ocall (G69 k (v0, ())) fun r => ocall (G68 k ((r.1, 0, ()), 1, ())) fun r_1 => sel r_1.1 (sel (decide (Int.ofNat v0.length
 < 16)) (some ((0, 0, ()), 0, 2, ())) (sel (decide (8 ≤ Int.ofNat v0.length)) (sel (decide (Int.ofNat v0.length ≤ Int.ofNat v0.length)) (sel (decide (Int.ofNat v0.length ≤ Int.ofNat v0.length)) (ocall (G69 k (List.drop (Int.toNat 8) (List.take (Int.ofNat v0.length).toNat v0),
 ())) fun r_2 => ocall (G55 k ((r.1, r_2.1, ()), ())) fun r_3 => sel (!r_3.1) (some ((0, 0, ()), 0, 3, ())) (some ((r.1, r_2.1, ()), 16, 0, ()))) none) none) none)) (ocall (G55 k ((r.1, 0, ()), ())) fun r_2 => sel (!r_2.1) (some
 ((0, 0, ()), 0, 3, ())) (some ((r.1, 0, ()), 8, 0, ())))) := by kernel_rfl
noncomputable def G70 (k : Nat) (v : (Int × Int × Unit) × Int × Unit) : Option (Bool × Unit) := F70 k v
theorem G70_eq (k : Nat) (v0 v1 v2 : Int) : G70 k ((v0, v1, ()), v2, ()) = ocall (G66 k (v2, ())) fun r => sel r.1 (ocall (G68 k ((v0, v1, ()), v2, ())) fun r => some (r.1, ())) (some (false, ())) := by kernel_rfl
noncomputable def G64_g0 (k : Nat) (j : Nat) (v : List Int × Int × Int × Int × Unit) : Option (List Int × Unit) := F64_g0 k j v
theorem G64_g0_eq (k : Nat) (j : Nat) (v0 : List Int) (v1 v2 v3 : Int) : G64_g0 k (j + 1) (v0, v1, v2, v3, ()) = ocall (G70 k ((v2, v3, ()), v1, ())) fun r => sel r.1 (sel (decide ((v0.length + 1) * 8 ≤ 140737488355328)) (sel (decide (IntKind.i64.wrap (v1 + 1) ≤ 128)) (G64_g0
 k j (v0 ++ [v1], IntKind.i64.wrap (v1 + 1), v2, v3, ())) (some (v0 ++ [v1], ()))) none) (sel (decide (IntKind.i64.wrap (v1 + 1) ≤ 128)) (G64_g0 k j (v0, IntKind.i64.wrap (v1 + 1), v2, v3, ())) (some (v0, ()))) := by kernel_rfl
noncomputable def G64 (k : Nat) (v : (Int × Int × Unit) × Unit) : Option (List Int × Unit) := F64 k v
theorem G64_eq (k : Nat) (v0 v1 : Int) : G64 k ((v0, v1, ()), ()) = ocall (G70 k ((v0, v1, ()), 2, ())) fun r => sel r.1 (ocall (G64_g0 k k ([2], IntKind.i64.wrap (2 + 1), v0, v1, ())) fun e => some (e.1, ())) (ocall (G64_g0 k k ([], IntKind.i64.wrap
 (2 + 1), v0, v1, ())) fun e => some (e.1, ())) := by kernel_rfl
noncomputable def G46 (k : Nat) (v : List Int × Unit) : Option (List UInt8 × List Int × List Int × Int × Unit) := F46 k v
theorem G46_eq (k : Nat) (v0 : List Int) : G46 k (v0, ()) = sel (decide (Int.ofNat v0.length < 4)) (some ([], [], [], 2, ())) (sel (decide (4 ≤ Int.ofNat v0.length)) (sel (decide (Int.ofNat v0.length ≤ Int.ofNat v0.length)) (ocall (G49 k (ofBytes (List.drop (Int.ofNat 0).toNat
 (List.take (Int.toNat 4) v0)), ())) fun r => sel (!r.1) (some ([], [], [], 3, ())) (sel (decide (4 ≤ Int.ofNat v0.length)) (sel (decide (Int.ofNat v0.length ≤ Int.ofNat v0.length)) (sel (decide (Int.ofNat v0.length ≤ Int.ofNat v0.length)) (ocall (G63 k (List.drop (Int.toNat 4)
 (List.take (Int.ofNat v0.length).toNat v0), ())) fun r => sel (decide (4 ≤ Int.ofNat v0.length)) (sel (decide (Int.ofNat v0.length ≤ Int.ofNat v0.length)) (ocall (G64 k ((r.1.1, r.1.2.1, ()), ())) fun r_1 => sel (decide (0 ≤ IntKind.i64.wrap (4 + r.2.1))) (sel (decide
 (IntKind.i64.wrap (4 + r.2.1) ≤ Int.ofNat v0.length)) (sel (decide (Int.ofNat v0.length ≤ Int.ofNat v0.length)) (sel (decide (Int.ofNat v0.length ≤ Int.ofNat v0.length)) (some (ofBytes (List.drop (Int.ofNat 0).toNat (List.take (Int.toNat 4) v0)), r_1.1, List.drop (IntKind.i64.wrap (4 + r.2.1)).toNat
 (List.take (Int.ofNat v0.length).toNat v0), r.2.2.1, ())) none) none) none) none) none) none) none) none) none)) none) none) := by kernel_rfl
noncomputable def G52_9 (k : Nat) (j : Nat) (v : Int × List Int × Int × Int × Unit) : Option (Int × Unit) := F52_9 k j v
theorem G52_9_eq (k : Nat) (j : Nat) (v0 : Int) (v1 : List Int) (v2 v3 : Int) : G52_9 k (j + 1) (v0, v1, v2, v3, ()) = sel (decide (v3 < v2)) (sel (decide (0 ≤ v3)) (sel (decide (v3 < Int.ofNat v1.length)) (sel (decide (v3.toNat < v1.length)) (G52_9 k j (IntKind.u64.wrap (IntKind.u64.wrap
 (10 * v0) + IntKind.u64.wrap (IntKind.u8.wrap (v1.getD v3.toNat 0 - 48))), v1, v2, IntKind.i64.wrap (v3 + 1), ())) none) none) none) (some (v0, ())) := by kernel_rfl
noncomputable def G52 (k : Nat) (v : List UInt8 × Unit) : Option (Int × Int × Unit) := F52 k v
theorem G52_eq (k : Nat) (v0 : List UInt8) : G52 k (v0, ()) = sel (decide (v0 = [])) (some (0, 2, ())) (sel (decide (19 < Int.ofNat v0.length)) (some (0, 4, ())) (ocall (G50 k (v0, ())) fun r => sel (!r.1) (some (0, 3, ())) (ocall (G52_9 k k (0, toBytes v0,
 Int.ofNat (toBytes v0).length, 0, ())) fun e => some (e.1, 0, ())))) := by kernel_rfl
noncomputable def G36 (k : Nat) (v : (Int × Int × Int × Unit) × List Int × Unit) : Option (Int × Int × Unit) := F36 k v
theorem G36_eq (k : Nat) (v0 v1 v2 : Int) (v3 : List Int) : G36 k ((v0, v1, v2, ()), v3, ()) = ocall (G30 k ((v0, v1, v2, ()), ())) fun r => esel r (fun v => ocall (G86 k ((v.1.1, v.1.2.1, ()), ())) fun r => sel (decide (r.1 = 0)) (some (v2, 0,
 ())) (sel (decide (Int.ofNat v3.length < r.1)) (some (0, 2, ())) (sel (decide (Int.ofNat 0 ≤ r.1)) (sel (decide (r.1 ≤ Int.ofNat v3.length)) (sel (decide (Int.ofNat v3.length ≤ Int.ofNat v3.length)) (ocall (G52 k (ofBytes (List.drop (Int.ofNat 0).toNat (List.take r.1.toNat v3)),
 ())) fun r => sel (!decide (r.2.1 = 0)) (sel (!decide (r.2.1 = 0)) (some (0, 3, ())) (sel (decide (IntKind.u64.wrap v2 < r.1)) (some (0, 4, ())) (some (IntKind.i64.wrap r.1, 0, ())))) (sel (decide (r.1 = 0)) (some (0, 3, ())) (sel (decide (IntKind.u64.wrap v2
 < r.1)) (some (0, 4, ())) (some (IntKind.i64.wrap r.1, 0, ()))))) none) none) none))) fun e => ocall (G88 k ((e.1.1, ()), ())) fun r => sel (decide (r.1 = 0)) (some (v2, 0, ())) (sel (decide (Int.ofNat v3.length < r.1)) (some (0, 2, ())) (sel (decide
 (Int.ofNat 0 ≤ r.1)) (sel (decide (r.1 ≤ Int.ofNat v3.length)) (sel (decide (Int.ofNat v3.length ≤ Int.ofNat v3.length)) (ocall (G52 k (ofBytes (List.drop (Int.ofNat 0).toNat (List.take r.1.toNat v3)), ())) fun r => sel (!decide (r.2.1 = 0)) (sel (!decide (r.2.1 = 0)) (some (0, 3,
 ())) (sel (decide (IntKind.u64.wrap v2 < r.1)) (some (0, 4, ())) (some (IntKind.i64.wrap r.1, 0, ())))) (sel (decide (r.1 = 0)) (some (0, 3, ())) (sel (decide (IntKind.u64.wrap v2 < r.1)) (some (0, 4, ())) (some (IntKind.i64.wrap r.1, 0, ()))))) none)
 none) none)) := by kernel_rfl
noncomputable def G16 (k : Nat) (v : Int × List Int × Unit) : Option (List UInt8 × Int × Int × Unit) := F16 k v
theorem G16_eq (k : Nat) (v0 : Int) (v1 : List Int) : G16 k (v0, v1, ()) = ocall (G10 k (v0, ())) fun r => sel (!r.2.1) (some ([], 0, 5, ())) (ocall (G36 k ((r.1.1, r.1.2.1, r.1.2.2.1, ()), v1, ())) fun r_1 => sel (!decide (r_1.2.1 = 0)) (some ([], 0, r_1.2.1,
 ())) (ocall (G30 k ((r.1.1, r.1.2.1, r.1.2.2.1, ()), ())) fun r_2 => esel r_2 (fun v => ocall (G86 k ((v.1.1, v.1.2.1, ()), ())) fun r_3 => sel (decide (Int.ofNat v1.length < IntKind.i64.wrap (r_3.1 + r_1.1))) (some ([], 0, 2, ())) (sel (decide (0 ≤
 r_3.1)) (sel (decide (r_3.1 ≤ IntKind.i64.wrap (r_3.1 + r_1.1))) (sel (decide (IntKind.i64.wrap (r_3.1 + r_1.1) ≤ Int.ofNat v1.length)) (sel (decide (Int.ofNat v1.length ≤ Int.ofNat v1.length)) (ocall (G33 k ((r.1.1, r.1.2.1, r.1.2.2.1, ()), ofBytes (List.drop r_3.1.toNat (List.take
 (IntKind.i64.wrap (r_3.1 + r_1.1)).toNat v1)), ())) fun r => sel (!r.1) (some ([], 0, 3, ())) (some (ofBytes (List.drop r_3.1.toNat (List.take (IntKind.i64.wrap (r_3.1 + r_1.1)).toNat v1)), IntKind.i64.wrap (r_3.1 + r_1.1), 0, ()))) none) none) none) none)) fun e => ocall
 (G88 k ((e.1.1, ()), ())) fun r_3 => sel (decide (Int.ofNat v1.length < IntKind.i64.wrap (r_3.1 + r_1.1))) (some ([], 0, 2, ())) (sel (decide (0 ≤ r_3.1)) (sel (decide (r_3.1 ≤ IntKind.i64.wrap (r_3.1 + r_1.1))) (sel (decide (IntKind.i64.wrap (r_3.1 + r_1.1) ≤ Int.ofNat
 v1.length)) (sel (decide (Int.ofNat v1.length ≤ Int.ofNat v1.length)) (ocall (G33 k ((r.1.1, r.1.2.1, r.1.2.2.1, ()), ofBytes (List.drop r_3.1.toNat (List.take (IntKind.i64.wrap (r_3.1 + r_1.1)).toNat v1)), ())) fun r => sel (!r.1) (some ([], 0, 3, ())) (some (ofBytes
 (List.drop r_3.1.toNat (List.take (IntKind.i64.wrap (r_3.1 + r_1.1)).toNat v1)), IntKind.i64.wrap (r_3.1 + r_1.1), 0, ()))) none) none) none) none))) := by kernel_rfl
noncomputable def G25_8 (k : Nat) (j : Nat) (v : List Int × List Int × Int × Int × List UInt8 × List (Int × List UInt8 × Unit) × List UInt8 × List (Int × List UInt8 × Unit) × Unit) : Option (List Int × List UInt8 × List (Int × List UInt8 × Unit) × List UInt8 × List (Int × List UInt8 × Unit) ×
 Unit ⊕ Int × List UInt8 × List (Int × List UInt8 × Unit) × Unit) := F25_8 k j v
theorem G25_8_eq (k : Nat) (j : Nat) (v0 v1 : List Int) (v2 v3 : Int) (v4 : List UInt8) (v5 : List (Int × List UInt8 × Unit)) (v6 : List UInt8) (v7 : List (Int × List UInt8 × Unit)) : G25_8 k (j + 1) (v0, v1, v2, v3, v4, v5, v6, v7, ()) = sel (decide (v3 < v2)) (sel (decide (0 ≤ v3)) (sel
 (decide (v3 < Int.ofNat v1.length)) (sel (decide (v3.toNat < v1.length)) (ocall (G16 k (v1.getD v3.toNat 0, v0, ())) fun r => sel (!decide (r.2.2.1 = 0)) (some (Sum.inr (r.2.2.1, [], [], ()))) (sel (decide ((v7.length + 1) * 24 ≤ 140737488355328)) (sel (decide (0 ≤ r.2.1)) (sel
 (decide (r.2.1 ≤ Int.ofNat v0.length)) (sel (decide (Int.ofNat v0.length ≤ Int.ofNat v0.length)) (sel (decide (Int.ofNat v0.length ≤ Int.ofNat v0.length)) (G25_8 k j (List.drop r.2.1.toNat (List.take (Int.ofNat v0.length).toNat v0), v1, v2, IntKind.i64.wrap (v3 + 1), v4, v5, v6, v7 ++ [(v1.getD
 v3.toNat 0, r.1, ())], ())) none) none) none) none) none)) none) none) none) (some (Sum.inl (v0, v4, v5, v6, v7, ()))) := by kernel_rfl
noncomputable def G25 (k : Nat) (v : List Int × Unit) : Option ((List UInt8 × List (Int × List UInt8 × Unit) × Unit) × Int × Unit) := F25 k v
theorem G25_eq (k : Nat) (v0 : List Int) : G25 k (v0, ()) = ocall (G46 k (v0, ())) fun r => sel (!decide (r.2.2.2.1 = 0)) (some (([], [], ()), r.2.2.2.1, ())) (sel (decide (Int.ofNat r.2.1.length = 0)) (some (([], [], ()), 3, ())) (ocall (G25_8 k k
 (r.2.2.1, r.2.1, Int.ofNat r.2.1.length, 0, [], [], r.1, [], ())) fun e => esel e (fun v => sel (decide (0 < Int.ofNat v.1.length)) (some (([], [], ()), 4, ())) (some ((v.2.2.2.1, v.2.2.2.2.1, ()), 0, ()))) fun e => some ((e.2.1, e.2.2.1, ()), e.1,
 ()))) := by kernel_rfl
noncomputable def G45 (k : Nat) (v : (Int × List UInt8 × Unit) × (Int × Unit) × Unit) : Option (Bool × Unit) := F45 k v
theorem G45_eq (k : Nat) (v0 : Int) (v1 : List UInt8) (v2 : Int) : G45 k ((v0, v1, ()), (v2, ()), ()) = some (decide (v0 = v2), ()) := by kernel_rfl
noncomputable def G7000000_2 (k : Nat) (j : Nat) (v : List (Int × List UInt8 × Unit) × ((Int × Unit) × Unit) × Int × Int × Unit) : Option (Unit ⊕ Int × Unit) := F7000000_2 k j v
theorem G7000000_2_eq (k : Nat) (j : Nat) (v0 : List (Int × List UInt8 × Unit)) (v1 v2 v3 : Int) : G7000000_2 k (j + 1) (v0, ((v1, ()), ()), v2, v3, ()) = sel (decide (v3 < v2)) (sel (decide (0 ≤ v3)) (sel (decide (v3 < Int.ofNat v0.length)) (ocall (G45 k (((v0.getD v3.toNat
 (0, [], ())).1, (v0.getD v3.toNat (0, [], ())).2.1, ()), (v1, ()), ())) fun r => sel r.1 (some (Sum.inr (v3, ()))) (G7000000_2 k j (v0, ((v1, ()), ()), v2, IntKind.i64.wrap (v3 + 1), ()))) none) none) (some (Sum.inl ()))
 := by kernel_rfl
noncomputable def G7000000 (k : Nat) (v : List (Int × List UInt8 × Unit) × ((Int × Unit) × Unit) × Unit) : Option (Int × Unit) := F7000000 k v
theorem G7000000_eq (k : Nat) (v0 : List (Int × List UInt8 × Unit)) (v1 : Int) : G7000000 k (v0, ((v1, ()), ()), ()) = ocall (G7000000_2 k k (v0, ((v1, ()), ()), Int.ofNat v0.length, 0, ())) fun e => esel e (fun v => some ((-1 : Int), ())) fun
 e => some (e.1, ()) := by kernel_rfl
noncomputable def G23 (k : Nat) (v : (List UInt8 × List (Int × List UInt8 × Unit) × Unit) × Int × Unit) : Option (List UInt8 × Bool × Unit) := F23 k v
theorem G23_eq (k : Nat) (v0 : List UInt8) (v1 : List (Int × List UInt8 × Unit)) (v2 : Int) : G23 k ((v0, v1, ()), v2, ()) = ocall (G7000000 k (v1, ((v2, ()), ()), ())) fun r => sel (decide (r.1 < 0)) (some ([], false, ())) (sel (decide (0 ≤ r.1))
 (sel (decide (r.1 < Int.ofNat v1.length)) (some ((v1.getD r.1.toNat (0, [], ())).2.1, true, ())) none) none) := by kernel_rfl
noncomputable def G28_4 (k : Nat) (j : Nat) (v : Int × List UInt8 × List (Int × List UInt8 × Unit) × List UInt8 × List (Int × List UInt8 × Unit) × Unit) : Option (Unit ⊕ Bool × Unit) := F28_4 k j v
theorem G28_4_eq (k : Nat) (j : Nat) (v0 : Int) (v1 : List UInt8) (v2 : List (Int × List UInt8 × Unit)) (v3 : List UInt8) (v4 : List (Int × List UInt8 × Unit)) : G28_4 k (j + 1) (v0, v1, v2, v3, v4, ()) = sel (decide (v0 < Int.ofNat v2.length)) (sel (decide (0 ≤ v0)) (sel (decide (v0 <
 Int.ofNat v2.length)) (sel (decide (0 ≤ v0)) (sel (decide (v0 < Int.ofNat v4.length)) (sel (!(sameI (v2.getD v0.toNat (0, [], ())).1 (v4.getD v0.toNat (0, [], ())).1 && (sameS (v2.getD v0.toNat (0, [], ())).2.1 (v4.getD v0.toNat (0, [], ())).2.1 && true))) (some
 (Sum.inr (false, ()))) (G28_4 k j (IntKind.i64.wrap (v0 + 1), v1, v2, v3, v4, ()))) none) none) none) none) (some (Sum.inl ())) := by kernel_rfl
noncomputable def G28 (k : Nat) (v : (List UInt8 × List (Int × List UInt8 × Unit) × Unit) × (List UInt8 × List (Int × List UInt8 × Unit) × Unit) × Unit) : Option (Bool × Unit) := F28 k v
theorem G28_eq (k : Nat) (v0 : List UInt8) (v1 : List (Int × List UInt8 × Unit)) (v2 : List UInt8) (v3 : List (Int × List UInt8 × Unit)) : G28 k ((v0, v1, ()), (v2, v3, ()), ()) = sel (!decide (v0 = v2)) (some (false, ())) (sel (!decide (Int.ofNat v1.length =
 Int.ofNat v3.length)) (some (false, ())) (ocall (G28_4 k k (0, v0, v1, v2, v3, ())) fun e => esel e (fun v => some (true, ())) fun e => some (e.1, ()))) := by kernel_rfl
noncomputable def G18 (k : Nat) (v : Unit) : Option (Bool × Unit) := F18 k v
theorem G18_eq (k : Nat) : G18 k () = ocall (G21 k (([48, 52, 51, 48], [(11, [48, 48, 48, 48, 48, 49], ()), (39, [48, 48], ())], ()), ())) fun r => ocall (G25 k (r.1, ())) fun r_1 => sel (decide ((0 + r.1.length) * 1 ≤ 140737488355328)) (sel (decide
 ((r.1.length + 1) * 1 ≤ 140737488355328)) (ocall (G25 k (r.1 ++ [48], ())) fun r_2 => ocall (G23 k ((r_1.1.1, r_1.1.2.1, ()), 39, ())) fun r_3 => sel (decide (r.2.1 = 0)) (sel (decide (r_1.2.1 = 0)) (sel (decide (r_2.2.1 = 4)) (sel (decide (ofBytes r.1 = [48, 52, 51, 48, 0,
 32, 0, 0, 2, 0, 0, 0, 48, 48, 48, 48, 48, 49, 48, 48])) (ocall (G28 k (([48, 52, 51, 48], [(11, [48, 48, 48, 48, 48, 49], ()), (39, [48, 48], ())], ()), (r_1.1.1, r_1.1.2.1, ()), ())) fun r => sel r.1 (sel (decide (r_3.1 = [48, 48])) (sel r_3.2.1 (ocall (G27 k
 (([48, 52, 51, 48], [(11, [48, 48, 48, 48, 48, 49], ()), (39, [48, 48], ())], ()), ())) fun r => some (r.1, ())) (some (false, ()))) (some (false, ()))) (some (false, ()))) (some (false, ()))) (some (false, ()))) (some
 (false, ()))) (some (false, ()))) none) none := by kernel_rfl
noncomputable def G19_2 (k : Nat) (j : Nat) (v : Int × List UInt8 × List (Int × List UInt8 × Unit) × Unit) : Option (List UInt8 × List (Int × List UInt8 × Unit) × Unit ⊕ Bool × Unit) := F19_2 k j v
theorem G19_2_eq (k : Nat) (j : Nat) (v0 : Int) (v1 : List UInt8) (v2 : List (Int × List UInt8 × Unit)) : G19_2 k (j + 1) (v0, v1, v2, ()) = sel (decide (v0 < Int.ofNat v2.length)) (sel (decide (v0 < 200)) (sel (decide (0 ≤ v0)) (sel (decide (v0 < Int.ofNat v2.length)) (sel (decide (1200 <
 Int.ofNat (List.length (v2.getD v0.toNat (0, [], ())).2.1))) (some (Sum.inr (false, ()))) (G19_2 k j (IntKind.i64.wrap (v0 + 1), v1, v2, ()))) none) none) (some (Sum.inl (v1, v2, ())))) (some (Sum.inl (v1, v2, ()))) := by kernel_rfl
noncomputable def G19 (k : Nat) (v : (List UInt8 × List (Int × List UInt8 × Unit) × Unit) × Unit) : Option (Bool × Unit) := F19 k v
theorem G19_eq (k : Nat) (v0 : List UInt8) (v1 : List (Int × List UInt8 × Unit)) : G19 k ((v0, v1, ()), ()) = ocall (G19_2 k k (0, v0, v1, ())) fun e => esel e (fun v => sel (decide (Int.ofNat v.1.length ≤ 300)) (some (decide (Int.ofNat v.2.1.length ≤ 200), ()))
 (some (false, ()))) fun e => some (e.1, ()) := by kernel_rfl
noncomputable def G38_3 (k : Nat) (j : Nat) (v : List UInt8 × List (List UInt8) × Int × Unit) : Option (Unit ⊕ Bool × Unit) := F38_3 k j v
theorem G38_3_eq (k : Nat) (j : Nat) (v0 : List UInt8) (v1 : List (List UInt8)) (v2 : Int) : G38_3 k (j + 1) (v0, v1, v2, ()) = sel (decide (v2 < Int.ofNat v1.length)) (sel (decide (0 ≤ v2)) (sel (decide (v2 < Int.ofNat v1.length)) (sel (decide (v2.toNat < v1.length)) (sel (decide (v1.getD
 v2.toNat [] = v0)) (some (Sum.inr (true, ()))) (G38_3 k j (v0, v1, IntKind.i64.wrap (v2 + 1), ()))) none) none) none) (some (Sum.inl ())) := by kernel_rfl
noncomputable def G38 (k : Nat) (v : List UInt8 × Unit) : Option (Bool × Unit) := F38 k v
theorem G38_eq (k : Nat) (v0 : List UInt8) : G38 k (v0, ()) = ocall (G38_3 k k (v0, [[48, 49, 48, 48], [48, 49, 49, 48], [48, 52, 48, 48], [48, 52, 49, 48], [48, 52, 50, 48], [48, 52, 50, 49], [48, 52, 51, 48]], 0, ())) fun e => esel e (fun v => some (false, ())) fun e =>
 some (e.1, ()) := by kernel_rfl
noncomputable def G29 (k : Nat) (v : Unit) : Option (List Int × Unit) := F29 k v
theorem G29_eq (k : Nat) : G29 k () = some ([2, 3, 19, 3, 1, 6, 4, 1, 12, 7, 1, 10, 11, 1, 6, 12, 1, 6, 37, 2, 12, 38, 2, 6, 39, 2, 2, 41, 2, 8, 44, 4, 25, 48, 5, 999, 49, 1, 3, 90, 1, 42, 120, 5, 999], ()) := by kernel_rfl
noncomputable def G11_3 (k : Nat) (j : Nat) (v : Int × List Int × Int × Int × Int × Int × Unit) : Option (Int × Int × Int × Unit ⊕ Bool × Int × Int × Int × Unit) := F11_3 k j v
theorem G11_3_eq (k : Nat) (j : Nat) (v0 : Int) (v1 : List Int) (v2 v3 v4 v5 : Int) : G11_3 k (j + 1) (v0, v1, v2, v3, v4, v5, ()) = sel (decide (v2 < Int.ofNat v1.length)) (sel (decide (0 ≤ v2)) (sel (decide (v2 < Int.ofNat v1.length)) (sel (decide (v2.toNat < v1.length)) (sel (decide
 (v1.getD v2.toNat 0 = v0)) (sel (decide (0 ≤ v2)) (sel (decide (v2 < Int.ofNat v1.length)) (sel (decide (v2.toNat < v1.length)) (sel (decide (0 ≤ IntKind.i64.wrap (v2 + 1))) (sel (decide (IntKind.i64.wrap (v2 + 1) < Int.ofNat v1.length)) (sel (decide ((IntKind.i64.wrap (v2 + 1)).toNat < v1.length))
 (sel (decide (0 ≤ IntKind.i64.wrap (v2 + 2))) (sel (decide (IntKind.i64.wrap (v2 + 2) < Int.ofNat v1.length)) (sel (decide ((IntKind.i64.wrap (v2 + 2)).toNat < v1.length)) (some (Sum.inr (true, v1.getD v2.toNat 0, v1.getD (IntKind.i64.wrap (v2 + 1)).toNat 0, v1.getD (IntKind.i64.wrap (v2 + 2)).toNat
 0, ()))) none) none) none) none) none) none) none) none) none) (G11_3 k j (v0, v1, IntKind.i64.wrap (v2 + 3), v3, v4, v5, ()))) none) none) none) (some (Sum.inl (v3, v4, v5, ()))) := by kernel_rfl
noncomputable def G11 (k : Nat) (v : Int × Unit) : Option ((Int × Int × Int × Unit) × Bool × Unit) := F11 k v
theorem G11_eq (k : Nat) (v0 : Int) : G11 k (v0, ()) = ocall (G29 k ()) fun r => ocall (G11_3 k k (v0, r.1, 0, 0, 0, 0, ())) fun e => esel e (fun v => some ((0, 0, 0, ()), false, ())) fun e => some ((e.2.1, e.2.2.1, e.2.2.2.1, ()), e.1, ()) :=
 by kernel_rfl
noncomputable def G32_2 (k : Nat) (j : Nat) (v : Int × List UInt8 × Int × Unit) : Option (Unit ⊕ Bool × Unit) := F32_2 k j v
theorem G32_2_eq (k : Nat) (j : Nat) (v0 : Int) (v1 : List UInt8) (v2 : Int) : G32_2 k (j + 1) (v0, v1, v2, ()) = sel (decide (v2 < Int.ofNat v1.length)) (sel (decide (v0 = 1)) (sel (decide (0 ≤ v2)) (sel (decide (v2 < Int.ofNat v1.length)) (sel (decide (Int.ofNat (v1.getD v2.toNat 0).toNat
 < 48)) (some (Sum.inr (false, ()))) (sel (decide (0 ≤ v2)) (sel (decide (v2 < Int.ofNat v1.length)) (sel (decide (57 < Int.ofNat (v1.getD v2.toNat 0).toNat)) (some (Sum.inr (false, ()))) (G32_2 k j (v0, v1, IntKind.i64.wrap (v2 + 1), ()))) none) none)) none) none) (sel
 (decide (v0 = 3)) (sel (decide (0 ≤ v2)) (sel (decide (v2 < Int.ofNat v1.length)) (sel (decide (Int.ofNat (v1.getD v2.toNat 0).toNat < 48)) (some (Sum.inr (false, ()))) (sel (decide (0 ≤ v2)) (sel (decide (v2 < Int.ofNat v1.length)) (sel (decide (57 < Int.ofNat (v1.getD v2.toNat 0).toNat))
 (some (Sum.inr (false, ()))) (G32_2 k j (v0, v1, IntKind.i64.wrap (v2 + 1), ()))) none) none)) none) none) (sel (decide (0 ≤ v2)) (sel (decide (v2 < Int.ofNat v1.length)) (sel (decide (Int.ofNat (v1.getD v2.toNat 0).toNat < 32)) (some (Sum.inr (false, ()))) (sel (decide (0 ≤
 v2)) (sel (decide (v2 < Int.ofNat v1.length)) (sel (decide (126 < Int.ofNat (v1.getD v2.toNat 0).toNat)) (some (Sum.inr (false, ()))) (G32_2 k j (v0, v1, IntKind.i64.wrap (v2 + 1), ()))) none) none)) none) none))) (some (Sum.inl ())) := by kernel_rfl
noncomputable def G32 (k : Nat) (v : Int × List UInt8 × Unit) : Option (Bool × Unit) := F32 k v
theorem G32_eq (k : Nat) (v0 : Int) (v1 : List UInt8) : G32 k (v0, v1, ()) = ocall (G32_2 k k (v0, v1, 0, ())) fun e => esel e (fun v => some (true, ())) fun e => some (e.1, ()) := by kernel_rfl
noncomputable def G13 (k : Nat) (v : Int × List UInt8 × Unit) : Option (Bool × Unit) := F13 k v
theorem G13_eq (k : Nat) (v0 : Int) (v1 : List UInt8) : G13 k (v0, v1, ()) = ocall (G11 k (v0, ())) fun r => sel (!r.2.1) (some (false, ())) (sel (decide (Int.ofNat v1.length = 0)) (some (false, ())) (sel (decide (r.1.2.2.1 < Int.ofNat v1.length)) (some (false,
 ())) (sel (decide (r.1.2.1 < 3)) (sel (decide (Int.ofNat v1.length < r.1.2.2.1)) (some (false, ())) (ocall (G32 k (r.1.2.1, v1, ())) fun r => some (r.1, ()))) (ocall (G32 k (r.1.2.1, v1, ())) fun r => some (r.1, ()))))) := by kernel_rfl
noncomputable def G20_4 (k : Nat) (j : Nat) (v : Int × List UInt8 × List (Int × List UInt8 × Unit) × Unit) : Option (Unit ⊕ Bool × Unit) := F20_4 k j v
theorem G20_4_eq (k : Nat) (j : Nat) (v0 : Int) (v1 : List UInt8) (v2 : List (Int × List UInt8 × Unit)) : G20_4 k (j + 1) (v0, v1, v2, ()) = sel (decide (v0 < Int.ofNat v2.length)) (sel (decide (0 ≤ v0)) (sel (decide (v0 < Int.ofNat v2.length)) (sel (decide (0 ≤ v0)) (sel (decide (v0 <
 Int.ofNat v2.length)) (ocall (G13 k ((v2.getD v0.toNat (0, [], ())).1, (v2.getD v0.toNat (0, [], ())).2.1, ())) fun r => sel (!r.1) (some (Sum.inr (false, ()))) (sel (decide (0 < v0)) (sel (decide (0 ≤ v0)) (sel (decide (v0 < Int.ofNat v2.length)) (sel (decide (0 ≤
 IntKind.i64.wrap (v0 - 1))) (sel (decide (IntKind.i64.wrap (v0 - 1) < Int.ofNat v2.length)) (sel (decide ((v2.getD v0.toNat (0, [], ())).1 ≤ (v2.getD (IntKind.i64.wrap (v0 - 1)).toNat (0, [], ())).1)) (some (Sum.inr (false, ()))) (G20_4 k j (IntKind.i64.wrap (v0 + 1), v1, v2,
 ()))) none) none) none) none) (G20_4 k j (IntKind.i64.wrap (v0 + 1), v1, v2, ())))) none) none) none) none) (some (Sum.inl ())) := by kernel_rfl
noncomputable def G20 (k : Nat) (v : (List UInt8 × List (Int × List UInt8 × Unit) × Unit) × Unit) : Option (Bool × Unit) := F20 k v
theorem G20_eq (k : Nat) (v0 : List UInt8) (v1 : List (Int × List UInt8 × Unit)) : G20 k ((v0, v1, ()), ()) = ocall (G38 k (v0, ())) fun r => sel (!r.1) (some (false, ())) (sel (decide (Int.ofNat v1.length = 0)) (some (false, ())) (ocall (G20_4 k k (0, v0,
 v1, ())) fun e => esel e (fun v => some (true, ())) fun e => some (e.1, ()))) := by kernel_rfl
noncomputable def G60_6 (k : Nat) (j : Nat) (v : Int × Int × Unit) : Option (Int × Unit) := F60_6 k j v
theorem G60_6_eq (k : Nat) (j : Nat) (v0 v1 : Int) : G60_6 k (j + 1) (v0, v1, ()) = sel (decide (v1 < 64)) (G60_6 k j (IntKind.u64.wrap (v0.tdiv 2), IntKind.i64.wrap (v1 + 1), ())) (some (v0, ())) := by kernel_rfl
noncomputable def G60 (k : Nat) (v : (Int × Int × Unit) × Int × Unit) : Option (Bool × Unit) := F60 k v
theorem G60_eq (k : Nat) (v0 v1 v2 : Int) : G60 k ((v0, v1, ()), v2, ()) = sel (decide (64 < v2)) (ocall (G60_6 k k (v1, IntKind.i64.wrap (v2 - 64), ())) fun e => some (decide (e.1.tmod 2 = 1), ())) (ocall (G60_6 k k (v0, v2, ())) fun e => some (decide
 (e.1.tmod 2 = 1), ())) := by kernel_rfl
noncomputable def G58 (k : Nat) (v : (Int × Int × Unit) × Unit) : Option (Bool × Unit) := F58 k v
theorem G58_eq (k : Nat) (v0 v1 : Int) : G58 k ((v0, v1, ()), ()) = ocall (G60 k ((v0, v1, ()), 65, ())) fun r => sel (!r.1) (ocall (G60 k ((v0, v1, ()), 1, ())) fun r => some (r.1 == decide (0 < v1), ())) (some (false, ())) := by
 kernel_rfl
noncomputable def G59 (k : Nat) (v : Int × Unit) : Option (Bool × Unit) := F59 k v
theorem G59_eq (k : Nat) (v0 : Int) : G59 k (v0, ()) = sel (decide (2 ≤ v0)) (sel (decide (v0 ≤ 64)) (some (true, ())) (sel (decide (66 ≤ v0)) (some (decide (v0 ≤ 128), ())) (some (false, ())))) (sel (decide (66 ≤ v0)) (some (decide (v0 ≤ 128), ())) (some
 (false, ()))) := by kernel_rfl
noncomputable def G61_3 (k : Nat) (j : Nat) (v : Int × Int × Int × Unit) : Option (Int × Unit) := F61_3 k j v
theorem G61_3_eq (k : Nat) (j : Nat) (v0 v1 v2 : Int) : G61_3 k (j + 1) (v0, v1, v2, ()) = sel (decide (v2 < v0)) (G61_3 k j (v0, IntKind.u64.wrap (2 * v1), IntKind.i64.wrap (v2 + 1), ())) (some (v1, ())) := by kernel_rfl
noncomputable def G61 (k : Nat) (v : Int × Unit) : Option (Int × Unit) := F61 k v
theorem G61_eq (k : Nat) (v0 : Int) : G61 k (v0, ()) = ocall (G61_3 k k (v0, 1, 0, ())) fun e => some (e.1, ()) := by kernel_rfl
noncomputable def G42 (k : Nat) (v : (Int × Int × Unit) × Int × Unit) : Option ((Int × Int × Unit) × Int × Unit) := F42 k v
theorem G42_eq (k : Nat) (v0 v1 v2 : Int) : G42 k ((v0, v1, ()), v2, ()) = ocall (G58 k ((v0, v1, ()), ())) fun r => sel (!r.1) (some ((v0, v1, ()), 1, ())) (ocall (G59 k (v2, ())) fun r => sel (!r.1) (some ((v0, v1, ()), 1,
 ())) (ocall (G60 k ((v0, v1, ()), v2, ())) fun r => sel r.1 (some ((v0, v1, ()), 0, ())) (sel (decide (v2 ≤ 64)) (ocall (G61 k (IntKind.i64.wrap (64 - v2), ())) fun r => some ((IntKind.u64.wrap (v0 + r.1), v1, ()), 0, ())) (sel (decide
 (v1 = 0)) (ocall (G61 k (63, ())) fun r => ocall (G61 k (IntKind.i64.wrap (128 - v2), ())) fun r_1 => some ((IntKind.u64.wrap (v0 + r.1), IntKind.u64.wrap (v1 + r_1.1), ()), 0, ())) (ocall (G61 k (IntKind.i64.wrap (128 - v2), ())) fun r => some ((v0,
 IntKind.u64.wrap (v1 + r.1), ()), 0, ())))))) := by kernel_rfl
noncomputable def G34 (k : Nat) (v : Int × Unit) : Option (Int × Unit) := F34 k v
theorem G34_eq (k : Nat) (v0 : Int) : G34 k (v0, ()) = sel (decide (v0 < 3)) (some (0, ())) (sel (decide (v0 = 5)) (some (3, ())) (some (2, ()))) := by kernel_rfl
noncomputable def G51_5 (k : Nat) (j : Nat) (v : Int × Int × List UInt8 × Int × Unit) : Option (Int × List UInt8 × Unit) := F51_5 k j v
theorem G51_5_eq (k : Nat) (j : Nat) (v0 v1 : Int) (v2 : List UInt8) (v3 : Int) : G51_5 k (j + 1) (v0, v1, v2, v3, ()) = sel (decide (v3 < v1)) (sel (decide ((ofBytes [IntKind.u8.wrap (IntKind.u64.wrap (48 + v0.tmod 10))]).length + v2.length ≤ 140737488355328)) (G51_5 k j (IntKind.u64.wrap
 (v0.tdiv 10), v1, ofBytes [IntKind.u8.wrap (IntKind.u64.wrap (48 + v0.tmod 10))] ++ v2, IntKind.i64.wrap (v3 + 1), ())) none) (some (v0, v2, ())) := by kernel_rfl
noncomputable def G51 (k : Nat) (v : Int × Int × Unit) : Option (List UInt8 × Int × Unit) := F51 k v
theorem G51_eq (k : Nat) (v0 v1 : Int) : G51 k (v0, v1, ()) = sel (decide (v1 < 1)) (some ([], 1, ())) (sel (decide (19 < v1)) (some ([], 1, ())) (ocall (G51_5 k k (v0, v1, [], 0, ())) fun e => sel (!decide (e.1 = 0)) (some ([], 10, ())) (some (e.2.1, 0,
 ())))) := by kernel_rfl
noncomputable def G35 (k : Nat) (v : Int × Int × Unit) : Option (List UInt8 × Unit) := F35 k v
theorem G35_eq (k : Nat) (v0 v1 : Int) : G35 k (v0, v1, ()) = ocall (G51 k (v0, v1, ())) fun r => some (r.1, ()) := by kernel_rfl
noncomputable def G15 (k : Nat) (v : Int × List UInt8 × Unit) : Option (List Int × Unit) := F15 k v
theorem G15_eq (k : Nat) (v0 : Int) (v1 : List UInt8) : G15 k (v0, v1, ()) = ocall (G11 k (v0, ())) fun r => ocall (G34 k (r.1.2.1, ())) fun r => sel (decide (r.1 = 0)) (some (toBytes v1, ())) (ocall (G35 k (IntKind.u64.wrap (Int.ofNat v1.length), r.1, ()))
 fun r => sel (decide (r.1.length + v1.length ≤ 140737488355328)) (some (toBytes (r.1 ++ v1), ())) none) := by kernel_rfl
noncomputable def G62_3 (k : Nat) (j : Nat) (v : Int × List Int × Int × Unit) : Option (List Int × Unit) := F62_3 k j v
theorem G62_3_eq (k : Nat) (j : Nat) (v0 : Int) (v1 : List Int) (v2 : Int) : G62_3 k (j + 1) (v0, v1, v2, ()) = sel (decide (0 ≤ v2)) (sel (decide (0 ≤ v2)) (sel (decide (v2 < Int.ofNat v1.length)) (sel (decide (v2.toNat < v1.length)) (G62_3 k j (IntKind.u64.wrap (v0.tdiv 256), v1.set
 v2.toNat (IntKind.u8.wrap (v0.tmod 256)), IntKind.i64.wrap (v2 - 1), ())) none) none) none) (some (v1, ())) := by kernel_rfl
noncomputable def G62 (k : Nat) (v : Int × Unit) : Option (List Int × Unit) := F62 k v
theorem G62_eq (k : Nat) (v0 : Int) : G62 k (v0, ()) = ocall (G62_3 k k (v0, List.replicate (Int.toNat 8) 0, 7, ())) fun e => some (e.1, ()) := by kernel_rfl
noncomputable def G43 (k : Nat) (v : (Int × Int × Unit) × Unit) : Option (List Int × Unit) := F43 k v
theorem G43_eq (k : Nat) (v0 v1 : Int) : G43 k ((v0, v1, ()), ()) = sel (decide (v1 = 0)) (ocall (G62 k (v0, ())) fun r => some (r.1, ())) (ocall (G62 k (v0, ())) fun r => ocall (G62 k (v1, ())) fun r_1 => sel (decide ((r.1.length + r_1.1.length) * 1 ≤
 140737488355328)) (some (r.1 ++ r_1.1, ())) none) := by kernel_rfl
noncomputable def G22_4 (k : Nat) (j : Nat) (v : List Int × Int × List UInt8 × List (Int × List UInt8 × Unit) × Int × Int × Unit) : Option (List Int × List UInt8 × List (Int × List UInt8 × Unit) × Int × Int × Unit) := F22_4 k j v
theorem G22_4_eq (k : Nat) (j : Nat) (v0 : List Int) (v1 : Int) (v2 : List UInt8) (v3 : List (Int × List UInt8 × Unit)) (v4 v5 : Int) : G22_4 k (j + 1) (v0, v1, v2, v3, v4, v5, ()) = sel (decide (v1 < Int.ofNat v3.length)) (sel (decide (0 ≤ v1)) (sel (decide (v1 < Int.ofNat v3.length))
 (ocall (G42 k ((v4, v5, ()), (v3.getD v1.toNat (0, [], ())).1, ())) fun r => sel (decide (0 ≤ v1)) (sel (decide (v1 < Int.ofNat v3.length)) (sel (decide (0 ≤ v1)) (sel (decide (v1 < Int.ofNat v3.length)) (ocall (G15 k ((v3.getD v1.toNat (0, [], ())).1, (v3.getD
 v1.toNat (0, [], ())).2.1, ())) fun r_1 => sel (decide ((v0.length + r_1.1.length) * 1 ≤ 140737488355328)) (G22_4 k j (v0 ++ r_1.1, IntKind.i64.wrap (v1 + 1), v2, v3, r.1.1, r.1.2.1, ())) none) none) none) none) none) none) none) (some (v0, v2, v3, v4, v5, ())) := by
 kernel_rfl
noncomputable def G22 (k : Nat) (v : (List UInt8 × List (Int × List UInt8 × Unit) × Unit) × Unit) : Option (List Int × Unit) := F22 k v
theorem G22_eq (k : Nat) (v0 : List UInt8) (v1 : List (Int × List UInt8 × Unit)) : G22 k ((v0, v1, ()), ()) = ocall (G22_4 k k ([], 0, v0, v1, 0, 0, ())) fun e => ocall (G43 k ((e.2.2.2.1, e.2.2.2.2.1, ()), ())) fun r => sel (decide (((toBytes e.2.1).length +
 r.1.length) * 1 ≤ 140737488355328)) (sel (decide (((toBytes e.2.1 ++ r.1).length + e.1.length) * 1 ≤ 140737488355328)) (some (toBytes e.2.1 ++ r.1 ++ e.1, ())) none) none := by kernel_rfl
noncomputable def G24_2 (k : Nat) (j : Nat) (v : Int × Int × List UInt8 × List (Int × List UInt8 × Unit) × Unit) : Option (Unit ⊕ List UInt8 × Bool × Unit) := F24_2 k j v
theorem G24_2_eq (k : Nat) (j : Nat) (v0 v1 : Int) (v2 : List UInt8) (v3 : List (Int × List UInt8 × Unit)) : G24_2 k (j + 1) (v0, v1, v2, v3, ()) = sel (decide (v1 < Int.ofNat v3.length)) (sel (decide (0 ≤ v1)) (sel (decide (v1 < Int.ofNat v3.length)) (sel (decide ((v3.getD v1.toNat (0, [],
 ())).1 = v0)) (sel (decide (0 ≤ v1)) (sel (decide (v1 < Int.ofNat v3.length)) (some (Sum.inr ((v3.getD v1.toNat (0, [], ())).2.1, true, ()))) none) none) (G24_2 k j (v0, IntKind.i64.wrap (v1 + 1), v2, v3, ()))) none) none) (some (Sum.inl ())) := by kernel_rfl
noncomputable def G24 (k : Nat) (v : (List UInt8 × List (Int × List UInt8 × Unit) × Unit) × Int × Unit) : Option (List UInt8 × Bool × Unit) := F24 k v
theorem G24_eq (k : Nat) (v0 : List UInt8) (v1 : List (Int × List UInt8 × Unit)) (v2 : Int) : G24 k ((v0, v1, ()), v2, ()) = ocall (G24_2 k k (v2, 0, v0, v1, ())) fun e => esel e (fun v => some ([], false, ())) fun e => some (e.1, e.2.1, ()) := by kernel_rfl
noncomputable def G65_3 (k : Nat) (j : Nat) (v : List Int × Int × Int × Unit) : Option (Int × Unit) := F65_3 k j v
theorem G65_3_eq (k : Nat) (j : Nat) (v0 : List Int) (v1 v2 : Int) : G65_3 k (j + 1) (v0, v1, v2, ()) = sel (decide (v2 < 8)) (sel (decide (0 ≤ v2)) (sel (decide (v2 < Int.ofNat v0.length)) (G65_3 k j (v0, IntKind.u64.wrap (IntKind.u64.wrap (256 * v1) + IntKind.u64.wrap (v0.getD v2.toNat
 0)), IntKind.i64.wrap (v2 + 1), ())) none) none) (some (v1, ())) := by kernel_rfl
noncomputable def G65 (k : Nat) (v : List Int × Unit) : Option (Int × Unit) := F65 k v
theorem G65_eq (k : Nat) (v0 : List Int) : G65 k (v0, ()) = ocall (G65_3 k k (v0, 0, 0, ())) fun e => some (e.1, ()) := by kernel_rfl
noncomputable def G47 (k : Nat) (v : List Int × Unit) : Option ((Int × Int × Unit) × Int × Int × Unit) := F47 k v
theorem G47_eq (k : Nat) (v0 : List Int) : G47 k (v0, ()) = sel (decide (Int.ofNat v0.length < 8)) (some ((0, 0, ()), 0, 2, ())) (sel (decide (0 < Int.ofNat v0.length)) (sel (decide (128 ≤ v0.getD (Int.toNat 0) 0)) (sel (decide (Int.ofNat v0.length < 16)) (some ((0, 0,
 ()), 0, 2, ())) (ocall (G65 k (v0, ())) fun r => sel (decide (0 < Int.ofNat v0.length)) (sel (decide (128 ≤ v0.getD (Int.toNat 0) 0)) (sel (decide (8 ≤ Int.ofNat v0.length)) (sel (decide (Int.ofNat v0.length ≤ Int.ofNat v0.length)) (sel (decide (Int.ofNat v0.length ≤
 Int.ofNat v0.length)) (ocall (G65 k (List.drop (Int.toNat 8) (List.take (Int.ofNat v0.length).toNat v0), ())) fun r_1 => ocall (G58 k ((r.1, r_1.1, ()), ())) fun r_2 => sel (!r_2.1) (some ((0, 0, ()), 0, 3, ())) (some ((r.1, r_1.1, ()), 16, 0,
 ()))) none) none) none) (ocall (G58 k ((r.1, 0, ()), ())) fun r_1 => sel (!r_1.1) (some ((0, 0, ()), 0, 3, ())) (some ((r.1, 0, ()), 8, 0, ())))) none)) (ocall (G65 k (v0, ())) fun r => sel (decide (0 < Int.ofNat v0.length)) (sel
 (decide (128 ≤ v0.getD (Int.toNat 0) 0)) (sel (decide (8 ≤ Int.ofNat v0.length)) (sel (decide (Int.ofNat v0.length ≤ Int.ofNat v0.length)) (sel (decide (Int.ofNat v0.length ≤ Int.ofNat v0.length)) (ocall (G65 k (List.drop (Int.toNat 8) (List.take (Int.ofNat v0.length).toNat v0), ())) fun r_1
 => ocall (G58 k ((r.1, r_1.1, ()), ())) fun r_2 => sel (!r_2.1) (some ((0, 0, ()), 0, 3, ())) (some ((r.1, r_1.1, ()), 16, 0, ()))) none) none) none) (ocall (G58 k ((r.1, 0, ()), ())) fun r_1 => sel (!r_1.1) (some ((0, 0, ()),
 0, 3, ())) (some ((r.1, 0, ()), 8, 0, ())))) none)) none) := by kernel_rfl
noncomputable def G48 (k : Nat) (v : (Int × Int × Unit) × Int × Unit) : Option (Bool × Unit) := F48 k v
theorem G48_eq (k : Nat) (v0 v1 v2 : Int) : G48 k ((v0, v1, ()), v2, ()) = ocall (G59 k (v2, ())) fun r => sel r.1 (ocall (G60 k ((v0, v1, ()), v2, ())) fun r => some (r.1, ())) (some (false, ())) := by kernel_rfl
noncomputable def G53_2 (k : Nat) (j : Nat) (v : List UInt8 × Int × Unit) : Option (List UInt8 × Unit ⊕ Bool × Unit) := F53_2 k j v
theorem G53_2_eq (k : Nat) (j : Nat) (v0 : List UInt8) (v1 : Int) : G53_2 k (j + 1) (v0, v1, ()) = sel (decide (v1 < Int.ofNat v0.length)) (sel (decide (0 ≤ v1)) (sel (decide (v1 < Int.ofNat v0.length)) (sel (decide (Int.ofNat (v0.getD v1.toNat 0).toNat < 48)) (some (Sum.inr (false,
 ()))) (sel (decide (0 ≤ v1)) (sel (decide (v1 < Int.ofNat v0.length)) (sel (decide (57 < Int.ofNat (v0.getD v1.toNat 0).toNat)) (some (Sum.inr (false, ()))) (G53_2 k j (v0, IntKind.i64.wrap (v1 + 1), ()))) none) none)) none) none) (some (Sum.inl (v0, ()))) := by
 kernel_rfl
noncomputable def G53 (k : Nat) (v : List UInt8 × Unit) : Option (Bool × Unit) := F53 k v
theorem G53_eq (k : Nat) (v0 : List UInt8) : G53 k (v0, ()) = ocall (G53_2 k k (v0, 0, ())) fun e => esel e (fun v => some (decide (0 < Int.ofNat v.1.length), ())) fun e => some (e.1, ()) := by kernel_rfl
noncomputable def G37_9 (k : Nat) (j : Nat) (v : List UInt8 × Int × Int × Unit) : Option (Int × Unit) := F37_9 k j v
theorem G37_9_eq (k : Nat) (j : Nat) (v0 : List UInt8) (v1 v2 : Int) : G37_9 k (j + 1) (v0, v1, v2, ()) = sel (decide (v2 < Int.ofNat v0.length)) (sel (decide (0 ≤ v2)) (sel (decide (v2 < Int.ofNat v0.length)) (G37_9 k j (v0, IntKind.u64.wrap (IntKind.u64.wrap (IntKind.u64.wrap (10 * v1) +
 IntKind.u64.wrap (Int.ofNat (v0.getD v2.toNat 0).toNat)) - 48), IntKind.i64.wrap (v2 + 1), ())) none) none) (some (v1, ())) := by kernel_rfl
noncomputable def G37 (k : Nat) (v : List UInt8 × Unit) : Option (Int × Int × Unit) := F37 k v
theorem G37_eq (k : Nat) (v0 : List UInt8) : G37 k (v0, ()) = sel (decide (Int.ofNat v0.length = 0)) (some (0, 2, ())) (sel (decide (19 < Int.ofNat v0.length)) (some (0, 4, ())) (ocall (G53 k (v0, ())) fun r => sel (!r.1) (some (0, 3, ())) (ocall (G37_9 k k
 (v0, 0, 0, ())) fun e => some (e.1, 0, ())))) := by kernel_rfl
noncomputable def G17 (k : Nat) (v : Int × List Int × Unit) : Option (List UInt8 × Int × Int × Unit) := F17 k v
theorem G17_eq (k : Nat) (v0 : Int) (v1 : List Int) : G17 k (v0, v1, ()) = ocall (G11 k (v0, ())) fun r => sel (!r.2.1) (some ([], 0, 5, ())) (ocall (G34 k (r.1.2.1, ())) fun r_1 => sel (decide (0 < r_1.1)) (sel (decide (Int.ofNat v1.length < r_1.1)) (some ([], 0, 2,
 ())) (sel (decide (Int.ofNat 0 ≤ r_1.1)) (sel (decide (r_1.1 ≤ Int.ofNat v1.length)) (sel (decide (Int.ofNat v1.length ≤ Int.ofNat v1.length)) (ocall (G37 k (ofBytes (List.drop (Int.ofNat 0).toNat (List.take r_1.1.toNat v1)), ())) fun r_2 => sel (!decide (r_2.2.1 = 0)) (some ([], 0,
 3, ())) (sel (decide (r_2.1 = 0)) (some ([], 0, 3, ())) (sel (decide (r.1.2.2.1 < IntKind.i64.wrap r_2.1)) (some ([], 0, 4, ())) (sel (decide (IntKind.i64.wrap (Int.ofNat v1.length - r_1.1) < IntKind.i64.wrap r_2.1)) (some ([], 0, 2, ())) (sel (decide (0 ≤ r_1.1))
 (sel (decide (r_1.1 ≤ IntKind.i64.wrap (r_1.1 + IntKind.i64.wrap r_2.1))) (sel (decide (IntKind.i64.wrap (r_1.1 + IntKind.i64.wrap r_2.1) ≤ Int.ofNat v1.length)) (sel (decide (Int.ofNat v1.length ≤ Int.ofNat v1.length)) (ocall (G32 k (r.1.2.1, ofBytes (List.drop r_1.1.toNat (List.take
 (IntKind.i64.wrap (r_1.1 + IntKind.i64.wrap r_2.1)).toNat v1)), ())) fun r => sel (!r.1) (some ([], 0, 3, ())) (some (ofBytes (List.drop r_1.1.toNat (List.take (IntKind.i64.wrap (r_1.1 + IntKind.i64.wrap r_2.1)).toNat v1)), IntKind.i64.wrap (r_1.1 + IntKind.i64.wrap r_2.1), 0,
 ()))) none) none) none) none))))) none) none) none)) (sel (decide (IntKind.i64.wrap (Int.ofNat v1.length - r_1.1) < r.1.2.2.1)) (some ([], 0, 2, ())) (sel (decide (0 ≤ r_1.1)) (sel (decide (r_1.1 ≤ IntKind.i64.wrap (r_1.1 + r.1.2.2.1))) (sel (decide (IntKind.i64.wrap (r_1.1 +
 r.1.2.2.1) ≤ Int.ofNat v1.length)) (sel (decide (Int.ofNat v1.length ≤ Int.ofNat v1.length)) (ocall (G32 k (r.1.2.1, ofBytes (List.drop r_1.1.toNat (List.take (IntKind.i64.wrap (r_1.1 + r.1.2.2.1)).toNat v1)), ())) fun r_2 => sel (!r_2.1) (some ([], 0, 3, ())) (some (ofBytes
 (List.drop r_1.1.toNat (List.take (IntKind.i64.wrap (r_1.1 + r.1.2.2.1)).toNat v1)), IntKind.i64.wrap (r_1.1 + r.1.2.2.1), 0, ()))) none) none) none) none))) := by kernel_rfl
noncomputable def G26_11 (k : Nat) (j : Nat) (v : List Int × Int × Int × List UInt8 × List (Int × List UInt8 × Unit) × Int × Int × List UInt8 × List (Int × List UInt8 × Unit) × Unit) : Option (List Int × Int × List UInt8 × List (Int × List UInt8 × Unit) × List UInt8 × List (Int × List UInt8 ×
 Unit) × Unit ⊕ Int × List UInt8 × List (Int × List UInt8 × Unit) × Unit) := F26_11 k j v
theorem G26_11_eq (k : Nat) (j : Nat) (v0 : List Int) (v1 v2 : Int) (v3 : List UInt8) (v4 : List (Int × List UInt8 × Unit)) (v5 v6 : Int) (v7 : List UInt8) (v8 : List (Int × List UInt8 × Unit)) : G26_11 k (j + 1) (v0, v1, v2, v3, v4, v5, v6, v7, v8, ()) = sel (decide (v2 ≤ 128)) (ocall
 (G48 k ((v5, v6, ()), v2, ())) fun r => sel (!r.1) (G26_11 k j (v0, v1, IntKind.i64.wrap (v2 + 1), v3, v4, v5, v6, v7, v8, ())) (sel (decide (0 ≤ v1)) (sel (decide (v1 ≤ Int.ofNat v0.length)) (sel (decide (Int.ofNat v0.length ≤ Int.ofNat v0.length)) (sel (decide (Int.ofNat
 v0.length ≤ Int.ofNat v0.length)) (ocall (G17 k (v2, List.drop v1.toNat (List.take (Int.ofNat v0.length).toNat v0), ())) fun r => sel (!decide (r.2.2.1 = 0)) (some (Sum.inr (r.2.2.1, [], [], ()))) (sel (decide ((v8.length + 1) * 24 ≤ 140737488355328)) (G26_11 k j (v0,
 IntKind.i64.wrap (v1 + r.2.1), IntKind.i64.wrap (v2 + 1), v3, v4, v5, v6, v7, v8 ++ [(v2, r.1, ())], ())) none)) none) none) none) none)) (some (Sum.inl (v0, v1, v3, v4, v7, v8, ()))) := by kernel_rfl
noncomputable def G26 (k : Nat) (v : List Int × Unit) : Option ((List UInt8 × List (Int × List UInt8 × Unit) × Unit) × Int × Unit) := F26 k v
theorem G26_eq (k : Nat) (v0 : List Int) : G26 k (v0, ()) = sel (decide (Int.ofNat v0.length < 4)) (some (([], [], ()), 2, ())) (sel (decide (4 ≤ Int.ofNat v0.length)) (sel (decide (Int.ofNat v0.length ≤ Int.ofNat v0.length)) (ocall (G38 k (ofBytes (List.drop (Int.ofNat
 0).toNat (List.take (Int.toNat 4) v0)), ())) fun r => sel (!r.1) (some (([], [], ()), 3, ())) (sel (decide (4 ≤ Int.ofNat v0.length)) (sel (decide (Int.ofNat v0.length ≤ Int.ofNat v0.length)) (sel (decide (Int.ofNat v0.length ≤ Int.ofNat v0.length)) (ocall (G47 k (List.drop
 (Int.toNat 4) (List.take (Int.ofNat v0.length).toNat v0), ())) fun r => sel (!decide (r.2.2.1 = 0)) (some (([], [], ()), r.2.2.1, ())) (sel (decide (4 ≤ Int.ofNat v0.length)) (sel (decide (Int.ofNat v0.length ≤ Int.ofNat v0.length)) (ocall (G26_11 k k (v0, IntKind.i64.wrap (4
 + r.2.1), 2, [], [], r.1.1, r.1.2.1, ofBytes (List.drop (Int.ofNat 0).toNat (List.take (Int.toNat 4) v0)), [], ())) fun e => esel e (fun v => sel (decide (Int.ofNat v.2.2.2.2.2.1.length = 0)) (some (([], [], ()), 3, ())) (sel (decide (v.2.1 < Int.ofNat v.1.length)) (some
 (([], [], ()), 4, ())) (some ((v.2.2.2.2.1, v.2.2.2.2.2.1, ()), 0, ())))) fun e => some ((e.2.1, e.2.2.1, ()), e.1, ())) none) none)) none) none) none)) none) none) := by kernel_rfl
end Go.Proofs.Ytjgnpmdbkgeakaa.G
