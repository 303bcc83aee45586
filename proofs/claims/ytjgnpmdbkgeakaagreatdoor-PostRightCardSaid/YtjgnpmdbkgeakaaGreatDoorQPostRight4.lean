/- THE CLAIM'S TEXTS, part 4: what its proof needs of the theory, the functions, their equations and the laws. No condition. -/
import Derived.Test.YtjgnpmdbkgeakaaGreatDoorQPostRight3
section
set_option maxRecDepth 1000000
set_option linter.unusedVariables false
set_option linter.unusedSimpArgs false
namespace Go.Proofs.YtjgnpmdbkgeakaaGreatDoor.G
open Go Go.Proofs.YtjgnpmdbkgeakaaGreatDoor Th
theorem G4_eq (k : Nat) : G4 k () = ocall (G8 k ((7, [], 0, 1, [82, 82, 78, 48, 48, 48, 48, 48, 48, 48, 48, 49], [48, 48], ()), ())) fun r => ocall (G11 k (r.1, ())) fun r_1 => ocall (G13 k ((1, [], ()), [(7, [], 0, 1, [82, 82, 78, 48, 48, 48, 48, 48, 48, 48,
 48, 49], [48, 48], ())], ())) fun r_2 => ocall (G13 k ((r_2.1.1, r_2.1.2.1, ()), [(7, [], 0, 1, [82, 82, 78, 48, 48, 48, 48, 48, 48, 48, 48, 49], [48, 48], ())], ())) fun r_3 => ocall (G11 k ([0, 1], ())) fun r_4 => sel (decide (r.2.1 = 0)) (sel
 (decide (r_1.2.1 = 0)) (sel (decide (r_2.2.1 = 0)) (sel (decide (r_3.2.1 = 7)) (sel (decide (r_4.2.1 = 3)) (sel (decide (Int.ofNat r.1.length = 34)) (sel (decide (1 < Int.ofNat r.1.length)) (sel (decide (r.1.getD (Int.toNat 1) 0 = 32)) (sel (sameI r_1.1.1 7 && (sameS r_1.1.2.1 [] && (sameI
 r_1.1.2.2.1 0 && (sameI r_1.1.2.2.2.1 1 && (sameS r_1.1.2.2.2.2.1 [82, 82, 78, 48, 48, 48, 48, 48, 48, 48, 48, 49] && (sameS r_1.1.2.2.2.2.2.1 [48, 48] && true)))))) (sel (decide (Int.ofNat r_2.1.2.1.length = 1)) (sel (decide (0 < Int.ofNat r_2.1.2.1.length)) (some (decide (ofBytes (r_2.1.2.1.getD
 (Int.toNat 0) []) = ofBytes r.1), ())) none) (some (false, ()))) (some (false, ()))) (some (false, ()))) none) (some (false, ()))) (some (false, ()))) (some (false, ()))) (some (false, ()))) (some (false, ()))) (some (false,
 ())) := by kernel_rfl
noncomputable def G5 (k : Nat) (v : (Int × List UInt8 × Int × Int × List UInt8 × List UInt8 × Unit) × Unit) : Option (Bool × Unit) := F5 k v
theorem G5_eq (k : Nat) (v0 : Int) (v1 : List UInt8) (v2 v3 : Int) (v4 v5 : List UInt8) : G5 k ((v0, v1, v2, v3, v4, v5, ()), ()) = sel (decide (Int.ofNat v1.length ≤ 300)) (sel (decide (Int.ofNat v4.length ≤ 300)) (some (decide (Int.ofNat v5.length ≤ 300), ())) (some (false,
 ()))) (some (false, ())) := by kernel_rfl
noncomputable def G6_2 (k : Nat) (j : Nat) (v : List (List Int) × Int × Unit) : Option (List (List Int) × Unit ⊕ Bool × Unit) := F6_2 k j v
theorem G6_2_eq (k : Nat) (j : Nat) (v0 : List (List Int)) (v1 : Int) : G6_2 k (j + 1) (v0, v1, ()) = sel (decide (v1 < Int.ofNat v0.length)) (sel (decide (v1 < 300)) (sel (decide (0 ≤ v1)) (sel (decide (v1 < Int.ofNat v0.length)) (sel (decide (3000 < Int.ofNat (List.length (v0.getD v1.toNat
 [])))) (some (Sum.inr (false, ()))) (G6_2 k j (v0, IntKind.i64.wrap (v1 + 1), ()))) none) none) (some (Sum.inl (v0, ())))) (some (Sum.inl (v0, ()))) := by kernel_rfl
noncomputable def G6 (k : Nat) (v : List (List Int) × Unit) : Option (Bool × Unit) := F6 k v
theorem G6_eq (k : Nat) (v0 : List (List Int)) : G6 k (v0, ()) = ocall (G6_2 k k (v0, 0, ())) fun e => esel e (fun v => some (decide (Int.ofNat v.1.length ≤ 300), ())) fun e => some (e.1, ()) := by kernel_rfl
noncomputable def G7_2 (k : Nat) (j : Nat) (v : List (Int × List UInt8 × Int × Int × List UInt8 × List UInt8 × Unit) × Int × Int × Unit) : Option (List (Int × List UInt8 × Int × Int × List UInt8 × List UInt8 × Unit) × Int × Unit ⊕ Bool × Unit) := F7_2 k j v
theorem G7_2_eq (k : Nat) (j : Nat) (v0 : List (Int × List UInt8 × Int × Int × List UInt8 × List UInt8 × Unit)) (v1 v2 : Int) : G7_2 k (j + 1) (v0, v1, v2, ()) = sel (decide (v2 < Int.ofNat v0.length)) (sel (decide (v2 ≤ v1)) (sel (decide (0 ≤ v2)) (sel (decide (v2 < Int.ofNat v0.length))
 (ocall (G5 k (((v0.getD v2.toNat (0, [], 0, 0, [], [], ())).1, (v0.getD v2.toNat (0, [], 0, 0, [], [], ())).2.1, (v0.getD v2.toNat (0, [], 0, 0, [], [], ())).2.2.1, (v0.getD v2.toNat (0, [], 0, 0, [], [], ())).2.2.2.1, (v0.getD v2.toNat (0, [], 0, 0, [], [],
 ())).2.2.2.2.1, (v0.getD v2.toNat (0, [], 0, 0, [], [], ())).2.2.2.2.2.1, ()), ())) fun r => sel (!r.1) (some (Sum.inr (false, ()))) (G7_2 k j (v0, v1, IntKind.i64.wrap (v2 + 1), ()))) none) none) (some (Sum.inl (v0, v1, ())))) (some (Sum.inl
 (v0, v1, ()))) := by kernel_rfl
noncomputable def G7 (k : Nat) (v : List (Int × List UInt8 × Int × Int × List UInt8 × List UInt8 × Unit) × Int × Unit) : Option (Bool × Unit) := F7 k v
theorem G7_eq (k : Nat) (v0 : List (Int × List UInt8 × Int × Int × List UInt8 × List UInt8 × Unit)) (v1 : Int) : G7 k (v0, v1, ()) = ocall (G7_2 k k (v0, v1, 0, ())) fun e => esel e (fun v => some (decide (Int.ofNat v.1.length ≤ v.2.1), ())) fun e => some (e.1, ())
 := by kernel_rfl
noncomputable def G81 (k : Nat) (v : Unit) : Option (List Int × Unit) := F81 k v
theorem G81_eq (k : Nat) : G81 k () = some ([2, 3, 19, 3, 1, 6, 4, 1, 12, 7, 1, 10, 11, 1, 6, 12, 1, 6, 37, 2, 12, 38, 2, 6, 39, 2, 2, 41, 2, 8, 44, 4, 25, 48, 5, 999, 49, 1, 3, 90, 1, 42, 120, 5, 999], ()) := by kernel_rfl
noncomputable def G41_3 (k : Nat) (j : Nat) (v : Int × List Int × Int × Int × Int × Int × Unit) : Option (Int × Int × Int × Unit ⊕ Bool × Int × Int × Int × Unit) := F41_3 k j v
theorem G41_3_eq (k : Nat) (j : Nat) (v0 : Int) (v1 : List Int) (v2 v3 v4 v5 : Int) : G41_3 k (j + 1) (v0, v1, v2, v3, v4, v5, ()) = sel (decide (v2 < Int.ofNat v1.length)) (sel (decide (0 ≤ v2)) (sel (decide (v2 < Int.ofNat v1.length)) (sel (decide (v2.toNat < v1.length)) (sel (decide
 (v1.getD v2.toNat 0 = v0)) (sel (decide (0 ≤ v2)) (sel (decide (v2 < Int.ofNat v1.length)) (sel (decide (v2.toNat < v1.length)) (sel (decide (0 ≤ IntKind.i64.wrap (v2 + 1))) (sel (decide (IntKind.i64.wrap (v2 + 1) < Int.ofNat v1.length)) (sel (decide ((IntKind.i64.wrap (v2 + 1)).toNat < v1.length))
 (sel (decide (0 ≤ IntKind.i64.wrap (v2 + 2))) (sel (decide (IntKind.i64.wrap (v2 + 2) < Int.ofNat v1.length)) (sel (decide ((IntKind.i64.wrap (v2 + 2)).toNat < v1.length)) (some (Sum.inr (true, v1.getD v2.toNat 0, v1.getD (IntKind.i64.wrap (v2 + 1)).toNat 0, v1.getD (IntKind.i64.wrap (v2 + 2)).toNat
 0, ()))) none) none) none) none) none) none) none) none) none) (G41_3 k j (v0, v1, IntKind.i64.wrap (v2 + 3), v3, v4, v5, ()))) none) none) none) (some (Sum.inl (v3, v4, v5, ()))) := by kernel_rfl
noncomputable def G41 (k : Nat) (v : Int × Unit) : Option ((Int × Int × Int × Unit) × Bool × Unit) := F41 k v
theorem G41_eq (k : Nat) (v0 : Int) : G41 k (v0, ()) = ocall (G81 k ()) fun r => ocall (G41_3 k k (v0, r.1, 0, 0, 0, 0, ())) fun e => esel e (fun v => some ((0, 0, 0, ()), false, ())) fun e => some ((e.2.1, e.2.2.1, e.2.2.2.1, ()), e.1, ()) :=
 by kernel_rfl
noncomputable def G42_2 (k : Nat) (j : Nat) (v : Int × List UInt8 × Int × Unit) : Option (Unit ⊕ Bool × Unit) := F42_2 k j v
theorem G42_2_eq (k : Nat) (j : Nat) (v0 : Int) (v1 : List UInt8) (v2 : Int) : G42_2 k (j + 1) (v0, v1, v2, ()) = sel (decide (v2 < Int.ofNat v1.length)) (sel (decide (v0 = 1)) (sel (decide (0 ≤ v2)) (sel (decide (v2 < Int.ofNat v1.length)) (sel (decide (Int.ofNat (v1.getD v2.toNat 0).toNat
 < 48)) (some (Sum.inr (false, ()))) (sel (decide (0 ≤ v2)) (sel (decide (v2 < Int.ofNat v1.length)) (sel (decide (57 < Int.ofNat (v1.getD v2.toNat 0).toNat)) (some (Sum.inr (false, ()))) (G42_2 k j (v0, v1, IntKind.i64.wrap (v2 + 1), ()))) none) none)) none) none) (sel
 (decide (v0 = 3)) (sel (decide (0 ≤ v2)) (sel (decide (v2 < Int.ofNat v1.length)) (sel (decide (Int.ofNat (v1.getD v2.toNat 0).toNat < 48)) (some (Sum.inr (false, ()))) (sel (decide (0 ≤ v2)) (sel (decide (v2 < Int.ofNat v1.length)) (sel (decide (57 < Int.ofNat (v1.getD v2.toNat 0).toNat))
 (some (Sum.inr (false, ()))) (G42_2 k j (v0, v1, IntKind.i64.wrap (v2 + 1), ()))) none) none)) none) none) (sel (decide (0 ≤ v2)) (sel (decide (v2 < Int.ofNat v1.length)) (sel (decide (Int.ofNat (v1.getD v2.toNat 0).toNat < 32)) (some (Sum.inr (false, ()))) (sel (decide (0 ≤
 v2)) (sel (decide (v2 < Int.ofNat v1.length)) (sel (decide (126 < Int.ofNat (v1.getD v2.toNat 0).toNat)) (some (Sum.inr (false, ()))) (G42_2 k j (v0, v1, IntKind.i64.wrap (v2 + 1), ()))) none) none)) none) none))) (some (Sum.inl ())) := by kernel_rfl
noncomputable def G42 (k : Nat) (v : Int × List UInt8 × Unit) : Option (Bool × Unit) := F42 k v
theorem G42_eq (k : Nat) (v0 : Int) (v1 : List UInt8) : G42 k (v0, v1, ()) = ocall (G42_2 k k (v0, v1, 0, ())) fun e => esel e (fun v => some (true, ())) fun e => some (e.1, ()) := by kernel_rfl
noncomputable def G19 (k : Nat) (v : Int × List UInt8 × Unit) : Option (Bool × Unit) := F19 k v
theorem G19_eq (k : Nat) (v0 : Int) (v1 : List UInt8) : G19 k (v0, v1, ()) = ocall (G41 k (v0, ())) fun r => sel (!r.2.1) (some (false, ())) (sel (decide (Int.ofNat v1.length = 0)) (some (false, ())) (sel (decide (r.1.2.2.1 < Int.ofNat v1.length)) (some (false,
 ())) (sel (decide (r.1.2.1 < 3)) (sel (decide (Int.ofNat v1.length < r.1.2.2.1)) (some (false, ())) (ocall (G42 k (r.1.2.1, v1, ())) fun r => some (r.1, ()))) (ocall (G42 k (r.1.2.1, v1, ())) fun r => some (r.1, ()))))) := by kernel_rfl
noncomputable def G20 (k : Nat) (v : Int × Unit) : Option (Bool × Unit) := F20 k v
theorem G20_eq (k : Nat) (v0 : Int) : G20 k (v0, ()) = sel (decide (v0 = 1)) (some (true, ())) (sel (decide (v0 = 3)) (some (true, ())) (sel (decide (v0 = 5)) (some (true, ())) (some (decide (v0 = 6), ())))) := by kernel_rfl
noncomputable def G43_2 (k : Nat) (j : Nat) (v : List UInt8 × Int × Unit) : Option (List UInt8 × Unit ⊕ Bool × Unit) := F43_2 k j v
theorem G43_2_eq (k : Nat) (j : Nat) (v0 : List UInt8) (v1 : Int) : G43_2 k (j + 1) (v0, v1, ()) = sel (decide (v1 < Int.ofNat v0.length)) (sel (decide (0 ≤ v1)) (sel (decide (v1 < Int.ofNat v0.length)) (sel (decide (Int.ofNat (v0.getD v1.toNat 0).toNat < 48)) (some (Sum.inr (false,
 ()))) (sel (decide (0 ≤ v1)) (sel (decide (v1 < Int.ofNat v0.length)) (sel (decide (57 < Int.ofNat (v0.getD v1.toNat 0).toNat)) (some (Sum.inr (false, ()))) (G43_2 k j (v0, IntKind.i64.wrap (v1 + 1), ()))) none) none)) none) none) (some (Sum.inl (v0, ()))) := by
 kernel_rfl
noncomputable def G43 (k : Nat) (v : List UInt8 × Unit) : Option (Bool × Unit) := F43 k v
theorem G43_eq (k : Nat) (v0 : List UInt8) : G43 k (v0, ()) = ocall (G43_2 k k (v0, 0, ())) fun e => esel e (fun v => some (decide (0 < Int.ofNat v.1.length), ())) fun e => some (e.1, ()) := by kernel_rfl
noncomputable def G21_5 (k : Nat) (j : Nat) (v : List UInt8 × Int × Int × Unit) : Option (Int × Unit) := F21_5 k j v
theorem G21_5_eq (k : Nat) (j : Nat) (v0 : List UInt8) (v1 v2 : Int) : G21_5 k (j + 1) (v0, v1, v2, ()) = sel (decide (v2 < Int.ofNat v0.length)) (sel (decide (0 ≤ v2)) (sel (decide (v2 < Int.ofNat v0.length)) (sel (decide ((IntKind.i64.wrap (Int.ofNat v0.length - v2)).tmod 2 = 0)) (sel
 (decide (9 < IntKind.i64.wrap (2 * IntKind.i64.wrap (IntKind.i64.wrap (Int.ofNat (v0.getD v2.toNat 0).toNat) - 48)))) (G21_5 k j (v0, IntKind.i64.wrap (v1 + IntKind.i64.wrap (IntKind.i64.wrap (2 * IntKind.i64.wrap (IntKind.i64.wrap (Int.ofNat (v0.getD v2.toNat 0).toNat) - 48)) - 9)),
 IntKind.i64.wrap (v2 + 1), ())) (G21_5 k j (v0, IntKind.i64.wrap (v1 + IntKind.i64.wrap (2 * IntKind.i64.wrap (IntKind.i64.wrap (Int.ofNat (v0.getD v2.toNat 0).toNat) - 48))), IntKind.i64.wrap (v2 + 1), ()))) (G21_5 k j (v0, IntKind.i64.wrap (v1 + IntKind.i64.wrap (IntKind.i64.wrap
 (Int.ofNat (v0.getD v2.toNat 0).toNat) - 48)), IntKind.i64.wrap (v2 + 1), ()))) none) none) (some (v1, ())) := by kernel_rfl
noncomputable def G21 (k : Nat) (v : List UInt8 × Unit) : Option (Bool × Unit) := F21 k v
theorem G21_eq (k : Nat) (v0 : List UInt8) : G21 k (v0, ()) = ocall (G43 k (v0, ())) fun r => sel (!r.1) (some (false, ())) (ocall (G21_5 k k (v0, 0, 0, ())) fun e => some (decide (e.1.tmod 10 = 0), ())) := by kernel_rfl
noncomputable def G9 (k : Nat) (v : (Int × List UInt8 × Int × Int × List UInt8 × List UInt8 × Unit) × Unit) : Option (Bool × Unit) := F9 k v
theorem G9_eq (k : Nat) (v0 : Int) (v1 : List UInt8) (v2 v3 : Int) (v4 v5 : List UInt8) : G9 k ((v0, v1, v2, v3, v4, v5, ()), ()) = sel (decide (v0 < 1)) (some (false, ())) (sel (decide (7 < v0)) (some (false, ())) (sel (decide (999999 < v3)) (some (false,
 ())) (ocall (G19 k (37, v4, ())) fun r => sel (!r.1) (some (false, ())) (ocall (G20 k (v0, ())) fun r => sel r.1 (ocall (G21 k (v1, ())) fun r => sel r.1 (sel (decide (Int.ofNat v1.length < 20)) (sel (decide (v2 < 1000000000000)) (some (decide (v5 = []),
 ())) (some (false, ()))) (some (false, ()))) (some (false, ()))) (ocall (G19 k (39, v5, ())) fun r => sel r.1 (sel (decide (v1 = [])) (some (decide (v2 = 0), ())) (some (false, ()))) (some (false, ()))))))) := by kernel_rfl
noncomputable def G47 (k : Nat) (v : Unit) : Option (List (List UInt8) × Unit) := F47 k v
theorem G47_eq (k : Nat) : G47 k () = some ([[48, 49, 48, 48], [48, 49, 49, 48], [48, 52, 48, 48], [48, 52, 49, 48], [48, 52, 50, 48], [48, 52, 50, 49], [48, 52, 51, 48]], ()) := by kernel_rfl
noncomputable def G88_5 (k : Nat) (j : Nat) (v : Int × Int × List UInt8 × Int × Unit) : Option (Int × List UInt8 × Unit) := F88_5 k j v
theorem G88_5_eq (k : Nat) (j : Nat) (v0 v1 : Int) (v2 : List UInt8) (v3 : Int) : G88_5 k (j + 1) (v0, v1, v2, v3, ()) = sel (decide (v3 < v1)) (sel (decide ((ofBytes [IntKind.u8.wrap (IntKind.u64.wrap (48 + v0.tmod 10))]).length + v2.length ≤ 140737488355328)) (G88_5 k j (IntKind.u64.wrap
 (v0.tdiv 10), v1, ofBytes [IntKind.u8.wrap (IntKind.u64.wrap (48 + v0.tmod 10))] ++ v2, IntKind.i64.wrap (v3 + 1), ())) none) (some (v0, v2, ())) := by kernel_rfl
noncomputable def G88 (k : Nat) (v : Int × Int × Unit) : Option (List UInt8 × Int × Unit) := F88 k v
theorem G88_eq (k : Nat) (v0 v1 : Int) : G88 k (v0, v1, ()) = sel (decide (v1 < 1)) (some ([], 1, ())) (sel (decide (19 < v1)) (some ([], 1, ())) (ocall (G88_5 k k (v0, v1, [], 0, ())) fun e => sel (!decide (e.1 = 0)) (some ([], 10, ())) (some (e.2.1, 0,
 ())))) := by kernel_rfl
noncomputable def G48 (k : Nat) (v : Int × Int × Unit) : Option (List UInt8 × Unit) := F48 k v
theorem G48_eq (k : Nat) (v0 v1 : Int) : G48 k (v0, v1, ()) = ocall (G88 k (v0, v1, ())) fun r => some (r.1, ()) := by kernel_rfl
noncomputable def G49 (k : Nat) (v : List UInt8 × Unit) : Option (List UInt8 × Unit) := F49 k v
theorem G49_eq (k : Nat) (v0 : List UInt8) : G49 k (v0, ()) = sel (decide (4 + v0.length ≤ 140737488355328)) (sel (decide ((48 :: 49 :: 48 :: 48 :: v0).length + 32 ≤ 140737488355328)) (some (48 :: 49 :: 48 :: 48 :: v0 ++ [48, 48, 48, 48, 48, 48, 48, 48, 48, 48, 48, 48, 48, 48, 48, 48, 48,
 48, 48, 48, 48, 48, 48, 48, 48, 48, 48, 48, 48, 48, 48, 48], ())) none) none := by kernel_rfl
noncomputable def G24 (k : Nat) (v : (Int × List UInt8 × Int × Int × List UInt8 × List UInt8 × Unit) × Unit) : Option ((List UInt8 × List (Int × List UInt8 × Unit) × Unit) × Unit) := F24 k v
theorem G24_eq (k : Nat) (v0 : Int) (v1 : List UInt8) (v2 v3 : Int) (v4 v5 : List UInt8) : G24 k ((v0, v1, v2, v3, v4, v5, ()), ()) = ocall (G47 k ()) fun r => sel (decide (0 ≤ IntKind.i64.wrap (v0 - 1))) (sel (decide (IntKind.i64.wrap (v0 - 1) < Int.ofNat r.1.length)) (sel
 (decide ((IntKind.i64.wrap (v0 - 1)).toNat < r.1.length)) (ocall (G20 k (v0, ())) fun r_1 => sel r_1.1 (ocall (G48 k (v2, 12, ())) fun r_2 => ocall (G48 k (IntKind.u64.wrap v3, 6, ())) fun r_3 => ocall (G20 k (v0, ())) fun r_4 => sel (!r_4.1) (sel (decide (v0 = 5))
 (ocall (G49 k (r_3.1, ())) fun r_5 => some ((r.1.getD (IntKind.i64.wrap (v0 - 1)).toNat [], [(2, v1, ()), (4, r_2.1, ()), (11, r_3.1, ()), (37, v4, ()), (39, v5, ()), (90, r_5.1, ())], ()), ())) (sel (decide (v0 = 6)) (ocall
 (G49 k (r_3.1, ())) fun r_5 => some ((r.1.getD (IntKind.i64.wrap (v0 - 1)).toNat [], [(2, v1, ()), (4, r_2.1, ()), (11, r_3.1, ()), (37, v4, ()), (39, v5, ()), (90, r_5.1, ())], ()), ())) (some ((r.1.getD (IntKind.i64.wrap (v0 -
 1)).toNat [], [(2, v1, ()), (4, r_2.1, ()), (11, r_3.1, ()), (37, v4, ()), (39, v5, ())], ()), ())))) (sel (decide (v0 = 5)) (ocall (G49 k (r_3.1, ())) fun r_5 => some ((r.1.getD (IntKind.i64.wrap (v0 - 1)).toNat [], [(2, v1,
 ()), (4, r_2.1, ()), (11, r_3.1, ()), (37, v4, ()), (90, r_5.1, ())], ()), ())) (sel (decide (v0 = 6)) (ocall (G49 k (r_3.1, ())) fun r_5 => some ((r.1.getD (IntKind.i64.wrap (v0 - 1)).toNat [], [(2, v1, ()), (4, r_2.1,
 ()), (11, r_3.1, ()), (37, v4, ()), (90, r_5.1, ())], ()), ())) (some ((r.1.getD (IntKind.i64.wrap (v0 - 1)).toNat [], [(2, v1, ()), (4, r_2.1, ()), (11, r_3.1, ()), (37, v4, ())], ()), ()))))) (ocall
 (G48 k (IntKind.u64.wrap v3, 6, ())) fun r_2 => ocall (G20 k (v0, ())) fun r_3 => sel (!r_3.1) (sel (decide (v0 = 5)) (ocall (G49 k (r_2.1, ())) fun r_4 => some ((r.1.getD (IntKind.i64.wrap (v0 - 1)).toNat [], [(11, r_2.1, ()), (37, v4, ()), (39, v5,
 ()), (90, r_4.1, ())], ()), ())) (sel (decide (v0 = 6)) (ocall (G49 k (r_2.1, ())) fun r_4 => some ((r.1.getD (IntKind.i64.wrap (v0 - 1)).toNat [], [(11, r_2.1, ()), (37, v4, ()), (39, v5, ()), (90, r_4.1, ())], ()),
 ())) (some ((r.1.getD (IntKind.i64.wrap (v0 - 1)).toNat [], [(11, r_2.1, ()), (37, v4, ()), (39, v5, ())], ()), ())))) (sel (decide (v0 = 5)) (ocall (G49 k (r_2.1, ())) fun r_4 => some ((r.1.getD (IntKind.i64.wrap (v0 - 1)).toNat [], [(11,
 r_2.1, ()), (37, v4, ()), (90, r_4.1, ())], ()), ())) (sel (decide (v0 = 6)) (ocall (G49 k (r_2.1, ())) fun r_4 => some ((r.1.getD (IntKind.i64.wrap (v0 - 1)).toNat [], [(11, r_2.1, ()), (37, v4, ()), (90, r_4.1, ())],
 ()), ())) (some ((r.1.getD (IntKind.i64.wrap (v0 - 1)).toNat [], [(11, r_2.1, ()), (37, v4, ())], ()), ())))))) none) none) none := by kernel_rfl
noncomputable def G84_6 (k : Nat) (j : Nat) (v : Int × Int × Unit) : Option (Int × Unit) := F84_6 k j v
theorem G84_6_eq (k : Nat) (j : Nat) (v0 v1 : Int) : G84_6 k (j + 1) (v0, v1, ()) = sel (decide (v1 < 64)) (G84_6 k j (IntKind.u64.wrap (v0.tdiv 2), IntKind.i64.wrap (v1 + 1), ())) (some (v0, ())) := by kernel_rfl
noncomputable def G84 (k : Nat) (v : (Int × Int × Unit) × Int × Unit) : Option (Bool × Unit) := F84 k v
theorem G84_eq (k : Nat) (v0 v1 v2 : Int) : G84 k ((v0, v1, ()), v2, ()) = sel (decide (64 < v2)) (ocall (G84_6 k k (v1, IntKind.i64.wrap (v2 - 64), ())) fun e => some (decide (e.1.tmod 2 = 1), ())) (ocall (G84_6 k k (v0, v2, ())) fun e => some (decide
 (e.1.tmod 2 = 1), ())) := by kernel_rfl
noncomputable def G82 (k : Nat) (v : (Int × Int × Unit) × Unit) : Option (Bool × Unit) := F82 k v
theorem G82_eq (k : Nat) (v0 v1 : Int) : G82 k ((v0, v1, ()), ()) = ocall (G84 k ((v0, v1, ()), 65, ())) fun r => sel (!r.1) (ocall (G84 k ((v0, v1, ()), 1, ())) fun r => some (r.1 == decide (0 < v1), ())) (some (false, ())) := by
 kernel_rfl
noncomputable def G83 (k : Nat) (v : Int × Unit) : Option (Bool × Unit) := F83 k v
theorem G83_eq (k : Nat) (v0 : Int) : G83 k (v0, ()) = sel (decide (2 ≤ v0)) (sel (decide (v0 ≤ 64)) (some (true, ())) (sel (decide (66 ≤ v0)) (some (decide (v0 ≤ 128), ())) (some (false, ())))) (sel (decide (66 ≤ v0)) (some (decide (v0 ≤ 128), ())) (some
 (false, ()))) := by kernel_rfl
noncomputable def G85_3 (k : Nat) (j : Nat) (v : Int × Int × Int × Unit) : Option (Int × Unit) := F85_3 k j v
theorem G85_3_eq (k : Nat) (j : Nat) (v0 v1 v2 : Int) : G85_3 k (j + 1) (v0, v1, v2, ()) = sel (decide (v2 < v0)) (G85_3 k j (v0, IntKind.u64.wrap (2 * v1), IntKind.i64.wrap (v2 + 1), ())) (some (v1, ())) := by kernel_rfl
noncomputable def G85 (k : Nat) (v : Int × Unit) : Option (Int × Unit) := F85 k v
theorem G85_eq (k : Nat) (v0 : Int) : G85 k (v0, ()) = ocall (G85_3 k k (v0, 1, 0, ())) fun e => some (e.1, ()) := by kernel_rfl
noncomputable def G44 (k : Nat) (v : (Int × Int × Unit) × Int × Unit) : Option ((Int × Int × Unit) × Int × Unit) := F44 k v
theorem G44_eq (k : Nat) (v0 v1 v2 : Int) : G44 k ((v0, v1, ()), v2, ()) = ocall (G82 k ((v0, v1, ()), ())) fun r => sel (!r.1) (some ((v0, v1, ()), 1, ())) (ocall (G83 k (v2, ())) fun r => sel (!r.1) (some ((v0, v1, ()), 1,
 ())) (ocall (G84 k ((v0, v1, ()), v2, ())) fun r => sel r.1 (some ((v0, v1, ()), 0, ())) (sel (decide (v2 ≤ 64)) (ocall (G85 k (IntKind.i64.wrap (64 - v2), ())) fun r => some ((IntKind.u64.wrap (v0 + r.1), v1, ()), 0, ())) (sel (decide
 (v1 = 0)) (ocall (G85 k (63, ())) fun r => ocall (G85 k (IntKind.i64.wrap (128 - v2), ())) fun r_1 => some ((IntKind.u64.wrap (v0 + r.1), IntKind.u64.wrap (v1 + r_1.1), ()), 0, ())) (ocall (G85 k (IntKind.i64.wrap (128 - v2), ())) fun r => some ((v0,
 IntKind.u64.wrap (v1 + r.1), ()), 0, ())))))) := by kernel_rfl
noncomputable def G86 (k : Nat) (v : Int × Unit) : Option (Int × Unit) := F86 k v
theorem G86_eq (k : Nat) (v0 : Int) : G86 k (v0, ()) = sel (decide (v0 < 3)) (some (0, ())) (sel (decide (v0 = 5)) (some (3, ())) (some (2, ()))) := by kernel_rfl
noncomputable def G45 (k : Nat) (v : Int × List UInt8 × Unit) : Option (List Int × Unit) := F45 k v
theorem G45_eq (k : Nat) (v0 : Int) (v1 : List UInt8) : G45 k (v0, v1, ()) = ocall (G41 k (v0, ())) fun r => ocall (G86 k (r.1.2.1, ())) fun r => sel (decide (r.1 = 0)) (some (toBytes v1, ())) (ocall (G48 k (IntKind.u64.wrap (Int.ofNat v1.length), r.1, ()))
 fun r => sel (decide (r.1.length + v1.length ≤ 140737488355328)) (some (toBytes (r.1 ++ v1), ())) none) := by kernel_rfl
noncomputable def G87_3 (k : Nat) (j : Nat) (v : Int × List Int × Int × Unit) : Option (List Int × Unit) := F87_3 k j v
theorem G87_3_eq (k : Nat) (j : Nat) (v0 : Int) (v1 : List Int) (v2 : Int) : G87_3 k (j + 1) (v0, v1, v2, ()) = sel (decide (0 ≤ v2)) (sel (decide (0 ≤ v2)) (sel (decide (v2 < Int.ofNat v1.length)) (sel (decide (v2.toNat < v1.length)) (G87_3 k j (IntKind.u64.wrap (v0.tdiv 256), v1.set
 v2.toNat (IntKind.u8.wrap (v0.tmod 256)), IntKind.i64.wrap (v2 - 1), ())) none) none) none) (some (v1, ())) := by kernel_rfl
noncomputable def G87 (k : Nat) (v : Int × Unit) : Option (List Int × Unit) := F87 k v
theorem G87_eq (k : Nat) (v0 : Int) : G87 k (v0, ()) = ocall (G87_3 k k (v0, List.replicate (Int.toNat 8) 0, 7, ())) fun e => some (e.1, ()) := by kernel_rfl
noncomputable def G46 (k : Nat) (v : (Int × Int × Unit) × Unit) : Option (List Int × Unit) := F46 k v
theorem G46_eq (k : Nat) (v0 v1 : Int) : G46 k ((v0, v1, ()), ()) = sel (decide (v1 = 0)) (ocall (G87 k (v0, ())) fun r => some (r.1, ())) (ocall (G87 k (v0, ())) fun r => ocall (G87 k (v1, ())) fun r_1 => sel (decide ((r.1.length + r_1.1.length) * 1 ≤
 140737488355328)) (some (r.1 ++ r_1.1, ())) none) := by kernel_rfl
noncomputable def G23_4 (k : Nat) (j : Nat) (v : List Int × Int × List UInt8 × List (Int × List UInt8 × Unit) × Int × Int × Unit) : Option (List Int × List UInt8 × List (Int × List UInt8 × Unit) × Int × Int × Unit) := F23_4 k j v
theorem G23_4_eq (k : Nat) (j : Nat) (v0 : List Int) (v1 : Int) (v2 : List UInt8) (v3 : List (Int × List UInt8 × Unit)) (v4 v5 : Int) : G23_4 k (j + 1) (v0, v1, v2, v3, v4, v5, ()) = sel (decide (v1 < Int.ofNat v3.length)) (sel (decide (0 ≤ v1)) (sel (decide (v1 < Int.ofNat v3.length))
 (ocall (G44 k ((v4, v5, ()), (v3.getD v1.toNat (0, [], ())).1, ())) fun r => sel (decide (0 ≤ v1)) (sel (decide (v1 < Int.ofNat v3.length)) (sel (decide (0 ≤ v1)) (sel (decide (v1 < Int.ofNat v3.length)) (ocall (G45 k ((v3.getD v1.toNat (0, [], ())).1, (v3.getD
 v1.toNat (0, [], ())).2.1, ())) fun r_1 => sel (decide ((v0.length + r_1.1.length) * 1 ≤ 140737488355328)) (G23_4 k j (v0 ++ r_1.1, IntKind.i64.wrap (v1 + 1), v2, v3, r.1.1, r.1.2.1, ())) none) none) none) none) none) none) none) (some (v0, v2, v3, v4, v5, ())) := by
 kernel_rfl
noncomputable def G23 (k : Nat) (v : (List UInt8 × List (Int × List UInt8 × Unit) × Unit) × Unit) : Option (List Int × Unit) := F23 k v
theorem G23_eq (k : Nat) (v0 : List UInt8) (v1 : List (Int × List UInt8 × Unit)) : G23 k ((v0, v1, ()), ()) = ocall (G23_4 k k ([], 0, v0, v1, 0, 0, ())) fun e => ocall (G46 k ((e.2.2.2.1, e.2.2.2.2.1, ()), ())) fun r => sel (decide (((toBytes e.2.1).length +
 r.1.length) * 1 ≤ 140737488355328)) (sel (decide (((toBytes e.2.1 ++ r.1).length + e.1.length) * 1 ≤ 140737488355328)) (some (toBytes e.2.1 ++ r.1 ++ e.1, ())) none) none := by kernel_rfl
noncomputable def G22 (k : Nat) (v : List Int × Unit) : Option (List Int × Unit) := F22 k v
theorem G22_eq (k : Nat) (v0 : List Int) : G22 k (v0, ()) = sel (decide ((2 + v0.length) * 1 ≤ 140737488355328)) (some (IntKind.u8.wrap (IntKind.i64.wrap ((Int.ofNat v0.length).tdiv 256)) :: IntKind.u8.wrap ((Int.ofNat v0.length).tmod 256) :: v0, ())) none := by kernel_rfl
noncomputable def G10 (k : Nat) (v : (Int × List UInt8 × Int × Int × List UInt8 × List UInt8 × Unit) × Unit) : Option (List Int × Unit) := F10 k v
theorem G10_eq (k : Nat) (v0 : Int) (v1 : List UInt8) (v2 v3 : Int) (v4 v5 : List UInt8) : G10 k ((v0, v1, v2, v3, v4, v5, ()), ()) = ocall (G24 k ((v0, v1, v2, v3, v4, v5, ()), ())) fun r => ocall (G23 k ((r.1.1, r.1.2.1, ()), ())) fun r => ocall (G22
 k (r.1, ())) fun r => some (r.1, ()) := by kernel_rfl
noncomputable def G62_3 (k : Nat) (j : Nat) (v : List UInt8 × List (List UInt8) × Int × Unit) : Option (Unit ⊕ Bool × Unit) := F62_3 k j v
theorem G62_3_eq (k : Nat) (j : Nat) (v0 : List UInt8) (v1 : List (List UInt8)) (v2 : Int) : G62_3 k (j + 1) (v0, v1, v2, ()) = sel (decide (v2 < Int.ofNat v1.length)) (sel (decide (0 ≤ v2)) (sel (decide (v2 < Int.ofNat v1.length)) (sel (decide (v2.toNat < v1.length)) (sel (decide (v1.getD
 v2.toNat [] = v0)) (some (Sum.inr (true, ()))) (G62_3 k j (v0, v1, IntKind.i64.wrap (v2 + 1), ()))) none) none) none) (some (Sum.inl ())) := by kernel_rfl
noncomputable def G62 (k : Nat) (v : List UInt8 × Unit) : Option (Bool × Unit) := F62 k v
theorem G62_eq (k : Nat) (v0 : List UInt8) : G62 k (v0, ()) = ocall (G62_3 k k (v0, [[48, 49, 48, 48], [48, 49, 49, 48], [48, 52, 48, 48], [48, 52, 49, 48], [48, 52, 50, 48], [48, 52, 50, 49], [48, 52, 51, 48]], 0, ())) fun e => esel e (fun v => some (false, ())) fun e =>
 some (e.1, ()) := by kernel_rfl
noncomputable def G98_3 (k : Nat) (j : Nat) (v : List Int × Int × Int × Unit) : Option (Int × Unit) := F98_3 k j v
theorem G98_3_eq (k : Nat) (j : Nat) (v0 : List Int) (v1 v2 : Int) : G98_3 k (j + 1) (v0, v1, v2, ()) = sel (decide (v2 < 8)) (sel (decide (0 ≤ v2)) (sel (decide (v2 < Int.ofNat v0.length)) (G98_3 k j (v0, IntKind.u64.wrap (IntKind.u64.wrap (256 * v1) + IntKind.u64.wrap (v0.getD v2.toNat
 0)), IntKind.i64.wrap (v2 + 1), ())) none) none) (some (v1, ())) := by kernel_rfl
noncomputable def G98 (k : Nat) (v : List Int × Unit) : Option (Int × Unit) := F98 k v
theorem G98_eq (k : Nat) (v0 : List Int) : G98 k (v0, ()) = ocall (G98_3 k k (v0, 0, 0, ())) fun e => some (e.1, ()) := by kernel_rfl
noncomputable def G63 (k : Nat) (v : List Int × Unit) : Option ((Int × Int × Unit) × Int × Int × Unit) := F63 k v
theorem G63_eq (k : Nat) (v0 : List Int) : G63 k (v0, ()) = sel (decide (Int.ofNat v0.length < 8)) (some ((0, 0, ()), 0, 2, ())) (sel (decide (0 < Int.ofNat v0.length)) (sel (decide (128 ≤ v0.getD (Int.toNat 0) 0)) (sel (decide (Int.ofNat v0.length < 16)) (some ((0, 0,
 ()), 0, 2, ())) (ocall (G98 k (v0, ())) fun r => sel (decide (0 < Int.ofNat v0.length)) (sel (decide (128 ≤ v0.getD (Int.toNat 0) 0)) (sel (decide (8 ≤ Int.ofNat v0.length)) (sel (decide (Int.ofNat v0.length ≤ Int.ofNat v0.length)) (sel (decide (Int.ofNat v0.length ≤
 Int.ofNat v0.length)) (ocall (G98 k (List.drop (Int.toNat 8) (List.take (Int.ofNat v0.length).toNat v0), ())) fun r_1 => ocall (G82 k ((r.1, r_1.1, ()), ())) fun r_2 => sel (!r_2.1) (some ((0, 0, ()), 0, 3, ())) (some ((r.1, r_1.1, ()), 16, 0,
 ()))) none) none) none) (ocall (G82 k ((r.1, 0, ()), ())) fun r_1 => sel (!r_1.1) (some ((0, 0, ()), 0, 3, ())) (some ((r.1, 0, ()), 8, 0, ())))) none)) (ocall (G98 k (v0, ())) fun r => sel (decide (0 < Int.ofNat v0.length)) (sel
 (decide (128 ≤ v0.getD (Int.toNat 0) 0)) (sel (decide (8 ≤ Int.ofNat v0.length)) (sel (decide (Int.ofNat v0.length ≤ Int.ofNat v0.length)) (sel (decide (Int.ofNat v0.length ≤ Int.ofNat v0.length)) (ocall (G98 k (List.drop (Int.toNat 8) (List.take (Int.ofNat v0.length).toNat v0), ())) fun r_1
 => ocall (G82 k ((r.1, r_1.1, ()), ())) fun r_2 => sel (!r_2.1) (some ((0, 0, ()), 0, 3, ())) (some ((r.1, r_1.1, ()), 16, 0, ()))) none) none) none) (ocall (G82 k ((r.1, 0, ()), ())) fun r_1 => sel (!r_1.1) (some ((0, 0, ()),
 0, 3, ())) (some ((r.1, 0, ()), 8, 0, ())))) none)) none) := by kernel_rfl
noncomputable def G64 (k : Nat) (v : (Int × Int × Unit) × Int × Unit) : Option (Bool × Unit) := F64 k v
theorem G64_eq (k : Nat) (v0 v1 v2 : Int) : G64 k ((v0, v1, ()), v2, ()) = ocall (G83 k (v2, ())) fun r => sel r.1 (ocall (G84 k ((v0, v1, ()), v2, ())) fun r => some (r.1, ())) (some (false, ())) := by kernel_rfl
noncomputable def G68_9 (k : Nat) (j : Nat) (v : List UInt8 × Int × Int × Unit) : Option (Int × Unit) := F68_9 k j v
theorem G68_9_eq (k : Nat) (j : Nat) (v0 : List UInt8) (v1 v2 : Int) : G68_9 k (j + 1) (v0, v1, v2, ()) = sel (decide (v2 < Int.ofNat v0.length)) (sel (decide (0 ≤ v2)) (sel (decide (v2 < Int.ofNat v0.length)) (G68_9 k j (v0, IntKind.u64.wrap (IntKind.u64.wrap (IntKind.u64.wrap (10 * v1) +
 IntKind.u64.wrap (Int.ofNat (v0.getD v2.toNat 0).toNat)) - 48), IntKind.i64.wrap (v2 + 1), ())) none) none) (some (v1, ())) := by kernel_rfl
noncomputable def G68 (k : Nat) (v : List UInt8 × Unit) : Option (Int × Int × Unit) := F68 k v
theorem G68_eq (k : Nat) (v0 : List UInt8) : G68 k (v0, ()) = sel (decide (Int.ofNat v0.length = 0)) (some (0, 2, ())) (sel (decide (19 < Int.ofNat v0.length)) (some (0, 4, ())) (ocall (G43 k (v0, ())) fun r => sel (!r.1) (some (0, 3, ())) (ocall (G68_9 k k
 (v0, 0, 0, ())) fun e => some (e.1, 0, ())))) := by kernel_rfl
noncomputable def G65 (k : Nat) (v : Int × List Int × Unit) : Option (List UInt8 × Int × Int × Unit) := F65 k v
theorem G65_eq (k : Nat) (v0 : Int) (v1 : List Int) : G65 k (v0, v1, ()) = ocall (G41 k (v0, ())) fun r => sel (!r.2.1) (some ([], 0, 5, ())) (ocall (G86 k (r.1.2.1, ())) fun r_1 => sel (decide (0 < r_1.1)) (sel (decide (Int.ofNat v1.length < r_1.1)) (some ([], 0, 2,
 ())) (sel (decide (Int.ofNat 0 ≤ r_1.1)) (sel (decide (r_1.1 ≤ Int.ofNat v1.length)) (sel (decide (Int.ofNat v1.length ≤ Int.ofNat v1.length)) (ocall (G68 k (ofBytes (List.drop (Int.ofNat 0).toNat (List.take r_1.1.toNat v1)), ())) fun r_2 => sel (!decide (r_2.2.1 = 0)) (some ([], 0,
 3, ())) (sel (decide (r_2.1 = 0)) (some ([], 0, 3, ())) (sel (decide (r.1.2.2.1 < IntKind.i64.wrap r_2.1)) (some ([], 0, 4, ())) (sel (decide (IntKind.i64.wrap (Int.ofNat v1.length - r_1.1) < IntKind.i64.wrap r_2.1)) (some ([], 0, 2, ())) (sel (decide (0 ≤ r_1.1))
 (sel (decide (r_1.1 ≤ IntKind.i64.wrap (r_1.1 + IntKind.i64.wrap r_2.1))) (sel (decide (IntKind.i64.wrap (r_1.1 + IntKind.i64.wrap r_2.1) ≤ Int.ofNat v1.length)) (sel (decide (Int.ofNat v1.length ≤ Int.ofNat v1.length)) (ocall (G42 k (r.1.2.1, ofBytes (List.drop r_1.1.toNat (List.take
 (IntKind.i64.wrap (r_1.1 + IntKind.i64.wrap r_2.1)).toNat v1)), ())) fun r => sel (!r.1) (some ([], 0, 3, ())) (some (ofBytes (List.drop r_1.1.toNat (List.take (IntKind.i64.wrap (r_1.1 + IntKind.i64.wrap r_2.1)).toNat v1)), IntKind.i64.wrap (r_1.1 + IntKind.i64.wrap r_2.1), 0,
 ()))) none) none) none) none))))) none) none) none)) (sel (decide (IntKind.i64.wrap (Int.ofNat v1.length - r_1.1) < r.1.2.2.1)) (some ([], 0, 2, ())) (sel (decide (0 ≤ r_1.1)) (sel (decide (r_1.1 ≤ IntKind.i64.wrap (r_1.1 + r.1.2.2.1))) (sel (decide (IntKind.i64.wrap (r_1.1 +
 r.1.2.2.1) ≤ Int.ofNat v1.length)) (sel (decide (Int.ofNat v1.length ≤ Int.ofNat v1.length)) (ocall (G42 k (r.1.2.1, ofBytes (List.drop r_1.1.toNat (List.take (IntKind.i64.wrap (r_1.1 + r.1.2.2.1)).toNat v1)), ())) fun r_2 => sel (!r_2.1) (some ([], 0, 3, ())) (some (ofBytes
 (List.drop r_1.1.toNat (List.take (IntKind.i64.wrap (r_1.1 + r.1.2.2.1)).toNat v1)), IntKind.i64.wrap (r_1.1 + r.1.2.2.1), 0, ()))) none) none) none) none))) := by kernel_rfl
noncomputable def G28_11 (k : Nat) (j : Nat) (v : List Int × Int × Int × List UInt8 × List (Int × List UInt8 × Unit) × Int × Int × List UInt8 × List (Int × List UInt8 × Unit) × Unit) : Option (List Int × Int × List UInt8 × List (Int × List UInt8 × Unit) × List UInt8 × List (Int × List UInt8 ×
 Unit) × Unit ⊕ Int × List UInt8 × List (Int × List UInt8 × Unit) × Unit) := F28_11 k j v
theorem G28_11_eq (k : Nat) (j : Nat) (v0 : List Int) (v1 v2 : Int) (v3 : List UInt8) (v4 : List (Int × List UInt8 × Unit)) (v5 v6 : Int) (v7 : List UInt8) (v8 : List (Int × List UInt8 × Unit)) : G28_11 k (j + 1) (v0, v1, v2, v3, v4, v5, v6, v7, v8, ()) = sel (decide (v2 ≤ 128)) (ocall
 (G64 k ((v5, v6, ()), v2, ())) fun r => sel (!r.1) (G28_11 k j (v0, v1, IntKind.i64.wrap (v2 + 1), v3, v4, v5, v6, v7, v8, ())) (sel (decide (0 ≤ v1)) (sel (decide (v1 ≤ Int.ofNat v0.length)) (sel (decide (Int.ofNat v0.length ≤ Int.ofNat v0.length)) (sel (decide (Int.ofNat
 v0.length ≤ Int.ofNat v0.length)) (ocall (G65 k (v2, List.drop v1.toNat (List.take (Int.ofNat v0.length).toNat v0), ())) fun r => sel (!decide (r.2.2.1 = 0)) (some (Sum.inr (r.2.2.1, [], [], ()))) (sel (decide ((v8.length + 1) * 24 ≤ 140737488355328)) (G28_11 k j (v0,
 IntKind.i64.wrap (v1 + r.2.1), IntKind.i64.wrap (v2 + 1), v3, v4, v5, v6, v7, v8 ++ [(v2, r.1, ())], ())) none)) none) none) none) none)) (some (Sum.inl (v0, v1, v3, v4, v7, v8, ()))) := by kernel_rfl
noncomputable def G28 (k : Nat) (v : List Int × Unit) : Option ((List UInt8 × List (Int × List UInt8 × Unit) × Unit) × Int × Unit) := F28 k v
theorem G28_eq (k : Nat) (v0 : List Int) : G28 k (v0, ()) = sel (decide (Int.ofNat v0.length < 4)) (some (([], [], ()), 2, ())) (sel (decide (4 ≤ Int.ofNat v0.length)) (sel (decide (Int.ofNat v0.length ≤ Int.ofNat v0.length)) (ocall (G62 k (ofBytes (List.drop (Int.ofNat
 0).toNat (List.take (Int.toNat 4) v0)), ())) fun r => sel (!r.1) (some (([], [], ()), 3, ())) (sel (decide (4 ≤ Int.ofNat v0.length)) (sel (decide (Int.ofNat v0.length ≤ Int.ofNat v0.length)) (sel (decide (Int.ofNat v0.length ≤ Int.ofNat v0.length)) (ocall (G63 k (List.drop
 (Int.toNat 4) (List.take (Int.ofNat v0.length).toNat v0), ())) fun r => sel (!decide (r.2.2.1 = 0)) (some (([], [], ()), r.2.2.1, ())) (sel (decide (4 ≤ Int.ofNat v0.length)) (sel (decide (Int.ofNat v0.length ≤ Int.ofNat v0.length)) (ocall (G28_11 k k (v0, IntKind.i64.wrap (4
 + r.2.1), 2, [], [], r.1.1, r.1.2.1, ofBytes (List.drop (Int.ofNat 0).toNat (List.take (Int.toNat 4) v0)), [], ())) fun e => esel e (fun v => sel (decide (Int.ofNat v.2.2.2.2.2.1.length = 0)) (some (([], [], ()), 3, ())) (sel (decide (v.2.1 < Int.ofNat v.1.length)) (some
 (([], [], ()), 4, ())) (some ((v.2.2.2.2.1, v.2.2.2.2.2.1, ()), 0, ())))) fun e => some ((e.2.1, e.2.2.1, ()), e.1, ())) none) none)) none) none) none)) none) none) := by kernel_rfl
noncomputable def G66_4 (k : Nat) (j : Nat) (v : Int × List UInt8 × List (Int × List UInt8 × Unit) × Unit) : Option (Unit ⊕ Bool × Unit) := F66_4 k j v
theorem G66_4_eq (k : Nat) (j : Nat) (v0 : Int) (v1 : List UInt8) (v2 : List (Int × List UInt8 × Unit)) : G66_4 k (j + 1) (v0, v1, v2, ()) = sel (decide (v0 < Int.ofNat v2.length)) (sel (decide (0 ≤ v0)) (sel (decide (v0 < Int.ofNat v2.length)) (sel (decide (0 ≤ v0)) (sel (decide (v0 <
 Int.ofNat v2.length)) (ocall (G19 k ((v2.getD v0.toNat (0, [], ())).1, (v2.getD v0.toNat (0, [], ())).2.1, ())) fun r => sel (!r.1) (some (Sum.inr (false, ()))) (sel (decide (0 < v0)) (sel (decide (0 ≤ v0)) (sel (decide (v0 < Int.ofNat v2.length)) (sel (decide (0 ≤
 IntKind.i64.wrap (v0 - 1))) (sel (decide (IntKind.i64.wrap (v0 - 1) < Int.ofNat v2.length)) (sel (decide ((v2.getD v0.toNat (0, [], ())).1 ≤ (v2.getD (IntKind.i64.wrap (v0 - 1)).toNat (0, [], ())).1)) (some (Sum.inr (false, ()))) (G66_4 k j (IntKind.i64.wrap (v0 + 1), v1, v2,
 ()))) none) none) none) none) (G66_4 k j (IntKind.i64.wrap (v0 + 1), v1, v2, ())))) none) none) none) none) (some (Sum.inl ())) := by kernel_rfl
noncomputable def G66 (k : Nat) (v : (List UInt8 × List (Int × List UInt8 × Unit) × Unit) × Unit) : Option (Bool × Unit) := F66 k v
theorem G66_eq (k : Nat) (v0 : List UInt8) (v1 : List (Int × List UInt8 × Unit)) : G66 k ((v0, v1, ()), ()) = ocall (G62 k (v0, ())) fun r => sel (!r.1) (some (false, ())) (sel (decide (Int.ofNat v1.length = 0)) (some (false, ())) (ocall (G66_4 k k (0, v0,
 v1, ())) fun e => esel e (fun v => some (true, ())) fun e => some (e.1, ()))) := by kernel_rfl
noncomputable def G67 (k : Nat) (v : Int × Unit) : Option (List Int × Unit) := F67 k v
theorem G67_eq (k : Nat) (v0 : Int) : G67 k (v0, ()) = sel (decide (v0 = 5)) (some ([2, 4, 11, 37, 90], ())) (sel (decide (v0 = 6)) (some ([2, 4, 11, 37, 90], ())) (ocall (G20 k (v0, ())) fun r => sel r.1 (some ([2, 4, 11, 37], ())) (some ([11, 37, 39],
 ())))) := by kernel_rfl
noncomputable def G29_5 (k : Nat) (j : Nat) (v : Int × List UInt8 × List (Int × List UInt8 × Unit) × Int × List UInt8 × Int × Int × List UInt8 × List UInt8 × Int × List UInt8 × Int × Int × List UInt8 × List UInt8 × Unit) : Option (List UInt8 × List (Int × List UInt8 × Unit) × Int × List UInt8 ×
 Int × Int × List UInt8 × List UInt8 × Int × List UInt8 × Int × Int × List UInt8 × List UInt8 × Unit) := F29_5 k j v
theorem G29_5_eq (k : Nat) (j : Nat) (v0 : Int) (v1 : List UInt8) (v2 : List (Int × List UInt8 × Unit)) (v3 : Int) (v4 : List UInt8) (v5 v6 : Int) (v7 v8 : List UInt8) (v9 : Int) (v10 : List UInt8) (v11 v12 : Int) (v13 v14 : List UInt8) : G29_5 k (j + 1) (v0, v1, v2, v3, v4, v5, v6, v7, v8, v9,
 v10, v11, v12, v13, v14, ()) = sel (decide (v0 < 7)) (ocall (G47 k ()) fun r => sel (decide (0 ≤ v0)) (sel (decide (v0 < Int.ofNat r.1.length)) (sel (decide (v0.toNat < r.1.length)) (sel (decide (r.1.getD v0.toNat [] = v1)) (G29_5 k j (IntKind.i64.wrap (v0 + 1), v1, v2, v3, v4, v5,
 v6, v7, v8, IntKind.i64.wrap (v0 + 1), v10, v11, v12, v13, v14, ())) (G29_5 k j (IntKind.i64.wrap (v0 + 1), v1, v2, v3, v4, v5, v6, v7, v8, v9, v10, v11, v12, v13, v14, ()))) none) none) none) (some (v1, v2, v3, v4, v5, v6, v7, v8, v9, v10, v11, v12, v13, v14, ())) := by
 kernel_rfl
noncomputable def G29_13 (k : Nat) (j : Nat) (v : List Int × Int × List UInt8 × List (Int × List UInt8 × Unit) × Int × List UInt8 × Int × Int × List UInt8 × List UInt8 × Int × List UInt8 × Int × Int × List UInt8 × List UInt8 × Unit) : Option (List Int × List UInt8 × List (Int × List UInt8 × Unit)
 × Int × List UInt8 × Int × Int × List UInt8 × List UInt8 × Int × List UInt8 × Int × Int × List UInt8 × List UInt8 × Unit ⊕ Int × Int × List UInt8 × Int × Int × List UInt8 × List UInt8 × Unit) := F29_13 k j v
theorem G29_13_eq (k : Nat) (j : Nat) (v0 : List Int) (v1 : Int) (v2 : List UInt8) (v3 : List (Int × List UInt8 × Unit)) (v4 : Int) (v5 : List UInt8) (v6 v7 : Int) (v8 v9 : List UInt8) (v10 : Int) (v11 : List UInt8) (v12 v13 : Int) (v14 v15 : List UInt8) : G29_13 k (j + 1) (v0, v1, v2, v3, v4, v5,
 v6, v7, v8, v9, v10, v11, v12, v13, v14, v15, ()) = sel (decide (v1 < Int.ofNat v0.length)) (sel (decide (0 ≤ v1)) (sel (decide (v1 < Int.ofNat v3.length)) (sel (decide (0 ≤ v1)) (sel (decide (v1 < Int.ofNat v0.length)) (sel (decide (v1.toNat < v0.length)) (sel (!decide ((v3.getD v1.toNat
 (0, [], ())).1 = v0.getD v1.toNat 0)) (some (Sum.inr (3, 0, [], 0, 0, [], [], ()))) (ocall (G68 k ((v3.getD v1.toNat (0, [], ())).2.1, ())) fun r => sel (decide ((v3.getD v1.toNat (0, [], ())).1 = 2)) (G29_13 k j (v0, IntKind.i64.wrap (v1 + 1), v2, v3, v4, v5,
 v6, v7, v8, v9, v10, (v3.getD v1.toNat (0, [], ())).2.1, v12, v13, v14, v15, ())) (sel (decide ((v3.getD v1.toNat (0, [], ())).1 = 4)) (G29_13 k j (v0, IntKind.i64.wrap (v1 + 1), v2, v3, v4, v5, v6, v7, v8, v9, v10, v11, r.1, v13, v14, v15, ())) (sel (decide ((v3.getD
 v1.toNat (0, [], ())).1 = 11)) (G29_13 k j (v0, IntKind.i64.wrap (v1 + 1), v2, v3, v4, v5, v6, v7, v8, v9, v10, v11, v12, IntKind.u32.wrap r.1, v14, v15, ())) (sel (decide ((v3.getD v1.toNat (0, [], ())).1 = 37)) (G29_13 k j (v0, IntKind.i64.wrap (v1 + 1), v2, v3, v4, v5, v6,
 v7, v8, v9, v10, v11, v12, v13, (v3.getD v1.toNat (0, [], ())).2.1, v15, ())) (sel (decide ((v3.getD v1.toNat (0, [], ())).1 = 39)) (G29_13 k j (v0, IntKind.i64.wrap (v1 + 1), v2, v3, v4, v5, v6, v7, v8, v9, v10, v11, v12, v13, v14, (v3.getD v1.toNat (0, [], ())).2.1,
 ())) (G29_13 k j (v0, IntKind.i64.wrap (v1 + 1), v2, v3, v4, v5, v6, v7, v8, v9, v10, v11, v12, v13, v14, v15, ())))))))) none) none) none) none) none) (some (Sum.inl (v0, v2, v3, v4, v5, v6, v7, v8, v9, v10, v11, v12, v13, v14, v15, ()))) := by kernel_rfl
noncomputable def G29 (k : Nat) (v : (List UInt8 × List (Int × List UInt8 × Unit) × Unit) × Unit) : Option ((Int × List UInt8 × Int × Int × List UInt8 × List UInt8 × Unit) × Int × Unit) := F29 k v
theorem G29_eq (k : Nat) (v0 : List UInt8) (v1 : List (Int × List UInt8 × Unit)) : G29 k ((v0, v1, ()), ()) = ocall (G66 k ((v0, v1, ()), ())) fun r => sel (!r.1) (some ((0, [], 0, 0, [], [], ()), 1, ())) (ocall (G29_5 k k (0, v0, v1, 0, [], 0, 0, [],
 [], 0, [], 0, 0, [], [], ())) fun e => ocall (G67 k (e.2.2.2.2.2.2.2.2.1, ())) fun r => sel (!decide (Int.ofNat r.1.length = Int.ofNat e.2.1.length)) (some ((0, [], 0, 0, [], [], ()), 3, ())) (ocall (G29_13 k k (r.1, 0, e.1, e.2.1, e.2.2.1, e.2.2.2.1, e.2.2.2.2.1,
 e.2.2.2.2.2.1, e.2.2.2.2.2.2.1, e.2.2.2.2.2.2.2.1, e.2.2.2.2.2.2.2.2.1, e.2.2.2.2.2.2.2.2.2.1, e.2.2.2.2.2.2.2.2.2.2.1, e.2.2.2.2.2.2.2.2.2.2.2.1, e.2.2.2.2.2.2.2.2.2.2.2.2.1, e.2.2.2.2.2.2.2.2.2.2.2.2.2.1, ())) fun e => esel e (fun v => ocall (G20 k (v.2.2.2.2.2.2.2.2.2.1, ())) fun
 r => sel r.1 (ocall (G21 k (v.2.2.2.2.2.2.2.2.2.2.1, ())) fun r => sel (!r.1) (some ((0, [], 0, 0, [], [], ()), 3, ())) (sel (decide (Int.ofNat v.1.length = 5)) (sel (decide (4 < Int.ofNat v.2.2.1.length)) (sel (decide (2 < Int.ofNat v.2.2.1.length)) (ocall (G49 k
 ((v.2.2.1.getD (Int.toNat 2) (0, [], ())).2.1, ())) fun r => sel (!decide ((v.2.2.1.getD (Int.toNat 4) (0, [], ())).2.1 = r.1)) (some ((0, [], 0, 0, [], [], ()), 11, ())) (some ((v.2.2.2.2.2.2.2.2.2.1, v.2.2.2.2.2.2.2.2.2.2.1, v.2.2.2.2.2.2.2.2.2.2.2.1,
 v.2.2.2.2.2.2.2.2.2.2.2.2.1, v.2.2.2.2.2.2.2.2.2.2.2.2.2.1, v.2.2.2.2.2.2.2.2.2.2.2.2.2.2.1, ()), 0, ()))) none) none) (some ((v.2.2.2.2.2.2.2.2.2.1, v.2.2.2.2.2.2.2.2.2.2.1, v.2.2.2.2.2.2.2.2.2.2.2.1, v.2.2.2.2.2.2.2.2.2.2.2.2.1, v.2.2.2.2.2.2.2.2.2.2.2.2.2.1,
 v.2.2.2.2.2.2.2.2.2.2.2.2.2.2.1, ()), 0, ())))) (sel (decide (Int.ofNat v.1.length = 5)) (sel (decide (4 < Int.ofNat v.2.2.1.length)) (sel (decide (2 < Int.ofNat v.2.2.1.length)) (ocall (G49 k ((v.2.2.1.getD (Int.toNat 2) (0, [], ())).2.1, ())) fun r => sel (!decide
 ((v.2.2.1.getD (Int.toNat 4) (0, [], ())).2.1 = r.1)) (some ((0, [], 0, 0, [], [], ()), 11, ())) (some ((v.2.2.2.2.2.2.2.2.2.1, v.2.2.2.2.2.2.2.2.2.2.1, v.2.2.2.2.2.2.2.2.2.2.2.1, v.2.2.2.2.2.2.2.2.2.2.2.2.1, v.2.2.2.2.2.2.2.2.2.2.2.2.2.1, v.2.2.2.2.2.2.2.2.2.2.2.2.2.2.1,
 ()), 0, ()))) none) none) (some ((v.2.2.2.2.2.2.2.2.2.1, v.2.2.2.2.2.2.2.2.2.2.1, v.2.2.2.2.2.2.2.2.2.2.2.1, v.2.2.2.2.2.2.2.2.2.2.2.2.1, v.2.2.2.2.2.2.2.2.2.2.2.2.2.1, v.2.2.2.2.2.2.2.2.2.2.2.2.2.2.1, ()), 0, ())))) fun e => some ((e.2.1, e.2.2.1, e.2.2.2.1,
 e.2.2.2.2.1, e.2.2.2.2.2.1, e.2.2.2.2.2.2.1, ()), e.1, ()))) := by kernel_rfl
noncomputable def G12 (k : Nat) (v : List Int × Unit) : Option ((Int × List UInt8 × Int × Int × List UInt8 × List UInt8 × Unit) × Int × Unit) := F12 k v
theorem G12_eq (k : Nat) (v0 : List Int) : G12 k (v0, ()) = sel (decide (Int.ofNat v0.length < 3)) (some ((0, [], 0, 0, [], [], ()), 3, ())) (sel (decide (0 < Int.ofNat v0.length)) (sel (decide (1 < Int.ofNat v0.length)) (sel (!decide (IntKind.i64.wrap (IntKind.i64.wrap (256
 * IntKind.i64.wrap (v0.getD (Int.toNat 0) 0)) + IntKind.i64.wrap (v0.getD (Int.toNat 1) 0)) = IntKind.i64.wrap (Int.ofNat v0.length - 2))) (some ((0, [], 0, 0, [], [], ()), 3, ())) (sel (decide (2050 < Int.ofNat v0.length)) (some ((0, [], 0, 0, [], [], ()), 3, ()))
 (sel (decide (2 ≤ Int.ofNat v0.length)) (sel (decide (Int.ofNat v0.length ≤ Int.ofNat v0.length)) (sel (decide (Int.ofNat v0.length ≤ Int.ofNat v0.length)) (ocall (G28 k (List.drop (Int.toNat 2) (List.take (Int.ofNat v0.length).toNat v0), ())) fun r => sel (!decide (r.2.1 = 0)) (some ((0,
 [], 0, 0, [], [], ()), r.2.1, ())) (ocall (G29 k ((r.1.1, r.1.2.1, ()), ())) fun r => some ((r.1.1, r.1.2.1, r.1.2.2.1, r.1.2.2.2.1, r.1.2.2.2.2.1, r.1.2.2.2.2.2.1, ()), r.2.1, ()))) none) none) none))) none) none) := by kernel_rfl
noncomputable def G72 (k : Nat) (v : (Int × List (List Int) × Unit) × Unit) : Option (Bool × Unit) := F72 k v
theorem G72_eq (k : Nat) (v0 : Int) (v1 : List (List Int)) : G72 k ((v0, v1, ()), ()) = sel (decide (0 < v0)) (sel (decide (v0 < 65)) (some (decide (Int.ofNat v1.length ≤ v0), ())) (some (false, ()))) (some (false, ())) := by kernel_rfl
noncomputable def G31 (k : Nat) (v : (Int × List (List Int) × Unit) × List (List Int) × Unit) : Option ((Int × List (List Int) × Unit) × Int × Unit) := F31 k v
theorem G31_eq (k : Nat) (v0 : Int) (v1 v2 : List (List Int)) : G31 k ((v0, v1, ()), v2, ()) = ocall (G72 k ((v0, v1, ()), ())) fun r => sel (!r.1) (some ((v0, v1, ()), 1, ())) (sel (decide (v0 < IntKind.i64.wrap (Int.ofNat v1.length + Int.ofNat
 v2.length))) (some ((v0, v1, ()), 7, ())) (sel (decide ((0 + v1.length) * 24 ≤ 140737488355328)) (sel (decide ((v1.length + v2.length) * 24 ≤ 140737488355328)) (some ((v0, v1 ++ v2, ()), 0, ())) none) none)) := by kernel_rfl
noncomputable def G14_3 (k : Nat) (j : Nat) (v : List (Int × List UInt8 × Int × Int × List UInt8 × List UInt8 × Unit) × List (List Int) × Int × Int × List (List Int) × Int × List (List Int) × Unit) : Option (List (List Int) × Int × List (List Int) × Int × List (List Int) × Unit ⊕ Int × Int × List
 (List Int) × Unit) := F14_3 k j v
theorem G14_3_eq (k : Nat) (j : Nat) (v0 : List (Int × List UInt8 × Int × Int × List UInt8 × List UInt8 × Unit)) (v1 : List (List Int)) (v2 v3 : Int) (v4 : List (List Int)) (v5 : Int) (v6 : List (List Int)) : G14_3 k (j + 1) (v0, v1, v2, v3, v4, v5, v6, ()) = sel (decide (v2 < Int.ofNat
 v0.length)) (sel (decide (0 ≤ v2)) (sel (decide (v2 < Int.ofNat v0.length)) (ocall (G9 k (((v0.getD v2.toNat (0, [], 0, 0, [], [], ())).1, (v0.getD v2.toNat (0, [], 0, 0, [], [], ())).2.1, (v0.getD v2.toNat (0, [], 0, 0, [], [], ())).2.2.1, (v0.getD v2.toNat (0, [], 0, 0, [],
 [], ())).2.2.2.1, (v0.getD v2.toNat (0, [], 0, 0, [], [], ())).2.2.2.2.1, (v0.getD v2.toNat (0, [], 0, 0, [], [], ())).2.2.2.2.2.1, ()), ())) fun r => sel (!r.1) (some (Sum.inr (1, v3, v4, ()))) (sel (decide (0 ≤ v2)) (sel (decide (v2 < Int.ofNat
 v0.length)) (ocall (G10 k (((v0.getD v2.toNat (0, [], 0, 0, [], [], ())).1, (v0.getD v2.toNat (0, [], 0, 0, [], [], ())).2.1, (v0.getD v2.toNat (0, [], 0, 0, [], [], ())).2.2.1, (v0.getD v2.toNat (0, [], 0, 0, [], [], ())).2.2.2.1, (v0.getD v2.toNat (0, [], 0, 0, [],
 [], ())).2.2.2.2.1, (v0.getD v2.toNat (0, [], 0, 0, [], [], ())).2.2.2.2.2.1, ()), ())) fun r => sel (decide ((v1.length + 1) * 24 ≤ 140737488355328)) (G14_3 k j (v0, v1 ++ [r.1], IntKind.i64.wrap (v2 + 1), v3, v4, v5, v6, ())) none) none) none)) none) none)
 (some (Sum.inl (v1, v3, v4, v5, v6, ()))) := by kernel_rfl
noncomputable def G14 (k : Nat) (v : (Int × List (List Int) × Unit) × List (Int × List UInt8 × Int × Int × List UInt8 × List UInt8 × Unit) × Unit) : Option ((Int × List (List Int) × Unit) × Int × Unit) := F14 k v
theorem G14_eq (k : Nat) (v0 : Int) (v1 : List (List Int)) (v2 : List (Int × List UInt8 × Int × Int × List UInt8 × List UInt8 × Unit)) : G14 k ((v0, v1, ()), v2, ()) = ocall (G14_3 k k (v2, [], 0, v0, v1, 0, [], ())) fun e => esel e (fun v => ocall (G31 k ((v.2.1, v.2.2.1,
 ()), v.1, ())) fun r => some ((r.1.1, r.1.2.1, ()), r.2.1, ())) fun e => some ((e.2.1, e.2.2.1, ()), e.1, ()) := by kernel_rfl
noncomputable def G32_4 (k : Nat) (j : Nat) (v : List (List Int) × List (List Int) × Int × Unit) : Option (Unit ⊕ Bool × Unit) := F32_4 k j v
theorem G32_4_eq (k : Nat) (j : Nat) (v0 v1 : List (List Int)) (v2 : Int) : G32_4 k (j + 1) (v0, v1, v2, ()) = sel (decide (v2 < Int.ofNat v0.length)) (sel (decide (0 ≤ v2)) (sel (decide (v2 < Int.ofNat v0.length)) (sel (decide (0 ≤ v2)) (sel (decide (v2 < Int.ofNat v1.length)) (sel (!decide
 (ofBytes (v0.getD v2.toNat []) = ofBytes (v1.getD v2.toNat []))) (some (Sum.inr (false, ()))) (G32_4 k j (v0, v1, IntKind.i64.wrap (v2 + 1), ()))) none) none) none) none) (some (Sum.inl ())) := by kernel_rfl
noncomputable def G32 (k : Nat) (v : List (List Int) × List (List Int) × Unit) : Option (Bool × Unit) := F32 k v
theorem G32_eq (k : Nat) (v0 v1 : List (List Int)) : G32 k (v0, v1, ()) = sel (!decide (Int.ofNat v0.length = Int.ofNat v1.length)) (some (false, ())) (ocall (G32_4 k k (v0, v1, 0, ())) fun e => esel e (fun v => some (true, ())) fun e => some (e.1, ())) := by
 kernel_rfl
noncomputable def G15 (k : Nat) (v : (Int × List (List Int) × Unit) × (Int × List (List Int) × Unit) × Unit) : Option (Bool × Unit) := F15 k v
theorem G15_eq (k : Nat) (v0 : Int) (v1 : List (List Int)) (v2 : Int) (v3 : List (List Int)) : G15 k ((v0, v1, ()), (v2, v3, ()), ()) = sel (decide (v0 = v2)) (ocall (G32 k (v1, v3, ())) fun r => some (r.1, ())) (some (false, ())) := by kernel_rfl
noncomputable def G3 (k : Nat) (v : (Int × List UInt8 × Int × Int × List UInt8 × List UInt8 × Unit) × List Int × (Int × List (List Int) × Unit) × List (Int × List UInt8 × Int × Int × List UInt8 × List UInt8 × Unit) × Unit) : Option (Bool × Unit) := F3 k v
theorem G3_eq (k : Nat) (v0 : Int) (v1 : List UInt8) (v2 v3 : Int) (v4 v5 : List UInt8) (v6 : List Int) (v7 : Int) (v8 : List (List Int)) (v9 : List (Int × List UInt8 × Int × Int × List UInt8 × List UInt8 × Unit)) : G3 k ((v0, v1, v2, v3, v4, v5, ()), v6, (v7, v8, ()), v9,
 ()) = ocall (G4 k ()) fun r => sel (!r.1) (some (false, ())) (ocall (G5 k ((v0, v1, v2, v3, v4, v5, ()), ())) fun r => sel (!r.1) (some (true, ())) (sel (decide (3000 < Int.ofNat v6.length)) (some (true, ())) (ocall (G6 k (v8, ())) fun
 r => sel (!r.1) (some (true, ())) (ocall (G7 k (v9, 300, ())) fun r => sel (!r.1) (some (true, ())) (ocall (G8 k ((v0, v1, v2, v3, v4, v5, ()), ())) fun r => ocall (G9 k ((v0, v1, v2, v3, v4, v5, ()), ())) fun r_1 => sel r_1.1 (sel (!decide
 (r.2.1 = 0)) (some (false, ())) (ocall (G10 k ((v0, v1, v2, v3, v4, v5, ()), ())) fun r_2 => sel (!decide (ofBytes r.1 = ofBytes r_2.1)) (some (false, ())) (ocall (G9 k ((v0, v1, v2, v3, v4, v5, ()), ())) fun r_3 => sel (!r_3.1) (sel (!decide (r.2.1 =
 1)) (some (false, ())) (sel (!decide (Int.ofNat r.1.length = 0)) (some (false, ())) (ocall (G11 k (v6, ())) fun r => ocall (G12 k (v6, ())) fun r_4 => ocall (G13 k ((v7, v8, ()), v9, ())) fun r_5 => ocall (G14 k ((v7, v8, ()), v9, ()))
 fun r_6 => sel (sameI r.1.1 r_4.1.1 && (sameS r.1.2.1 r_4.1.2.1 && (sameI r.1.2.2.1 r_4.1.2.2.1 && (sameI r.1.2.2.2.1 r_4.1.2.2.2.1 && (sameS r.1.2.2.2.2.1 r_4.1.2.2.2.2.1 && (sameS r.1.2.2.2.2.2.1 r_4.1.2.2.2.2.2.1 && true)))))) (sel (decide (r.2.1 = r_4.2.1)) (ocall (G15 k ((r_5.1.1, r_5.1.2.1,
 ()), (r_6.1.1, r_6.1.2.1, ()), ())) fun r => sel r.1 (some (decide (r_5.2.1 = r_6.2.1), ())) (some (false, ()))) (some (false, ()))) (some (false, ()))))) (ocall (G11 k (v6, ())) fun r => ocall (G12 k (v6, ())) fun r_4 => ocall
 (G13 k ((v7, v8, ()), v9, ())) fun r_5 => ocall (G14 k ((v7, v8, ()), v9, ())) fun r_6 => sel (sameI r.1.1 r_4.1.1 && (sameS r.1.2.1 r_4.1.2.1 && (sameI r.1.2.2.1 r_4.1.2.2.1 && (sameI r.1.2.2.2.1 r_4.1.2.2.2.1 && (sameS r.1.2.2.2.2.1 r_4.1.2.2.2.2.1 && (sameS
 r.1.2.2.2.2.2.1 r_4.1.2.2.2.2.2.1 && true)))))) (sel (decide (r.2.1 = r_4.2.1)) (ocall (G15 k ((r_5.1.1, r_5.1.2.1, ()), (r_6.1.1, r_6.1.2.1, ()), ())) fun r => sel r.1 (some (decide (r_5.2.1 = r_6.2.1), ())) (some (false, ()))) (some (false, ())))
 (some (false, ())))))) (ocall (G9 k ((v0, v1, v2, v3, v4, v5, ()), ())) fun r_2 => sel (!r_2.1) (sel (!decide (r.2.1 = 1)) (some (false, ())) (sel (!decide (Int.ofNat r.1.length = 0)) (some (false, ())) (ocall (G11 k (v6, ())) fun r => ocall (G12 k
 (v6, ())) fun r_3 => ocall (G13 k ((v7, v8, ()), v9, ())) fun r_4 => ocall (G14 k ((v7, v8, ()), v9, ())) fun r_5 => sel (sameI r.1.1 r_3.1.1 && (sameS r.1.2.1 r_3.1.2.1 && (sameI r.1.2.2.1 r_3.1.2.2.1 && (sameI r.1.2.2.2.1 r_3.1.2.2.2.1 && (sameS
 r.1.2.2.2.2.1 r_3.1.2.2.2.2.1 && (sameS r.1.2.2.2.2.2.1 r_3.1.2.2.2.2.2.1 && true)))))) (sel (decide (r.2.1 = r_3.2.1)) (ocall (G15 k ((r_4.1.1, r_4.1.2.1, ()), (r_5.1.1, r_5.1.2.1, ()), ())) fun r => sel r.1 (some (decide (r_4.2.1 = r_5.2.1), ())) (some (false,
 ()))) (some (false, ()))) (some (false, ()))))) (ocall (G11 k (v6, ())) fun r => ocall (G12 k (v6, ())) fun r_3 => ocall (G13 k ((v7, v8, ()), v9, ())) fun r_4 => ocall (G14 k ((v7, v8, ()), v9, ())) fun r_5 => sel (sameI r.1.1
 r_3.1.1 && (sameS r.1.2.1 r_3.1.2.1 && (sameI r.1.2.2.1 r_3.1.2.2.1 && (sameI r.1.2.2.2.1 r_3.1.2.2.2.1 && (sameS r.1.2.2.2.2.1 r_3.1.2.2.2.2.1 && (sameS r.1.2.2.2.2.2.1 r_3.1.2.2.2.2.2.1 && true)))))) (sel (decide (r.2.1 = r_3.2.1)) (ocall (G15 k ((r_4.1.1, r_4.1.2.1, ()), (r_5.1.1,
 r_5.1.2.1, ()), ())) fun r => sel r.1 (some (decide (r_4.2.1 = r_5.2.1), ())) (some (false, ()))) (some (false, ()))) (some (false, ()))))))))) := by kernel_rfl
end Go.Proofs.YtjgnpmdbkgeakaaGreatDoor.G
end
section
set_option linter.unusedVariables false
set_option linter.unusedSimpArgs false
namespace Go.Proofs.YtjgnpmdbkgeakaaGreatDoor.G
open Go Go.Proofs.YtjgnpmdbkgeakaaGreatDoor Th
def dgt (c : UInt8) : Bool := decide (48 ≤ c.toNat) && decide (c.toNat ≤ 57)
def isDig (s : List UInt8) : Bool := decide (0 < s.length) && s.all dgt
theorem dgt_iff {c : UInt8} : dgt c = true ↔ 48 ≤ c.toNat ∧ c.toNat ≤ 57 := by simp [dgt]
theorem drop_at {α : Type} {s : List α} {i : Nat} (h : i < s.length) : s.drop i = s[i] :: s.drop (i + 1) := List.drop_eq_getElem_cons h
theorem G96_g0_is (k : Nat) (s : List UInt8) (hs : s.length ≤ maxLen) : ∀ (j i : Nat), i + j = s.length → ∀ n, j < n → G96_g0 k n (s, (i : Int), ()) = some (decide (0 < s.length) && (s.drop i).all dgt, ()) := by
  rw [maxLen_eq] at hs
  intro j
  induction j with
  | zero =>
    intro i hij n hn
    obtain ⟨n, rfl⟩ : ∃ m, n = m + 1 := ⟨n - 1, by omega⟩
    rw [G96_g0_eq, sel_pos (by simp only [ofNat_len]; omega)]
    rw [List.drop_eq_nil_of_le (by omega)]
    have : decide ((0 : Int) < (i : Int)) = decide (0 < s.length) := decide_eq_decide.2 (by omega)
    simp only [this, List.all_nil, Bool.and_true]
  | succ j ih =>
    intro i hij n hn
    obtain ⟨n, rfl⟩ : ∃ m, n = m + 1 := ⟨n - 1, by omega⟩
    have hlt : i < s.length := by omega
    rw [G96_g0_eq]
    simp only [ofNat_len, Int.toNat_natCast, getD_of hlt, Int.ofNat_eq_natCast]
    rw [sel_neg (by omega), sel_pos (by omega), sel_pos (by omega)]
    rw [drop_at hlt, List.all_cons]
    have hp : decide (0 < s.length) = true := by simp; omega
    by_cases c1 : ((s[i]).toNat : Int) < 48
    · rw [sel_pos c1]
      have : dgt s[i] = false := by rw [Bool.eq_false_iff, Ne, dgt_iff]; omega
      simp [this]
    · rw [sel_neg c1, sel_pos (by omega), sel_pos (by omega)]
      by_cases c2 : (57 : Int) < ((s[i]).toNat : Int)
      · rw [sel_pos c2]
        have : dgt s[i] = false := by rw [Bool.eq_false_iff, Ne, dgt_iff]; omega
        simp [this]
      · rw [sel_neg c2]
        have : dgt s[i] = true := by rw [dgt_iff]; omega
        rw [this, wrap64 (by omega) (by omega)]
        have := ih (i + 1) (by omega) n (by omega)
        simpa using this
theorem G96_is (k : Nat) (s : List UInt8) (hs : s.length ≤ maxLen) (hk : s.length < k) : G96 k (s, ()) = some (isDig s, ()) := by
  have hs' := hs
  rw [maxLen_eq] at hs'
  rw [G96_eq]
  simp only [ofNat_len, isDig]
  cases hs0 : s with
  | nil => rfl
  | cons c t =>
    rw [← hs0]
    have hlt : 0 < s.length := by rw [hs0]; simp
    simp only [Int.ofNat_eq_natCast, show Int.toNat (0 : Int) = 0 from rfl, getD_of hlt]
    rw [sel_neg (by omega), sel_pos (by omega)]
    have hp : decide (0 < s.length) = true := by simp; omega
    have hd := drop_at hlt
    rw [List.drop_zero] at hd
    rw [hp, Bool.true_and]
    have e0 : s.all dgt = (dgt s[0] && (s.drop 1).all dgt) := by
      conv => lhs; rw [hd]
      rw [List.all_cons]
    rw [e0]
    by_cases c1 : ((s[0]).toNat : Int) < 48
    · rw [sel_pos c1]
      have : dgt s[0] = false := by rw [Bool.eq_false_iff, Ne, dgt_iff]; omega
      rw [this]; rfl
    · rw [sel_neg c1, sel_pos (by omega)]
      by_cases c2 : (57 : Int) < ((s[0]).toNat : Int)
      · rw [sel_pos c2]
        have : dgt s[0] = false := by rw [Bool.eq_false_iff, Ne, dgt_iff]; omega
        rw [this]; rfl
      · rw [sel_neg c2]
        have : dgt s[0] = true := by rw [dgt_iff]; omega
        rw [this, wrap64 (by omega) (by omega)]
        have := G96_g0_is k s hs (s.length - 1) 1 (by omega) k (by omega)
        rw [show ((0 : Int) + 1) = ((1 : Nat) : Int) from rfl, this, hp]
        simp
theorem G43_2_is (k : Nat) (s : List UInt8) (hs : s.length ≤ maxLen) : ∀ (j i : Nat), i + j = s.length → ∀ n, j < n → G43_2 k n (s, (i : Int), ()) = some (if (s.drop i).all dgt = true then .inl (s, ()) else .inr (false, ())) := by
  rw [maxLen_eq] at hs
  intro j
  induction j with
  | zero =>
    intro i hij n hn
    obtain ⟨n, rfl⟩ : ∃ m, n = m + 1 := ⟨n - 1, by omega⟩
    rw [G43_2_eq, sel_neg (by simp only [ofNat_len]; omega)]
    rw [List.drop_eq_nil_of_le (by omega)]
    rfl
  | succ j ih =>
    intro i hij n hn
    obtain ⟨n, rfl⟩ : ∃ m, n = m + 1 := ⟨n - 1, by omega⟩
    have hlt : i < s.length := by omega
    rw [G43_2_eq]
    simp only [ofNat_len, Int.toNat_natCast, getD_of hlt, Int.ofNat_eq_natCast]
    rw [sel_pos (by omega), sel_pos (by omega), sel_pos (by omega)]
    rw [drop_at hlt, List.all_cons]
    by_cases c1 : ((s[i]).toNat : Int) < 48
    · rw [sel_pos c1]
      have : dgt s[i] = false := by rw [Bool.eq_false_iff, Ne, dgt_iff]; omega
      simp [this]
    · rw [sel_neg c1, sel_pos (by omega), sel_pos (by omega)]
      by_cases c2 : (57 : Int) < ((s[i]).toNat : Int)
      · rw [sel_pos c2]
        have : dgt s[i] = false := by rw [Bool.eq_false_iff, Ne, dgt_iff]; omega
        simp [this]
      · rw [sel_neg c2]
        have : dgt s[i] = true := by rw [dgt_iff]; omega
        rw [this, wrap64 (by omega) (by omega), Bool.true_and]
        exact ih (i + 1) (by omega) n (by omega)
theorem G43_is (k : Nat) (s : List UInt8) (hs : s.length ≤ maxLen) (hk : s.length < k) : G43 k (s, ()) = some (isDig s, ()) := by
  rw [G43_eq]
  have := G43_2_is k s hs s.length 0 (by omega) k hk
  rw [List.drop_zero] at this
  simp only [Int.natCast_zero] at this
  rw [this, ocall_some]
  by_cases h : s.all dgt = true
  · rw [if_pos h, esel_inl]
    simp only [isDig, h, Bool.and_true, ofNat_len]
    have : (0 : Int) < (s.length : Int) ↔ 0 < s.length := by omega
    simp [this]
  · rw [if_neg h, esel_inr]
    simp [isDig, h]
def digs (v : Nat) : Nat → List UInt8
  | 0 => []
  | n + 1 => digs (v / 10) n ++ [UInt8.ofNat (48 + v % 10)]
theorem digs_len (n : Nat) : ∀ v, (digs v n).length = n := by
  induction n with
  | zero => intro v; rfl
  | succ n ih => intro v; simp [digs, ih]
theorem chr_toNat {n : Nat} (h : n < 256) : (UInt8.ofNat n).toNat = n := by rw [UInt8.toNat_ofNat']; omega
theorem ofBytes_append (a b : List Int) : ofBytes (a ++ b) = ofBytes a ++ ofBytes b := by simp [ofBytes]
theorem G73_5_is (k : Nat) : ∀ (i : Nat) (v : Nat) (pre post : List Int), v < 18446744073709551616 → pre.length = i → i ≤ 19 → ∀ n, i < n →
    ∃ mid, mid.length = i ∧ G73_5 k n ((v : Int), pre ++ post, (i : Int) - 1, ()) = some (((v / 10 ^ i : Nat) : Int), mid ++ post, ()) ∧ ofBytes mid = digs v i := by
  intro i
  induction i with
  | zero =>
    intro v pre post hv hp hi n hn
    obtain ⟨n, rfl⟩ : ∃ m, n = m + 1 := ⟨n - 1, by omega⟩
    have : pre = [] := List.length_eq_zero_iff.1 hp
    subst this
    refine ⟨[], rfl, ?_, rfl⟩
    rw [G73_5_eq, sel_neg (by (try simp only []); omega)]
    simp
  | succ i ih =>
    intro v pre post hv hp hi n hn
    obtain ⟨n, rfl⟩ : ∃ m, n = m + 1 := ⟨n - 1, by omega⟩
    obtain ⟨pre', x, rfl⟩ : ∃ p x, pre = p ++ [x] := ⟨pre.dropLast, pre.getLast (by intro h; rw [h] at hp; simp at hp), (List.dropLast_concat_getLast _).symm⟩
    have hp' : pre'.length = i := by simpa using hp
    have hd : v % 10 < 10 := Nat.mod_lt _ (by omega)
    have e1 : ((v : Int)).tdiv 10 = ((v / 10 : Nat) : Int) := by simp [Int.tdiv_eq_ediv_of_nonneg]
    have e2 : ((v : Int)).tmod 10 = ((v % 10 : Nat) : Int) := by simp [Int.tmod_eq_emod_of_nonneg]
    have e3 : (((i + 1 : Nat) : Int) - 1) = (i : Int) := by omega
    rw [G73_5_eq]
    simp only [e1, e2, e3, ofNat_len, Int.toNat_natCast]
    rw [sel_pos (by omega), sel_pos (by omega), sel_pos (by simp; omega), sel_pos (by simp; omega)]
    have w1 : IntKind.u64.wrap ((v / 10 : Nat) : Int) = ((v / 10 : Nat) : Int) := wrapu64 (by omega) (by omega)
    have w2 : IntKind.u8.wrap ((v % 10 : Nat) : Int) = ((v % 10 : Nat) : Int) := wrapu8 (by omega) (by omega)
    have w3 : IntKind.u8.wrap (48 + ((v % 10 : Nat) : Int)) = 48 + ((v % 10 : Nat) : Int) := wrapu8 (by omega) (by omega)
    have w4 : IntKind.i64.wrap ((i : Int) - 1) = (i : Int) - 1 := wrap64 (by omega) (by omega)
    rw [w1, w2, w3, w4]
    have hset : (pre' ++ [x] ++ post).set i (48 + ((v % 10 : Nat) : Int)) = pre' ++ ((48 + ((v % 10 : Nat) : Int)) :: post) := by
      rw [List.append_assoc, List.set_append_right _ _ (by omega)]
      simp [hp']
    rw [hset]
    obtain ⟨mid, m1, m2, m3⟩ := ih (v / 10) pre' ((48 + ((v % 10 : Nat) : Int)) :: post) (by omega) hp' (by omega) n (by omega)
    refine ⟨mid ++ [48 + ((v % 10 : Nat) : Int)], by simp [m1], ?_, ?_⟩
    · rw [m2, Nat.div_div_eq_div_mul, Nat.pow_succ, Nat.mul_comm (10 ^ i) 10]
      simp
    · rw [ofBytes_append, m3, digs]
      have : (48 + ((v % 10 : Nat) : Int)).toNat = 48 + v % 10 := by omega
      show _ ++ [UInt8.ofNat (48 + ((v % 10 : Nat) : Int)).toNat] = _
      rw [this]
def putOK (v : Nat) (n : Int) : List UInt8 × Int :=
  if n < 1 ∨ 19 < n then ([], 1) else if v / 10 ^ n.toNat = 0 then (digs v n.toNat, 0) else ([], 10)
theorem G73_is (k : Nat) (hk : 20 < k) (v : Nat) (n : Int) (hv : v < 18446744073709551616) : G73 k ((v : Int), n, ()) = some ((putOK v n).1, (putOK v n).2, ()) := by
  rw [G73_eq]
  unfold putOK
  by_cases c1 : n < 1
  · rw [sel_pos c1, if_pos (.inl c1)]
  rw [sel_neg c1]
  by_cases c2 : 19 < n
  · rw [sel_pos c2, if_pos (.inr c2)]
  rw [sel_neg c2, if_neg (by omega)]
  obtain ⟨m, rfl⟩ : ∃ m : Nat, n = (m : Int) := ⟨n.toNat, by omega⟩
  simp only [Int.toNat_natCast]
  rw [sel_pos (by omega), sel_pos (by omega), sel_pos (by omega), sel_pos (by simp only [Int.ofNat_eq_natCast]; omega)]
  obtain ⟨mid, m1, m2, m3⟩ := G73_5_is k m v (List.replicate m 0) [] hv (by simp) (by omega) k (by omega)
  rw [wrap64 (by omega) (by omega)]
  simp only [List.append_nil] at m2
  have m2' : G73_5 k k ((v : Int), List.replicate m (OfNat.ofNat (0 : Nat)), (m : Int) - 1, ()) = some (((v / 10 ^ m : Nat) : Int), mid, ()) := m2
  rw [m2', ocall_some]
  generalize v / 10 ^ m = q
  by_cases c3 : q = 0
  · rw [sel_neg (by simp only [c3]; omega), if_pos c3, m3]
  · rw [sel_pos (by (try simp only []); omega), if_neg c3]
theorem G88_5_is (k : Nat) (N : Nat) (hN : N ≤ 19) : ∀ (j i : Nat) (v : Nat) (t : List UInt8), i + j = N → t.length ≤ 100 - j → v < 18446744073709551616 → ∀ n, j < n → G88_5 k n ((v : Int), (N : Int), t, (i : Int), ()) = some (((v / 10 ^ j : Nat) : Int), digs v j ++ t, ()) := by
  intro j
  induction j with
  | zero =>
    intro i v t hij ht hv n hn
    obtain ⟨n, rfl⟩ : ∃ m, n = m + 1 := ⟨n - 1, by omega⟩
    rw [G88_5_eq, sel_neg (by (try simp only []); omega)]
    simp [digs]
  | succ j ih =>
    intro i v t hij ht hv n hn
    obtain ⟨n, rfl⟩ : ∃ m, n = m + 1 := ⟨n - 1, by omega⟩
    have hd : v % 10 < 10 := Nat.mod_lt _ (by omega)
    have e1 : ((v : Int)).tdiv 10 = ((v / 10 : Nat) : Int) := by simp [Int.tdiv_eq_ediv_of_nonneg]
    have e2 : ((v : Int)).tmod 10 = ((v % 10 : Nat) : Int) := by simp [Int.tmod_eq_emod_of_nonneg]
    have w1 : IntKind.u64.wrap ((v / 10 : Nat) : Int) = ((v / 10 : Nat) : Int) := wrapu64 (by omega) (by omega)
    have w2 : IntKind.u64.wrap (48 + ((v % 10 : Nat) : Int)) = 48 + ((v % 10 : Nat) : Int) := wrapu64 (by omega) (by omega)
    have w3 : IntKind.u8.wrap (48 + ((v % 10 : Nat) : Int)) = 48 + ((v % 10 : Nat) : Int) := wrapu8 (by omega) (by omega)
    have e4 : ofBytes [48 + ((v % 10 : Nat) : Int)] = [UInt8.ofNat (48 + v % 10)] := by
      have : (48 + ((v % 10 : Nat) : Int)).toNat = 48 + v % 10 := by omega
      show [UInt8.ofNat (48 + ((v % 10 : Nat) : Int)).toNat] = _
      rw [this]
    rw [G88_5_eq]
    simp only [e1, e2, w1, w2, w3, e4]
    rw [sel_pos (by omega), sel_pos (by simp; omega), wrap64 (by omega) (by omega)]
    have := ih (i + 1) (v / 10) (UInt8.ofNat (48 + v % 10) :: t) (by omega) (by simp; omega) (by omega) n (by omega)
    rw [Nat.div_div_eq_div_mul, Nat.mul_comm 10, ← Nat.pow_succ] at this
    rw [digs, List.append_assoc]
    exact this
theorem G88_is (k : Nat) (hk : 20 < k) (v : Nat) (n : Int) (hv : v < 18446744073709551616) : G88 k ((v : Int), n, ()) = some ((putOK v n).1, (putOK v n).2, ()) := by
  rw [G88_eq]
  unfold putOK
  by_cases c1 : n < 1
  · rw [sel_pos c1, if_pos (.inl c1)]
  rw [sel_neg c1]
  by_cases c2 : 19 < n
  · rw [sel_pos c2, if_pos (.inr c2)]
  rw [sel_neg c2, if_neg (by omega)]
  obtain ⟨m, rfl⟩ : ∃ m : Nat, n = (m : Int) := ⟨n.toNat, by omega⟩
  simp only [Int.toNat_natCast]
  have := G88_5_is k m (by omega) m 0 v [] (by omega) (by simp) hv k (by omega)
  simp only [Int.natCast_zero, List.append_nil] at this
  rw [this, ocall_some]
  generalize v / 10 ^ m = q
  by_cases c3 : q = 0
  · subst c3
    rw [if_pos rfl]
    rfl
  · rw [if_neg c3]
    have : ¬ (q : Int) = 0 := by omega
    simp only [this, decide_false, Bool.not_false, sel_true]
def val (a : Nat) (s : List UInt8) : Nat := s.foldl (fun a c => 10 * a + (c.toNat - 48)) a
theorem val_cons (a : Nat) (c : UInt8) (s : List UInt8) : val a (c :: s) = val (10 * a + (c.toNat - 48)) s := by unfold val; rw [List.foldl_cons]
theorem pow_le19 {i : Nat} (h : i ≤ 19) : 10 ^ i ≤ 10 ^ 19 := Nat.pow_le_pow_right (by omega) h
theorem G93_9_is (k : Nat) (s : List UInt8) (hs : s.length ≤ 19) (hd : s.all dgt = true) : ∀ (j i a : Nat), i + j = s.length → a < 10 ^ i → ∀ n, j < n →
    G93_9 k n ((a : Int), toBytes s, ((toBytes s).length : Int), (i : Int), ()) = some ((val a (s.drop i) : Int), ()) := by
  have hl : (toBytes s).length = s.length := by simp [toBytes]
  intro j
  induction j with
  | zero =>
    intro i a hij ha n hn
    obtain ⟨n, rfl⟩ : ∃ m, n = m + 1 := ⟨n - 1, by omega⟩
    rw [G93_9_eq, sel_neg (by simp only [hl]; omega), List.drop_eq_nil_of_le (by omega)]
    rfl
  | succ j ih =>
    intro i a hij ha n hn
    obtain ⟨n, rfl⟩ : ∃ m, n = m + 1 := ⟨n - 1, by omega⟩
    have hlt : i < s.length := by omega
    have hc := List.all_eq_true.1 hd s[i] (List.getElem_mem _)
    rw [dgt_iff] at hc
    have hg : (toBytes s).getD i (OfNat.ofNat 0) = ((s[i]).toNat : Int) := by rw [getD_of (by omega)]; simp [toBytes]
    have hp : 10 ^ i * 10 ≤ 10 ^ 19 := by rw [← Nat.pow_succ]; exact pow_le19 (by omega)
    have hp' : a + 1 ≤ 10 ^ i := ha
    have hp2 : (a + 1) * 10 ≤ 10 ^ i * 10 := Nat.mul_le_mul_right _ hp'
    rw [G93_9_eq]
    simp only [Int.toNat_natCast, hg, ofNat_len, hl]
    have w1 : IntKind.u8.wrap (((s[i]).toNat : Int) - 48) = (((s[i]).toNat - 48 : Nat) : Int) := by rw [wrapu8 (by omega) (by omega)]; omega
    have w2 : IntKind.u64.wrap (((s[i]).toNat - 48 : Nat) : Int) = (((s[i]).toNat - 48 : Nat) : Int) := wrapu64 (by omega) (by omega)
    have w3 : IntKind.u64.wrap (10 * (a : Int)) = 10 * (a : Int) := wrapu64 (by omega) (by omega)
    have w4 : IntKind.u64.wrap (10 * (a : Int) + (((s[i]).toNat - 48 : Nat) : Int)) = ((10 * a + ((s[i]).toNat - 48) : Nat) : Int) := by rw [wrapu64 (by omega) (by omega)]; omega
    rw [sel_pos (by omega), sel_pos (by omega), sel_pos (by omega), sel_pos (by omega), w1, w2, w3, w4, wrap64 (by omega) (by omega), drop_at hlt, val_cons]
    have := ih (i + 1) (10 * a + ((s[i]).toNat - 48)) (by omega) (by rw [Nat.pow_succ]; omega) n (by omega)
    rw [hl] at this
    exact this
theorem G68_9_is (k : Nat) (s : List UInt8) (hs : s.length ≤ 19) (hd : s.all dgt = true) : ∀ (j i a : Nat), i + j = s.length → a < 10 ^ i → ∀ n, j < n →
    G68_9 k n (s, (a : Int), (i : Int), ()) = some ((val a (s.drop i) : Int), ()) := by
  intro j
  induction j with
  | zero =>
    intro i a hij ha n hn
    obtain ⟨n, rfl⟩ : ∃ m, n = m + 1 := ⟨n - 1, by omega⟩
    rw [G68_9_eq, sel_neg (by simp only [ofNat_len]; omega), List.drop_eq_nil_of_le (by omega)]
    rfl
  | succ j ih =>
    intro i a hij ha n hn
    obtain ⟨n, rfl⟩ : ∃ m, n = m + 1 := ⟨n - 1, by omega⟩
    have hlt : i < s.length := by omega
    have hc := List.all_eq_true.1 hd s[i] (List.getElem_mem _)
    rw [dgt_iff] at hc
    have hp : 10 ^ i * 10 ≤ 10 ^ 19 := by rw [← Nat.pow_succ]; exact pow_le19 (by omega)
    have hp' : a + 1 ≤ 10 ^ i := ha
    have hp2 : (a + 1) * 10 ≤ 10 ^ i * 10 := Nat.mul_le_mul_right _ hp'
    rw [G68_9_eq]
    simp only [Int.toNat_natCast, getD_of hlt, ofNat_len, Int.ofNat_eq_natCast]
    have w2 : IntKind.u64.wrap (((s[i]).toNat : Nat) : Int) = (((s[i]).toNat : Nat) : Int) := wrapu64 (by omega) (by omega)
    have w3 : IntKind.u64.wrap (10 * (a : Int)) = 10 * (a : Int) := wrapu64 (by omega) (by omega)
    have w4 : IntKind.u64.wrap (10 * (a : Int) + (((s[i]).toNat : Nat) : Int)) = 10 * (a : Int) + (((s[i]).toNat : Nat) : Int) := wrapu64 (by omega) (by omega)
    have w5 : IntKind.u64.wrap (10 * (a : Int) + (((s[i]).toNat : Nat) : Int) - 48) = ((10 * a + ((s[i]).toNat - 48) : Nat) : Int) := by rw [wrapu64 (by omega) (by omega)]; omega
    rw [sel_pos (by omega), sel_pos (by omega), sel_pos (by omega), w2, w3, w4, w5, wrap64 (by omega) (by omega), drop_at hlt, val_cons]
    exact ih (i + 1) (10 * a + ((s[i]).toNat - 48)) (by omega) (by rw [Nat.pow_succ]; omega) n (by omega)
def getOK (s : List UInt8) : Nat × Int := if s.length = 0 then (0, 2) else if 19 < s.length then (0, 4) else if isDig s = true then (val 0 s, 0) else (0, 3)
theorem G93_is (k : Nat) (s : List UInt8) (hk : 20 < k) : G93 k (s, ()) = some (((getOK s).1 : Int), (getOK s).2, ()) := by
  rw [G93_eq]
  unfold getOK
  by_cases c1 : s.length = 0
  · rw [if_pos c1, sel_pos (List.length_eq_zero_iff.1 c1)]; rfl
  rw [if_neg c1, sel_neg (fun h => c1 (List.length_eq_zero_iff.2 h))]
  simp only [ofNat_len]
  by_cases c2 : 19 < s.length
  · rw [if_pos c2, sel_pos (by omega)]; rfl
  rw [if_neg c2, sel_neg (by omega), G96_is k s (by rw [maxLen_eq]; omega) (by omega)]
  simp only [ocall_some, sel_not]
  cases hd : isDig s with
  | false => rfl
  | true =>
    rw [sel_true, if_pos rfl]
    have hd' : s.all dgt = true := by simp [isDig] at hd; simpa using hd.2
    have := G93_9_is k s (by omega) hd' s.length 0 0 (by omega) (by simp) k (by omega)
    simp only [Int.natCast_zero, List.drop_zero] at this
    rw [this]; rfl
theorem G68_is (k : Nat) (s : List UInt8) (hs : s.length ≤ maxLen) (hk : 20 < k) : G68 k (s, ()) = some (((getOK s).1 : Int), (getOK s).2, ()) := by
  rw [G68_eq]
  unfold getOK
  simp only [ofNat_len]
  by_cases c1 : s.length = 0
  · rw [if_pos c1, sel_pos (by omega)]; rfl
  rw [if_neg c1, sel_neg (by omega)]
  by_cases c2 : 19 < s.length
  · rw [if_pos c2, sel_pos (by omega)]; rfl
  rw [if_neg c2, sel_neg (by omega), G43_is k s hs (by omega)]
  simp only [ocall_some, sel_not]
  cases hd : isDig s with
  | false => rfl
  | true =>
    rw [sel_true, if_pos rfl]
    have hd' : s.all dgt = true := by simp [isDig] at hd; simpa using hd.2
    have := G68_9_is k s (by omega) hd' s.length 0 0 (by omega) (by simp) k (by omega)
    simp only [Int.natCast_zero, List.drop_zero] at this
    rw [this]; rfl
end Go.Proofs.YtjgnpmdbkgeakaaGreatDoor.G
end
section
set_option linter.unusedVariables false
set_option linter.unusedSimpArgs false
set_option maxRecDepth 100000
namespace Go.Proofs.YtjgnpmdbkgeakaaGreatDoor.G
open Go Go.Proofs.YtjgnpmdbkgeakaaGreatDoor Th
abbrev Def := Int × Int × Int × Unit
def D : List Def := [(2, 3, 19, ()), (3, 1, 6, ()), (4, 1, 12, ()), (7, 1, 10, ()), (11, 1, 6, ()), (12, 1, 6, ()), (37, 2, 12, ()), (38, 2, 6, ()), (39, 2, 2, ()), (41, 2, 8, ()), (44, 4, 25, ()), (48, 5, 999, ()), (49, 1, 3, ()), (90, 1, 42, ()), (120, 5, 999, ())]
def defOf (n : Int) : Option Def := D.find? fun d => decide (d.1 = n)
theorem G75_2_is (k : Nat) (n a b c : Int) (l : List Def) (hl : l.length ≤ 1000) : ∀ (j i : Nat), i + j = l.length → ∀ m, j < m →
    G75_2 k m (n, l, (l.length : Int), (i : Int), a, b, c, ()) = some (match (l.drop i).find? (fun d => decide (d.1 = n)) with
      | some d => .inr (true, d)
      | none => .inl (a, b, c, ())) := by
  intro j
  induction j with
  | zero =>
    intro i hij m hm
    obtain ⟨m, rfl⟩ : ∃ q, m = q + 1 := ⟨m - 1, by omega⟩
    rw [G75_2_eq, sel_neg (by (try simp only []); omega), List.drop_eq_nil_of_le (by omega)]
    rfl
  | succ j ih =>
    intro i hij m hm
    obtain ⟨m, rfl⟩ : ∃ q, m = q + 1 := ⟨m - 1, by omega⟩
    have hlt : i < l.length := by omega
    rw [G75_2_eq]
    simp only [ofNat_len, Int.toNat_natCast, getD_of hlt]
    rw [sel_pos (by omega), sel_pos (by omega), sel_pos (by omega), sel_pos (by omega), drop_at hlt, List.find?_cons]
    by_cases h : l[i].1 = n
    · rw [sel_pos h]
      simp only [h, decide_true]
      rw [← h]
    · rw [sel_neg h, wrap64 (by omega) (by omega)]
      simp only [h, decide_false]
      exact ih (i + 1) (by omega) m (by omega)
def defR (n : Int) : Def × Bool := match defOf n with
  | some d => (d, true)
  | none => ((0, 0, 0, ()), false)
theorem G75_is (k : Nat) (hk : 20 < k) (n : Int) : G75 k (n, ()) = some ((defR n).1, (defR n).2, ()) := by
  rw [G75_eq]
  have := G75_2_is k n 0 0 0 D (by decide) 15 0 (by decide) k (by omega)
  rw [show ((D.length : Nat) : Int) = Int.ofNat 15 from rfl, show (((0 : Nat) : Int)) = 0 from rfl, List.drop_zero, show (D.find? fun d => decide (d.1 = n)) = defOf n from rfl] at this
  show (ocall (G75_2 k k (n, D, Int.ofNat 15, 0, 0, 0, 0, ())) _) = _
  rw [this, ocall_some]
  unfold defR
  cases defOf n <;> rfl
def flat : List Def → List Int
  | [] => []
  | d :: l => d.1 :: d.2.1 :: d.2.2.1 :: flat l
theorem flat_len : ∀ l : List Def, (flat l).length = 3 * l.length
  | [] => rfl
  | d :: l => by simp only [flat, List.length_cons, flat_len l]; omega
theorem flat_at : ∀ (l : List Def) (i : Nat) (h : i < l.length), (flat l).getD (3 * i) 0 = l[i].1 ∧ (flat l).getD (3 * i + 1) 0 = l[i].2.1 ∧ (flat l).getD (3 * i + 2) 0 = l[i].2.2.1
  | d :: l, 0, _ => ⟨rfl, rfl, rfl⟩
  | d :: l, i + 1, h => by
    have := flat_at l i (by simpa using h)
    rw [show 3 * (i + 1) = 3 * i + 1 + 1 + 1 from by omega]
    simpa [flat] using this
theorem G41_3_is (k : Nat) (n a b c : Int) (l : List Def) (hl : l.length ≤ 1000) : ∀ (j i : Nat), i + j = l.length → ∀ m, j < m →
    G41_3 k m (n, flat l, ((3 * i : Nat) : Int), a, b, c, ()) = some (match (l.drop i).find? (fun d => decide (d.1 = n)) with
      | some d => .inr (true, d)
      | none => .inl (a, b, c, ())) := by
  have hf := flat_len l
  intro j
  induction j with
  | zero =>
    intro i hij m hm
    obtain ⟨m, rfl⟩ : ∃ q, m = q + 1 := ⟨m - 1, by omega⟩
    rw [G41_3_eq, sel_neg (by simp only [hf, Int.ofNat_eq_natCast]; omega), List.drop_eq_nil_of_le (by omega)]
    rfl
  | succ j ih =>
    intro i hij m hm
    obtain ⟨m, rfl⟩ : ∃ q, m = q + 1 := ⟨m - 1, by omega⟩
    have hlt : i < l.length := by omega
    obtain ⟨q1, q2, q3⟩ := flat_at l i hlt
    have q1' : (flat l).getD (3 * i) (OfNat.ofNat 0) = l[i].1 := q1
    have q2' : (flat l).getD (3 * i + 1) (OfNat.ofNat 0) = l[i].2.1 := q2
    have q3' : (flat l).getD (3 * i + 2) (OfNat.ofNat 0) = l[i].2.2.1 := q3
    have w1 : IntKind.i64.wrap (((3 * i : Nat) : Int) + 1) = ((3 * i + 1 : Nat) : Int) := by rw [wrap64 (by omega) (by omega)]; omega
    have w2 : IntKind.i64.wrap (((3 * i : Nat) : Int) + 2) = ((3 * i + 2 : Nat) : Int) := by rw [wrap64 (by omega) (by omega)]; omega
    have w3 : IntKind.i64.wrap (((3 * i : Nat) : Int) + 3) = ((3 * (i + 1) : Nat) : Int) := by rw [wrap64 (by omega) (by omega)]; omega
    rw [G41_3_eq]
    simp only [Int.ofNat_eq_natCast, Int.toNat_natCast, hf, w1, w2, w3, q1', q2', q3']
    rw [sel_pos (by omega), sel_pos (by omega), sel_pos (by omega), sel_pos (by omega), drop_at hlt, List.find?_cons]
    by_cases h : l[i].1 = n
    · rw [sel_pos h, sel_pos (by omega), sel_pos (by omega), sel_pos (by omega), sel_pos (by omega), sel_pos (by omega), sel_pos (by omega), sel_pos (by omega), sel_pos (by omega), sel_pos (by omega)]
      simp only [h, decide_true]
      rw [← h]
    · rw [sel_neg h]
      simp only [h, decide_false]
      exact ih (i + 1) (by omega) m (by omega)
theorem G41_is (k : Nat) (hk : 20 < k) (n : Int) : G41 k (n, ()) = some ((defR n).1, (defR n).2, ()) := by
  rw [G41_eq, G81_eq, ocall_some]
  have := G41_3_is k n 0 0 0 D (by decide) 15 0 (by decide) k (by omega)
  rw [show (((3 * 0 : Nat) : Int)) = 0 from rfl, List.drop_zero, show (D.find? fun d => decide (d.1 = n)) = defOf n from rfl] at this
  show (ocall (G41_3 k k (n, flat D, 0, 0, 0, 0, ())) _) = _
  rw [this, ocall_some]
  unfold defR
  cases defOf n <;> rfl
theorem defOf_mem {n : Int} {d : Def} (h : defOf n = some d) : d ∈ D ∧ d.1 = n := by
  refine ⟨List.mem_of_find?_eq_some h, ?_⟩
  have := List.find?_some h
  simpa using this
theorem D_all : ∀ d ∈ D, 2 ≤ d.1 ∧ d.1 ≤ 128 ∧ 1 ≤ d.2.1 ∧ d.2.1 ≤ 5 ∧ 1 ≤ d.2.2.1 ∧ d.2.2.1 ≤ 999 ∧ ((d.2.1 = 3 ∨ d.2.1 = 4) → d.2.2.1 ≤ 99) := by
  decide
def ahead (kind : Int) : Nat := if kind = 3 ∨ kind = 4 then 2 else if kind = 5 then 3 else 0
def sized (d : Def) (n : Nat) : Bool := if ahead d.2.1 = 0 then decide ((n : Int) = d.2.2.1) else decide (1 ≤ n) && decide ((n : Int) ≤ d.2.2.1)
def signs (d : Def) (s : List UInt8) : Bool := Signs.signsOf d.2.1 (isDig s) s
def rightF (n : Int) (s : List UInt8) : Bool := match defOf n with
  | some d => sized d s.length && signs d s
  | none => false
theorem G92_is (k : Nat) (d : Def) (s : List UInt8) (hs : s.length ≤ maxLen) (hk : s.length < k) : G92 k ((d.1, d.2.1, d.2.2.1, ()), s, ()) = some (signs d s, ()) := by
  rw [G92_eq, sel_pos (by rw [maxLen_eq] at hs; (try simp only []); omega), G96_is k s hs hk, ocall_some]
  rfl
theorem G76_is (k : Nat) (d : Def) : G76 k ((d.1, d.2.1, d.2.2.1, ()), ()) = some (if ahead d.2.1 = 0 then .inr ((d.2.2.1, ()), ()) else .inl ((((ahead d.2.1 : Nat) : Int), d.2.2.1, ()), ())) := by
  rw [G76_eq]
  unfold ahead
  simp only [sel_dec]
  by_cases h3 : d.2.1 = 3
  · simp [h3]
  · by_cases h4 : d.2.1 = 4
    · simp [h4]
    · by_cases h5 : d.2.1 = 5
      · simp [h5]
      · simp [h3, h4, h5]
theorem G61_is (k : Nat) (hk : 20 < k) (n : Int) (s : List UInt8) (hs : s.length ≤ maxLen) (hks : s.length < k) : G61 k (n, s, ()) = some (rightF n s, ()) := by
  rw [G61_eq, G75_is k hk, ocall_some]
  unfold rightF defR
  cases defOf n with
  | none => rfl
  | some d =>
    simp only [sel_true, G76_is, ocall_some]
    unfold sized
    by_cases h : ahead d.2.1 = 0
    · rw [if_pos h, esel_inr, G124_eq, ocall_some, if_pos h, G92_is k d s hs hks]
      simp only [sel_dec, ofNat_len, ocall_some]
      by_cases c : (s.length : Int) = d.2.2.1 <;> simp [c]
    · rw [if_neg h, esel_inl, G122_eq, if_neg h, G92_is k d s hs hks]
      simp only [sel_dec, ofNat_len, ocall_some]
      by_cases c : (1 : Int) ≤ s.length
      · have c' : 1 ≤ s.length := by omega
        rw [if_pos c, ocall_some]
        by_cases c2 : (s.length : Int) ≤ d.2.2.1 <;> simp [c', c2]
      · have c' : ¬ 1 ≤ s.length := by omega
        rw [if_neg c, ocall_some]
        simp [c']
theorem G54_none (k : Nat) (hk : 20 < k) (n : Int) (l : List Int) (h : defOf n = none) : G54 k (n, l, ()) = some ([], 0, 5, ()) := by
  rw [G54_eq, G75_is k hk, ocall_some]
  unfold defR
  rw [h]; rfl
end Go.Proofs.YtjgnpmdbkgeakaaGreatDoor.G
end
section
set_option linter.unusedVariables false
set_option linter.unusedSimpArgs false
namespace Go.Proofs.YtjgnpmdbkgeakaaGreatDoor.G
open Go Go.Proofs.YtjgnpmdbkgeakaaGreatDoor Th
theorem ahead_cases {kind : Int} : ahead kind = 0 ∨ ahead kind = 2 ∨ ahead kind = 3 := by unfold ahead; split <;> (try split) <;> simp
theorem ahead_two {kind : Int} (h : ahead kind = 2) : kind = 3 ∨ kind = 4 := by
  unfold ahead at h; split at h
  · assumption
  · split at h <;> cases h
def writeF (d : Def) (s : List UInt8) : List UInt8 := if ahead d.2.1 = 0 then s else digs s.length (ahead d.2.1) ++ s
theorem put_len {d : Def} (hd : d ∈ D) {n : Nat} (h : sized d n = true) (ha : ahead d.2.1 ≠ 0) : putOK n ((ahead d.2.1 : Nat) : Int) = (digs n (ahead d.2.1), 0) := by
  obtain ⟨_, _, _, _, h1, h2, h3⟩ := D_all d hd
  unfold sized at h
  rw [if_neg ha] at h
  simp only [Bool.and_eq_true, decide_eq_true_eq] at h
  rcases ahead_cases (kind := d.2.1) with e | e | e
  · exact absurd e ha
  · have := h3 (ahead_two e)
    rw [e]
    unfold putOK
    rw [if_neg (by omega), Int.toNat_natCast, if_pos (Nat.div_eq_of_lt (by omega))]
  · rw [e]
    unfold putOK
    rw [if_neg (by omega), Int.toNat_natCast, if_pos (Nat.div_eq_of_lt (by omega))]
theorem rightF_some {n : Int} {d : Def} (hd : defOf n = some d) (s : List UInt8) : rightF n s = (sized d s.length && signs d s) := by unfold rightF; rw [hd]
theorem sized_le {d : Def} (hd : d ∈ D) {n : Nat} (h : sized d n = true) : 1 ≤ n ∧ n ≤ 999 := by
  obtain ⟨_, _, _, _, h1, h2, h3⟩ := D_all d hd
  unfold sized at h
  split at h
  · simp only [decide_eq_true_eq] at h; omega
  · simp only [Bool.and_eq_true, decide_eq_true_eq] at h; omega
theorem G37_is (k : Nat) (hk : 20 < k) (n : Int) (d : Def) (hd : defOf n = some d) (s : List UInt8) (hs : s.length ≤ 140737488351232) (hks : s.length < k) :
    G37 k (n, s, ()) = some (if rightF n s = true then (toBytes (writeF d s), 0, ()) else ([], 1, ())) := by
  obtain ⟨hm, _⟩ := defOf_mem hd
  rw [G37_eq, G75_is k hk, ocall_some]
  have e : defR n = (d, true) := by unfold defR; rw [hd]
  rw [e]
  simp only [Bool.not_true, sel_false]
  rw [G61_is k hk n s (by rw [maxLen_eq]; omega) hks, ocall_some]
  cases hr : rightF n s with
  | false => rfl
  | true =>
    rw [rightF_some hd] at hr
    simp only [Bool.and_eq_true] at hr
    simp only [Bool.not_true, sel_false, G76_is, ocall_some]
    unfold writeF
    by_cases ha : ahead d.2.1 = 0
    · rw [if_pos ha, esel_inr, G123_eq, ocall_some, if_pos ha]
      rfl
    · have hsz := sized_le hm hr.1
      rw [if_neg ha, esel_inl, G121_eq, ocall_some, if_neg ha]
      simp only [ofNat_len]
      rw [sel_pos (by omega), wrapu64 (by omega) (by omega), G73_is k hk s.length _ (by omega), put_len hm hr.1 ha, ocall_some]
      (try simp only [])
      rw [sel_pos (by rw [digs_len]; rcases ahead_cases (kind := d.2.1) with e | e | e <;> omega)]
      rfl
theorem ofBytes_len (b : List Int) : (ofBytes b).length = b.length := by simp [ofBytes]
theorem ofBytes_take (b : List Int) (n : Nat) : ofBytes (b.take n) = (ofBytes b).take n := by simp [ofBytes, List.map_take]
theorem ofBytes_drop (b : List Int) (n : Nat) : ofBytes (b.drop n) = (ofBytes b).drop n := by simp [ofBytes, List.map_drop]
def lenF (d : Def) (b : List UInt8) : Int × Int :=
  if ahead d.2.1 = 0 then (d.2.2.1, 0) else if b.length < ahead d.2.1 then (0, 2)
  else if (getOK (b.take (ahead d.2.1))).2 = 0 ∧ (getOK (b.take (ahead d.2.1))).1 ≠ 0 then
    (if d.2.2.1 < ((getOK (b.take (ahead d.2.1))).1 : Int) then (0, 4) else (((getOK (b.take (ahead d.2.1))).1 : Int), 0)) else (0, 3)
theorem G91_is (k : Nat) (hk : 20 < k) (d : Def) (hm : d ∈ D) (b : List Int) (hb : b.length ≤ 9223372036854775807) : G91 k ((d.1, d.2.1, d.2.2.1, ()), b, ()) = some ((lenF d (ofBytes b)).1, (lenF d (ofBytes b)).2, ()) := by
  obtain ⟨_, _, _, _, h1, h2, h3⟩ := D_all d hm
  rw [G91_eq]
  simp only [G76_is, ocall_some]
  unfold lenF
  by_cases ha : ahead d.2.1 = 0
  · rw [if_pos ha, esel_inr, G123_eq, ocall_some, if_pos ha]
    rfl
  · rw [if_neg ha, esel_inl, G121_eq, ocall_some, if_neg ha, ofBytes_len]
    simp only [ofNat_len]
    rw [sel_neg (by omega)]
    by_cases hl : b.length < ahead d.2.1
    · rw [sel_pos (by omega), if_pos hl]
    · rw [sel_neg (by omega), if_neg hl, sel_pos (by simp only [Int.ofNat_eq_natCast]; omega), sel_pos (by omega), sel_pos (by omega)]
      simp only [Int.toNat_natCast]
      rw [show (Int.ofNat 0).toNat = 0 from rfl, List.drop_zero, ofBytes_take, G93_is k _ hk, ocall_some]
      generalize getOK ((ofBytes b).take (ahead d.2.1)) = g
      obtain ⟨g1, g2⟩ := g
      (try simp only [])
      have w1 : IntKind.u64.wrap d.2.2.1 = d.2.2.1 := wrapu64 (by omega) (by omega)
      simp only [w1]
      by_cases c1 : g2 = 0
      · subst c1
        simp only [decide_true, Bool.not_true, sel_false, true_and]
        by_cases c2 : g1 = 0
        · subst c2
          rw [if_neg (by simp)]
          rfl
        · rw [if_pos c2, sel_neg (by omega)]
          by_cases c3 : d.2.2.1 < (g1 : Int)
          · rw [sel_pos c3, if_pos c3]
          · rw [sel_neg c3, if_neg c3, wrap64 (by omega) (by omega)]
      · simp only [c1, decide_false, Bool.not_false, sel_true, false_and, if_false]
theorem lenF_le {d : Def} (hm : d ∈ D) {b : List UInt8} (h : (lenF d b).2 = 0) : 1 ≤ (lenF d b).1 ∧ (lenF d b).1 ≤ d.2.2.1 := by
  obtain ⟨_, _, _, _, h1, h2, h3⟩ := D_all d hm
  unfold lenF at h ⊢
  split
  · exact ⟨h1, Int.le_refl _⟩
  · rename_i ha
    rw [if_neg ha] at h
    split
    · rename_i hb; rw [if_pos hb] at h; cases h
    · rename_i hb
      rw [if_neg hb] at h
      split
      · rename_i hg
        rw [if_pos hg] at h
        split
        · rename_i hc; rw [if_pos hc] at h; cases h
        · rename_i hc
          have := hg.2
          (try simp only []); omega
      · rename_i hg; rw [if_neg hg] at h; cases h
def readF (d : Def) (b : List UInt8) : List UInt8 × Int × Int :=
  if (lenF d b).2 = 0 then
    (if (b.length : Int) < (ahead d.2.1 : Int) + (lenF d b).1 then ([], 0, 2)
     else if signs d ((b.take ((ahead d.2.1 : Int) + (lenF d b).1).toNat).drop (ahead d.2.1)) = true then ((b.take ((ahead d.2.1 : Int) + (lenF d b).1).toNat).drop (ahead d.2.1), (ahead d.2.1 : Int) + (lenF d b).1, 0)
     else ([], 0, 3))
  else ([], 0, (lenF d b).2)
theorem G54_is (k : Nat) (hk : 1100 < k) (n : Int) (d : Def) (hd : defOf n = some d) (b : List Int) (hb : b.length ≤ 9223372036854775807) :
    G54 k (n, b, ()) = some ((readF d (ofBytes b)).1, (readF d (ofBytes b)).2.1, (readF d (ofBytes b)).2.2, ()) := by
  obtain ⟨hm, _⟩ := defOf_mem hd
  obtain ⟨_, _, _, _, h1, h2, h3⟩ := D_all d hm
  have ha3 := ahead_cases (kind := d.2.1)
  rw [G54_eq, G75_is k (by omega), ocall_some]
  have e : defR n = (d, true) := by unfold defR; rw [hd]
  rw [e]
  simp only [Bool.not_true, sel_false]
  rw [G91_is k (by omega) d hm b hb, ocall_some]
  unfold readF
  by_cases c0 : (lenF d (ofBytes b)).2 = 0
  · obtain ⟨l1, l2⟩ := lenF_le hm c0
    rw [if_pos c0]
    simp only [c0, decide_true, Bool.not_true, sel_false]
    rw [ofBytes_len]
    have hin : ∀ (a : Int), a = ((ahead d.2.1 : Nat) : Int) →
        (sel (decide (Int.ofNat b.length < IntKind.i64.wrap (a + (lenF d (ofBytes b)).1))) (some (([] : List UInt8), (0 : Int), (2 : Int), ()))
          (sel (decide ((0 : Int) ≤ a)) (sel (decide (a ≤ IntKind.i64.wrap (a + (lenF d (ofBytes b)).1))) (sel (decide (IntKind.i64.wrap (a + (lenF d (ofBytes b)).1) ≤ Int.ofNat b.length))
            (sel (decide (Int.ofNat b.length ≤ Int.ofNat b.length))
              (ocall (G92 k ((d.1, d.2.1, d.2.2.1, ()), ofBytes (List.drop a.toNat (List.take (IntKind.i64.wrap (a + (lenF d (ofBytes b)).1)).toNat b)), ())) fun (r : Bool × Unit) =>
                sel (!r.fst) (some (([] : List UInt8), (0 : Int), (3 : Int), ()))
                  (some (ofBytes (List.drop a.toNat (List.take (IntKind.i64.wrap (a + (lenF d (ofBytes b)).1)).toNat b)), IntKind.i64.wrap (a + (lenF d (ofBytes b)).1), (0 : Int), ())))
              none) none) none) none)) =
        some ((if (b.length : Int) < (ahead d.2.1 : Int) + (lenF d (ofBytes b)).1 then (([], 0, 2) : List UInt8 × Int × Int)
         else if signs d (((ofBytes b).take ((ahead d.2.1 : Int) + (lenF d (ofBytes b)).1).toNat).drop (ahead d.2.1)) = true then (((ofBytes b).take ((ahead d.2.1 : Int) + (lenF d (ofBytes b)).1).toNat).drop (ahead d.2.1), (ahead d.2.1 : Int) + (lenF d (ofBytes b)).1, 0)
         else ([], 0, 3)).1, (if (b.length : Int) < (ahead d.2.1 : Int) + (lenF d (ofBytes b)).1 then (([], 0, 2) : List UInt8 × Int × Int)
         else if signs d (((ofBytes b).take ((ahead d.2.1 : Int) + (lenF d (ofBytes b)).1).toNat).drop (ahead d.2.1)) = true then (((ofBytes b).take ((ahead d.2.1 : Int) + (lenF d (ofBytes b)).1).toNat).drop (ahead d.2.1), (ahead d.2.1 : Int) + (lenF d (ofBytes b)).1, 0)
         else ([], 0, 3)).2.1, (if (b.length : Int) < (ahead d.2.1 : Int) + (lenF d (ofBytes b)).1 then (([], 0, 2) : List UInt8 × Int × Int)
         else if signs d (((ofBytes b).take ((ahead d.2.1 : Int) + (lenF d (ofBytes b)).1).toNat).drop (ahead d.2.1)) = true then (((ofBytes b).take ((ahead d.2.1 : Int) + (lenF d (ofBytes b)).1).toNat).drop (ahead d.2.1), (ahead d.2.1 : Int) + (lenF d (ofBytes b)).1, 0)
         else ([], 0, 3)).2.2, ()) := by
      rintro a rfl
      have w : IntKind.i64.wrap (((ahead d.2.1 : Nat) : Int) + (lenF d (ofBytes b)).1) = ((ahead d.2.1 : Nat) : Int) + (lenF d (ofBytes b)).1 := wrap64 (by omega) (by omega)
      simp only [w, Int.toNat_natCast, ofNat_len, ofBytes_drop, ofBytes_take]
      by_cases c1 : (b.length : Int) < (ahead d.2.1 : Int) + (lenF d (ofBytes b)).1
      · rw [sel_pos c1]; simp only [c1, if_true]
      · rw [sel_neg c1, sel_pos (by omega), sel_pos (by omega), sel_pos (by omega), sel_pos (by omega)]
        rw [G92_is k d _ (by rw [maxLen_eq]; simp; omega) (by simp; omega), ocall_some]
        simp only [c1, if_false]
        cases signs d (((ofBytes b).take ((ahead d.2.1 : Int) + (lenF d (ofBytes b)).1).toNat).drop (ahead d.2.1)) <;> rfl
    rw [G76_is, ocall_some]
    by_cases ha : ahead d.2.1 = 0
    · rw [if_pos ha, esel_inr, G123_eq, ocall_some]
      exact hin 0 (by rw [ha]; rfl)
    · rw [if_neg ha, esel_inl, G121_eq, ocall_some]
      exact hin _ rfl
  · rw [if_neg c0]
    simp only [c0, decide_false, Bool.not_false, sel_true]
end Go.Proofs.YtjgnpmdbkgeakaaGreatDoor.G
end
section
set_option linter.unusedVariables false
set_option linter.unusedSimpArgs false
namespace Go.Proofs.YtjgnpmdbkgeakaaGreatDoor.G
open Go Go.Proofs.YtjgnpmdbkgeakaaGreatDoor Th
def okc (kind : Int) (c : UInt8) : Bool := if kind = 1 ∨ kind = 3 then dgt c else Signs.plain c
theorem plain_iff {c : UInt8} : Signs.plain c = true ↔ 32 ≤ c.toNat ∧ c.toNat ≤ 126 := by simp [Signs.plain]
theorem okc_dgt {kind : Int} (h : kind = 1 ∨ kind = 3) (c : UInt8) : okc kind c = dgt c := by unfold okc; rw [if_pos h]
theorem okc_plain {kind : Int} (h : ¬ (kind = 1 ∨ kind = 3)) (c : UInt8) : okc kind c = Signs.plain c := by unfold okc; rw [if_neg h]
theorem G42_2_is (k : Nat) (kind : Int) (s : List UInt8) (hs : s.length ≤ maxLen) : ∀ (j i : Nat), i + j = s.length → ∀ n, j < n → G42_2 k n (kind, s, (i : Int), ()) = some (if (s.drop i).all (okc kind) = true then .inl () else .inr (false, ())) := by
  rw [maxLen_eq] at hs
  intro j
  induction j with
  | zero =>
    intro i hij n hn
    obtain ⟨n, rfl⟩ : ∃ m, n = m + 1 := ⟨n - 1, by omega⟩
    rw [G42_2_eq, sel_neg (by simp only [ofNat_len]; omega), List.drop_eq_nil_of_le (by omega)]
    rfl
  | succ j ih =>
    intro i hij n hn
    obtain ⟨n, rfl⟩ : ∃ m, n = m + 1 := ⟨n - 1, by omega⟩
    have hlt : i < s.length := by omega
    have next : okc kind s[i] = true → G42_2 k n (kind, s, IntKind.i64.wrap ((i : Int) + 1), ()) = some (if (okc kind s[i] && (s.drop (i + 1)).all (okc kind)) = true then .inl () else .inr (false, ())) := by
      intro h
      rw [h, Bool.true_and, wrap64 (by omega) (by omega)]
      exact ih (i + 1) (by omega) n (by omega)
    have stop : okc kind s[i] = false → (some (Sum.inr (false, ())) : Option (Unit ⊕ Bool × Unit)) = some (if (okc kind s[i] && (s.drop (i + 1)).all (okc kind)) = true then .inl () else .inr (false, ())) := by
      intro h; rw [h]; rfl
    rw [G42_2_eq]
    simp only [ofNat_len, Int.toNat_natCast, getD_of hlt, Int.ofNat_eq_natCast]
    rw [sel_pos (by omega), drop_at hlt, List.all_cons]
    by_cases k1 : kind = 1
    · have hk : kind = 1 ∨ kind = 3 := .inl k1
      rw [sel_pos k1, sel_pos (by omega), sel_pos (by omega)]
      by_cases c1 : ((s[i]).toNat : Int) < 48
      · rw [sel_pos c1]; exact stop (by rw [okc_dgt hk, Bool.eq_false_iff, Ne, dgt_iff]; omega)
      · rw [sel_neg c1, sel_pos (by omega), sel_pos (by omega)]
        by_cases c2 : (57 : Int) < ((s[i]).toNat : Int)
        · rw [sel_pos c2]; exact stop (by rw [okc_dgt hk, Bool.eq_false_iff, Ne, dgt_iff]; omega)
        · rw [sel_neg c2]; exact next (by rw [okc_dgt hk, dgt_iff]; omega)
    · rw [sel_neg k1]
      by_cases k3 : kind = 3
      · have hk : kind = 1 ∨ kind = 3 := .inr k3
        rw [sel_pos k3, sel_pos (by omega), sel_pos (by omega)]
        by_cases c1 : ((s[i]).toNat : Int) < 48
        · rw [sel_pos c1]; exact stop (by rw [okc_dgt hk, Bool.eq_false_iff, Ne, dgt_iff]; omega)
        · rw [sel_neg c1, sel_pos (by omega), sel_pos (by omega)]
          by_cases c2 : (57 : Int) < ((s[i]).toNat : Int)
          · rw [sel_pos c2]; exact stop (by rw [okc_dgt hk, Bool.eq_false_iff, Ne, dgt_iff]; omega)
          · rw [sel_neg c2]; exact next (by rw [okc_dgt hk, dgt_iff]; omega)
      · have hk : ¬ (kind = 1 ∨ kind = 3) := by omega
        rw [sel_neg k3, sel_pos (by omega), sel_pos (by omega)]
        by_cases c1 : ((s[i]).toNat : Int) < 32
        · rw [sel_pos c1]; exact stop (by rw [okc_plain hk, Bool.eq_false_iff, Ne, plain_iff]; omega)
        · rw [sel_neg c1, sel_pos (by omega), sel_pos (by omega)]
          by_cases c2 : (126 : Int) < ((s[i]).toNat : Int)
          · rw [sel_pos c2]; exact stop (by rw [okc_plain hk, Bool.eq_false_iff, Ne, plain_iff]; omega)
          · rw [sel_neg c2]; exact next (by rw [okc_plain hk, plain_iff]; omega)
theorem G42_is (k : Nat) (kind : Int) (s : List UInt8) (hs : s.length ≤ maxLen) (hk : s.length < k) : G42 k (kind, s, ()) = some (s.all (okc kind), ()) := by
  rw [G42_eq]
  have := G42_2_is k kind s hs s.length 0 (by omega) k hk
  rw [List.drop_zero] at this
  simp only [Int.natCast_zero] at this
  rw [this, ocall_some]
  cases s.all (okc kind) <;> rfl
theorem signs_ok (d : Def) (s : List UInt8) (h : 0 < s.length) : signs d s = s.all (okc d.2.1) := by
  unfold signs Signs.signsOf
  by_cases hk : d.2.1 = 1 ∨ d.2.1 = 3
  · rw [if_pos hk]
    have : okc d.2.1 = dgt := funext (okc_dgt hk)
    rw [this]; simp [isDig, h]
  · rw [if_neg hk]
    have : okc d.2.1 = Signs.plain := funext (okc_plain hk)
    rw [this]
theorem ahead_zero {kind : Int} (h1 : 1 ≤ kind) (h5 : kind ≤ 5) : ahead kind = 0 ↔ kind < 3 := by
  unfold ahead
  split
  · constructor
    · intro h; cases h
    · intro h; omega
  · split
    · constructor
      · intro h; cases h
      · intro h; omega
    · constructor
      · intro _; omega
      · intro _; rfl
theorem G86_is (k : Nat) {kind : Int} (h1 : 1 ≤ kind) (h5 : kind ≤ 5) : G86 k (kind, ()) = some (((ahead kind : Nat) : Int), ()) := by
  rw [G86_eq]
  by_cases c : kind < 3
  · rw [sel_pos c, (ahead_zero h1 h5).2 c]; rfl
  · rw [sel_neg c]
    by_cases c5 : kind = 5
    · rw [sel_pos c5]; subst c5; rfl
    · rw [sel_neg c5]
      have : ahead kind = 2 := by unfold ahead; rw [if_pos (by omega)]
      rw [this]; rfl
theorem G19_is (k : Nat) (hk : 20 < k) (n : Int) (s : List UInt8) (hs : s.length ≤ maxLen) (hks : s.length < k) : G19 k (n, s, ()) = some (rightF n s, ()) := by
  have hs' := hs
  rw [maxLen_eq] at hs'
  rw [G19_eq, G41_is k hk, ocall_some]
  unfold rightF defR
  cases hd : defOf n with
  | none => rfl
  | some d =>
    obtain ⟨hm, _⟩ := defOf_mem hd
    obtain ⟨_, _, k1, k5, z1, z2, z3⟩ := D_all d hm
    simp only [Bool.not_true, sel_false, ofNat_len]
    have ha := ahead_zero k1 k5
    by_cases c0 : (s.length : Int) = 0
    · rw [sel_pos c0]
      have : sized d s.length = false := by rw [Bool.eq_false_iff]; intro h; have := sized_le hm h; omega
      rw [this]; rfl
    · rw [sel_neg c0]
      by_cases c1 : d.2.2.1 < (s.length : Int)
      · rw [sel_pos c1]
        have : sized d s.length = false := by
          rw [Bool.eq_false_iff]; intro h
          unfold sized at h
          split at h
          · simp only [decide_eq_true_eq] at h; omega
          · simp only [Bool.and_eq_true, decide_eq_true_eq] at h; omega
        rw [this]; rfl
      · rw [sel_neg c1, G42_is k d.2.1 s hs hks, signs_ok d s (by omega)]
        by_cases c2 : d.2.1 < 3
        · rw [sel_pos c2]
          have ha0 := ha.2 c2
          unfold sized
          rw [if_pos ha0]
          by_cases c3 : (s.length : Int) < d.2.2.1
          · rw [sel_pos c3, decide_eq_false (by omega)]; rfl
          · rw [sel_neg c3, decide_eq_true (by omega), ocall_some, Bool.true_and]
        · rw [sel_neg c2, ocall_some]
          unfold sized
          rw [if_neg (fun h => c2 (ha.1 h)), decide_eq_true (by omega), decide_eq_true (by omega)]
          rfl
theorem G45_is (k : Nat) (hk : 20 < k) (n : Int) (d : Def) (hd : defOf n = some d) (s : List UInt8) (hr : rightF n s = true) : G45 k (n, s, ()) = some (toBytes (writeF d s), ()) := by
  obtain ⟨hm, _⟩ := defOf_mem hd
  obtain ⟨_, _, k1, k5, _⟩ := D_all d hm
  rw [rightF_some hd] at hr
  simp only [Bool.and_eq_true] at hr
  have hsz := sized_le hm hr.1
  rw [G45_eq, G41_is k hk, ocall_some]
  have e : defR n = (d, true) := by unfold defR; rw [hd]
  rw [e]
  (try simp only [])
  rw [G86_is k k1 k5, ocall_some]
  unfold writeF
  by_cases ha : ahead d.2.1 = 0
  · rw [if_pos ha, sel_pos (by simp only [ha]; rfl)]
  · rw [if_neg ha, sel_neg (by (try simp only []); omega)]
    simp only [ofNat_len]
    rw [wrapu64 (by omega) (by omega), G48_eq, G88_is k hk s.length _ (by omega), put_len hm hr.1 ha]
    simp only [ocall_some]
    rw [sel_pos (by rw [digs_len]; rcases ahead_cases (kind := d.2.1) with e | e | e <;> omega)]
    try rfl
theorem val_lt : ∀ (s : List UInt8) (a : Nat), s.all dgt = true → val a s < (a + 1) * 10 ^ s.length
  | [], a, _ => by simp [val]
  | c :: t, a, h => by
    simp only [List.all_cons, Bool.and_eq_true, dgt_iff] at h
    have := val_lt t (10 * a + (c.toNat - 48)) h.2
    rw [val_cons]
    have h2 : (10 * a + (c.toNat - 48) + 1) * 10 ^ t.length ≤ ((a + 1) * 10) * 10 ^ t.length := Nat.mul_le_mul_right _ (by omega)
    rw [List.length_cons, Nat.pow_succ, Nat.mul_comm (10 ^ t.length) 10, ← Nat.mul_assoc]
    omega
theorem get_lt (s : List UInt8) (h : s.length ≤ 3) : (getOK s).1 < 1000 := by
  unfold getOK
  split
  · simp
  · split
    · simp
    · split
      · rename_i hd
        have h1 := val_lt s 0 (by simp [isDig] at hd; simpa using hd.2)
        have h2 : 10 ^ s.length ≤ 10 ^ 3 := Nat.pow_le_pow_right (by omega) h
        (try simp only [])
        omega
      · simp
theorem G65_none (k : Nat) (hk : 20 < k) (n : Int) (l : List Int) (h : defOf n = none) : G65 k (n, l, ()) = some ([], 0, 5, ()) := by
  rw [G65_eq, G41_is k hk, ocall_some]
  unfold defR
  rw [h]; rfl
theorem G65_is (k : Nat) (hk : 1100 < k) (n : Int) (d : Def) (hd : defOf n = some d) (b : List Int) (hb : b.length ≤ 9223372036854775807) :
    G65 k (n, b, ()) = some ((readF d (ofBytes b)).1, (readF d (ofBytes b)).2.1, (readF d (ofBytes b)).2.2, ()) := by
  obtain ⟨hm, _⟩ := defOf_mem hd
  obtain ⟨_, _, k1, k5, z1, z2, z3⟩ := D_all d hm
  have ha3 := ahead_cases (kind := d.2.1)
  rw [G65_eq, G41_is k (by omega), ocall_some]
  have e : defR n = (d, true) := by unfold defR; rw [hd]
  rw [e]
  simp only [Bool.not_true, sel_false]
  rw [G86_is k k1 k5, ocall_some]
  have fin : ∀ (m : Int), 1 ≤ m → m ≤ 999 → ∀ a : Nat, a = ahead d.2.1 → ¬ (b.length : Int) < (a : Int) + m →
      (ocall (G42 k (d.2.1, ofBytes (List.drop a (List.take ((a : Int) + m).toNat b)), ())) fun (r : Bool × Unit) => sel (!r.fst) (some (([] : List UInt8), (0 : Int), (3 : Int), ()))
        (some (ofBytes (List.drop a (List.take ((a : Int) + m).toNat b)), (a : Int) + m, (0 : Int), ()))) =
      some ((if signs d (((ofBytes b).take ((a : Int) + m).toNat).drop a) = true then (((ofBytes b).take ((a : Int) + m).toNat).drop a, (a : Int) + m, (0 : Int)) else ([], 0, 3)).1,
        (if signs d (((ofBytes b).take ((a : Int) + m).toNat).drop a) = true then (((ofBytes b).take ((a : Int) + m).toNat).drop a, (a : Int) + m, (0 : Int)) else ([], 0, 3)).2.1,
        (if signs d (((ofBytes b).take ((a : Int) + m).toNat).drop a) = true then (((ofBytes b).take ((a : Int) + m).toNat).drop a, (a : Int) + m, (0 : Int)) else ([], 0, 3)).2.2, ()) := by
    intro m m1 m2 a hae hlen
    have hl : (((ofBytes b).take ((a : Int) + m).toNat).drop a).length = m.toNat := by rw [List.length_drop, List.length_take, ofBytes_len]; omega
    rw [ofBytes_drop, ofBytes_take, G42_is k _ _ (by rw [hl, maxLen_eq]; omega) (by rw [hl]; omega), ocall_some, signs_ok d _ (by rw [hl]; omega)]
    cases (((ofBytes b).take ((a : Int) + m).toNat).drop a).all (okc d.2.1) <;> rfl
  unfold readF lenF
  simp only [Int.ofNat_eq_natCast, ofBytes_len]
  by_cases ha : ahead d.2.1 = 0
  · rw [sel_neg (by omega)]
    simp only [ha, if_true]
    have w1 : IntKind.i64.wrap ((b.length : Int) - ((0 : Nat) : Int)) = (b.length : Int) := by rw [wrap64 (by omega) (by omega)]; omega
    have w2 : IntKind.i64.wrap (((0 : Nat) : Int) + d.2.2.1) = ((0 : Nat) : Int) + d.2.2.1 := wrap64 (by omega) (by omega)
    simp only [w1, w2, Int.toNat_natCast]
    by_cases c1 : (b.length : Int) < d.2.2.1
    · rw [sel_pos c1, if_pos (by omega)]
    · rw [sel_neg c1, if_neg (by omega), sel_pos (by omega), sel_pos (by omega), sel_pos (by omega), sel_pos (by omega)]
      exact fin d.2.2.1 z1 z2 0 ha.symm (by omega)
  · rw [sel_pos (by omega)]
    simp only [ha, if_false]
    by_cases hl : b.length < ahead d.2.1
    · rw [sel_pos (by omega), if_pos hl]
      rfl
    · rw [sel_neg (by omega), if_neg hl, sel_pos (by omega), sel_pos (by omega), sel_pos (by omega)]
      simp only [Int.toNat_natCast]
      rw [List.drop_zero, ofBytes_take, G68_is k _ (by rw [maxLen_eq, List.length_take, ofBytes_len]; omega) (by omega), ocall_some]
      have hg := get_lt ((ofBytes b).take (ahead d.2.1)) (by rw [List.length_take]; omega)
      generalize getOK ((ofBytes b).take (ahead d.2.1)) = g at hg ⊢
      obtain ⟨g1, g2⟩ := g
      (try simp only [] at hg ⊢)
      by_cases c1 : g2 = 0
      · subst c1
        simp only [decide_true, Bool.not_true, sel_false, true_and]
        by_cases c2 : g1 = 0
        · subst c2
          rw [sel_pos (by rfl), if_neg (by simp)]
          rfl
        · rw [if_pos c2, sel_neg (by omega)]
          have w1 : IntKind.i64.wrap (g1 : Int) = (g1 : Int) := wrap64 (by omega) (by omega)
          have w2 : IntKind.i64.wrap ((b.length : Int) - ((ahead d.2.1 : Nat) : Int)) = (b.length : Int) - ((ahead d.2.1 : Nat) : Int) := wrap64 (by omega) (by omega)
          have w3 : IntKind.i64.wrap (((ahead d.2.1 : Nat) : Int) + (g1 : Int)) = ((ahead d.2.1 : Nat) : Int) + (g1 : Int) := wrap64 (by omega) (by omega)
          simp only [w1, w2, w3]
          by_cases c3 : d.2.2.1 < (g1 : Int)
          · rw [sel_pos c3, if_pos c3]
            rfl
          · rw [sel_neg c3, if_neg c3]
            simp only [if_true]
            by_cases c4 : (b.length : Int) - ((ahead d.2.1 : Nat) : Int) < (g1 : Int)
            · rw [sel_pos c4, if_pos (by omega)]
            · rw [sel_neg c4, if_neg (by omega), sel_pos (by omega), sel_pos (by omega), sel_pos (by omega), sel_pos (by omega)]
              exact fin g1 (by omega) (by omega) _ rfl (by omega)
      · simp only [c1, decide_false, Bool.not_false, sel_true, false_and, if_false]
        rfl
end Go.Proofs.YtjgnpmdbkgeakaaGreatDoor.G
end
section
set_option linter.unusedVariables false
set_option linter.unusedSimpArgs false
set_option maxRecDepth 100000
namespace Go.Proofs.YtjgnpmdbkgeakaaGreatDoor.G
open Go Go.Proofs.YtjgnpmdbkgeakaaGreatDoor Th
abbrev Txt := List UInt8
abbrev Item := Int × Txt × Unit
abbrev Msg := Txt × List Item × Unit
def KT : List Txt := [[48, 49, 48, 48], [48, 49, 49, 48], [48, 52, 48, 48], [48, 52, 49, 48], [48, 52, 50, 48], [48, 52, 50, 49], [48, 52, 51, 48]]
def knownT (s : Txt) : Bool := KT.contains s
theorem G74_is (k : Nat) (s : Txt) : G74 k (s, ()) = some (knownT s, ()) := by
  rw [G74_eq]
  unfold knownT KT
  simp only [sel_dec, List.contains_cons, List.contains_nil, Bool.or_false]
  by_cases h1 : s = [48, 49, 48, 48]
  · simp [h1]
  by_cases h2 : s = [48, 49, 49, 48]
  · simp [h2]
  by_cases h3 : s = [48, 52, 48, 48]
  · simp [h3]
  by_cases h4 : s = [48, 52, 49, 48]
  · simp [h4]
  by_cases h5 : s = [48, 52, 50, 48]
  · simp [h5]
  by_cases h6 : s = [48, 52, 50, 49]
  · simp [h6]
  by_cases h7 : s = [48, 52, 51, 48] <;> simp [h1, h2, h3, h4, h5, h6, h7]
def itemsOK : Int → List Item → Bool
  | _, [] => true
  | last, x :: l => decide (last < x.1) && rightF x.1 x.2.1 && itemsOK x.1 l
def msgRight (m : Msg) : Bool := itemsOK 0 m.2.1 && knownT m.1 && decide (0 < m.2.1.length)
theorem G36_3_is (k : Nat) (hk : 20 < k) (l l0 : List Item) (typ : Txt) (hl : l.length ≤ 1000000000) (hx : ∀ x ∈ l, x.2.1.length ≤ maxLen ∧ x.2.1.length < k) :
    ∀ (j i : Nat) (last : Int), i + j = l.length → ∀ n, j < n → G36_3 k n (last, l, (l.length : Int), (i : Int), typ, l0, ()) = some (sel (itemsOK last (l.drop i)) (.inl (typ, l0, ())) (.inr (false, ()))) := by
  intro j
  induction j with
  | zero =>
    intro i last hij n hn
    obtain ⟨n, rfl⟩ : ∃ m, n = m + 1 := ⟨n - 1, by omega⟩
    rw [G36_3_eq, sel_neg (by (try simp only []); omega), List.drop_eq_nil_of_le (by omega)]
    rfl
  | succ j ih =>
    intro i last hij n hn
    obtain ⟨n, rfl⟩ : ∃ m, n = m + 1 := ⟨n - 1, by omega⟩
    have hlt : i < l.length := by omega
    rw [G36_3_eq]
    simp only [ofNat_len, Int.toNat_natCast, getD_of hlt]
    rw [sel_pos (by omega), sel_pos (by omega), sel_pos (by omega), drop_at hlt]
    simp only [itemsOK]
    obtain ⟨h1, h2⟩ := hx l[i] (List.getElem_mem _)
    by_cases c : l[i].1 ≤ last
    · rw [sel_pos c, decide_eq_false (by omega)]; rfl
    · rw [sel_neg c, G61_is k hk _ _ h1 h2, ocall_some, decide_eq_true (by omega)]
      cases hr : rightF l[i].1 l[i].2.1 with
      | false => rfl
      | true =>
        simp only [Bool.not_true, sel_false, Bool.true_and]
        rw [wrap64 (by omega) (by omega)]
        exact ih (i + 1) l[i].1 (by omega) n (by omega)
theorem G36_is (k : Nat) (hk : 20 < k) (typ : Txt) (l : List Item) (hl : l.length ≤ 1000000000) (hlk : l.length < k) (hx : ∀ x ∈ l, x.2.1.length ≤ maxLen ∧ x.2.1.length < k) :
    G36 k ((typ, l, ()), ()) = some (msgRight (typ, l, ()), ()) := by
  rw [G36_eq]
  have := G36_3_is k hk l l typ hl hx l.length 0 0 (by omega) k hlk
  simp only [ofNat_len, List.drop_zero, Int.natCast_zero] at this ⊢
  rw [this, ocall_some]
  unfold msgRight
  (try simp only [])
  cases itemsOK 0 l with
  | false => rfl
  | true =>
    simp only [sel_true, esel_inl, G74_is, ocall_some, Bool.true_and]
    cases knownT typ with
    | false => rfl
    | true =>
      simp only [sel_true, Bool.true_and]
      have : decide ((0 : Int) < (l.length : Int)) = decide (0 < l.length) := decide_eq_decide.2 (by omega)
      rw [this]
def getM (n : Int) : List Item → Txt × Bool
  | [] => ([], false)
  | x :: l => if x.1 = n then (x.2.1, true) else getM n l
def idxM (n : Int) : List Item → Nat → Option Nat
  | [], _ => none
  | x :: l, i => if x.1 = n then some i else idxM n l (i + 1)
theorem idxM_some (n : Int) : ∀ (l : List Item) (i j : Nat), idxM n l i = some j → ∃ h : j - i < l.length, i ≤ j ∧ getM n l = (l[j - i].2.1, true)
  | [], i, j, h => by cases h
  | x :: l, i, j, h => by
    unfold idxM at h
    by_cases c : x.1 = n
    · rw [if_pos c] at h
      cases h
      refine ⟨by simp, Nat.le_refl _, ?_⟩
      simp [getM, c]
    · rw [if_neg c] at h
      obtain ⟨h1, h2, h3⟩ := idxM_some n l (i + 1) j h
      have e : j - i = (j - (i + 1)) + 1 := by omega
      refine ⟨by simp; omega, by omega, ?_⟩
      simp only [getM, if_neg c, h3, e, List.getElem_cons_succ]
theorem idxM_none (n : Int) : ∀ (l : List Item) (i : Nat), idxM n l i = none → getM n l = ([], false)
  | [], i, _ => rfl
  | x :: l, i, h => by
    unfold idxM at h
    by_cases c : x.1 = n
    · rw [if_pos c] at h; cases h
    · rw [if_neg c] at h
      simp only [getM, if_neg c, idxM_none n l (i + 1) h]
theorem G7000000_2_is (k : Nat) (n : Int) (l : List Item) (hl : l.length ≤ 1000000000) :
    ∀ (j i : Nat), i + j = l.length → ∀ m, j < m → G7000000_2 k m (l, ((n, ()), ()), (l.length : Int), (i : Int), ()) = some (match idxM n (l.drop i) i with | none => .inl () | some q => .inr ((q : Int), ())) := by
  intro j
  induction j with
  | zero =>
    intro i hij m hm
    obtain ⟨m, rfl⟩ : ∃ q, m = q + 1 := ⟨m - 1, by omega⟩
    rw [G7000000_2_eq, sel_neg (by (try simp only []); omega), List.drop_eq_nil_of_le (by omega)]
    rfl
  | succ j ih =>
    intro i hij m hm
    obtain ⟨m, rfl⟩ : ∃ q, m = q + 1 := ⟨m - 1, by omega⟩
    have hlt : i < l.length := by omega
    rw [G7000000_2_eq]
    simp only [ofNat_len, Int.toNat_natCast, getD_of hlt]
    rw [sel_pos (by omega), sel_pos (by omega), sel_pos (by omega), drop_at hlt, G95_eq, ocall_some]
    simp only [idxM]
    by_cases c : l[i].1 = n
    · rw [sel_pos c, if_pos c]
    · rw [sel_neg c, if_neg c, wrap64 (by omega) (by omega)]
      exact ih (i + 1) (by omega) m (by omega)
theorem G57_is (k : Nat) (n : Int) (typ : Txt) (l : List Item) (hl : l.length ≤ 1000000000) (hk : l.length < k) : G57 k ((typ, l, ()), n, ()) = some ((getM n l).1, (getM n l).2, ()) := by
  rw [G57_eq]
  (try simp only [])
  have := G7000000_2_is k n l hl l.length 0 (by omega) k hk
  simp only [List.drop_zero, Int.natCast_zero] at this
  rw [G7000000_eq]
  simp only [ofNat_len]
  rw [this, ocall_some]
  cases h : idxM n l 0 with
  | none =>
    rw [idxM_none n l 0 h]
    rfl
  | some q =>
    obtain ⟨h1, h2, h3⟩ := idxM_some n l 0 q h
    simp only [Nat.sub_zero] at h1 h3
    rw [h3]
    simp only [esel_inr, ocall_some, Int.toNat_natCast, getD_of h1]
    rw [sel_neg (by omega), sel_pos (by omega), sel_pos (by omega)]
theorem getM_len (n : Int) (L : Nat) : ∀ l : List Item, (∀ x ∈ l, x.2.1.length ≤ L) → (getM n l).1.length ≤ L
  | [], _ => Nat.zero_le _
  | x :: l, h => by
    unfold getM
    split
    · exact h x (List.mem_cons_self ..)
    · exact getM_len n L l fun y hy => h y (List.mem_cons_of_mem _ hy)
theorem G62_3_is (k : Nat) (s : Txt) (L : List Txt) (hL : L.length ≤ 1000) : ∀ (j i : Nat), i + j = L.length → ∀ n, j < n → G62_3 k n (s, L, (i : Int), ()) = some (sel ((L.drop i).contains s) (.inr (true, ())) (.inl ())) := by
  intro j
  induction j with
  | zero =>
    intro i hij n hn
    obtain ⟨n, rfl⟩ : ∃ m, n = m + 1 := ⟨n - 1, by omega⟩
    rw [G62_3_eq, sel_neg (by simp only [ofNat_len]; omega), List.drop_eq_nil_of_le (by omega)]
    rfl
  | succ j ih =>
    intro i hij n hn
    obtain ⟨n, rfl⟩ : ∃ m, n = m + 1 := ⟨n - 1, by omega⟩
    have hlt : i < L.length := by omega
    rw [G62_3_eq]
    simp only [ofNat_len, Int.toNat_natCast, getD_of hlt]
    rw [sel_pos (by omega), sel_pos (by omega), sel_pos (by omega), sel_pos hlt, drop_at hlt, List.contains_cons, wrap64 (by omega) (by omega)]
    by_cases c : L[i] = s
    · rw [sel_pos c]
      have : (s == L[i]) = true := by rw [c]; simp
      rw [this]; rfl
    · rw [sel_neg c]
      have : (s == L[i]) = false := by simpa using fun e => c e.symm
      rw [this, Bool.false_or]
      exact ih (i + 1) (by omega) n (by omega)
theorem G62_is (k : Nat) (hk : 20 < k) (s : Txt) : G62 k (s, ()) = some (knownT s, ()) := by
  rw [G62_eq]
  have := G62_3_is k s KT (by decide) 7 0 rfl k (by omega)
  simp only [List.drop_zero, Int.natCast_zero] at this
  unfold KT at this
  rw [this, ocall_some]
  unfold knownT KT
  generalize List.contains _ s = b
  cases b <;> rfl
theorem G66_4_is (k : Nat) (hk : 20 < k) (l : List Item) (typ : Txt) (hl : l.length ≤ 1000000000) (hx : ∀ x ∈ l, x.2.1.length ≤ maxLen ∧ x.2.1.length < k) :
    ∀ (j i : Nat) (last : Int), i + j = l.length → (i = 0 → last = 0) → (∀ h : 0 < i, ∀ h' : i - 1 < l.length, last = l[i - 1].1) → ∀ n, j < n → G66_4 k n ((i : Int), typ, l, ()) = some (sel (itemsOK last (l.drop i)) (.inl ()) (.inr (false, ()))) := by
  intro j
  induction j with
  | zero =>
    intro i last hij h0 h1 n hn
    obtain ⟨n, rfl⟩ : ∃ m, n = m + 1 := ⟨n - 1, by omega⟩
    rw [G66_4_eq, sel_neg (by simp only [ofNat_len]; omega), List.drop_eq_nil_of_le (by omega)]
    rfl
  | succ j ih =>
    intro i last hij h0 h1 n hn
    obtain ⟨n, rfl⟩ : ∃ m, n = m + 1 := ⟨n - 1, by omega⟩
    have hlt : i < l.length := by omega
    rw [G66_4_eq]
    simp only [ofNat_len, Int.toNat_natCast, getD_of hlt]
    rw [sel_pos (by omega), sel_pos (by omega), sel_pos (by omega), sel_pos (by omega), sel_pos (by omega), drop_at hlt]
    obtain ⟨hx1, hx2⟩ := hx l[i] (List.getElem_mem _)
    rw [G19_is k hk _ _ hx1 hx2, ocall_some]
    simp only [itemsOK]
    have step := ih (i + 1) l[i].1 (by omega) (by omega) (fun _ _ => rfl) n (by omega)
    simp only [Int.natCast_add, Int.natCast_one] at step
    cases hr : rightF l[i].1 l[i].2.1 with
    | false => simp
    | true =>
      simp only [Bool.not_true, sel_false, Bool.and_true]
      have hdef : 2 ≤ l[i].1 := by
        unfold rightF at hr
        cases hd : defOf l[i].1 with
        | none => rw [hd] at hr; cases hr
        | some d =>
          obtain ⟨hm, e⟩ := defOf_mem hd
          have := (D_all d hm).1
          omega
      by_cases c : i = 0
      · subst c
        rw [sel_neg (by omega), wrap64 (by omega) (by omega), h0 rfl, decide_eq_true (by omega), Bool.true_and]
        exact step
      · have hlt' : i - 1 < l.length := by omega
        have e1 : (IntKind.i64.wrap ((i : Int) - 1)) = ((i - 1 : Nat) : Int) := by rw [wrap64 (by omega) (by omega)]; omega
        rw [sel_pos (by omega), sel_pos (by omega), sel_pos (by omega), e1, sel_pos (by omega), sel_pos (by omega), Int.toNat_natCast, getD_of hlt', ← h1 (by omega) hlt', wrap64 (by omega) (by omega)]
        by_cases c2 : l[i].1 ≤ last
        · rw [sel_pos c2, decide_eq_false (by omega)]; rfl
        · rw [sel_neg c2, decide_eq_true (by omega), Bool.true_and]
          exact step
theorem G66_is (k : Nat) (hk : 20 < k) (typ : Txt) (l : List Item) (hl : l.length ≤ 1000000000) (hlk : l.length < k) (hx : ∀ x ∈ l, x.2.1.length ≤ maxLen ∧ x.2.1.length < k) :
    G66 k ((typ, l, ()), ()) = some (msgRight (typ, l, ()), ()) := by
  rw [G66_eq]
  simp only [ofNat_len]
  rw [G62_is k hk, ocall_some]
  have := G66_4_is k hk l typ hl hx l.length 0 0 (by omega) (fun _ => rfl) (fun h => by omega) k hlk
  simp only [List.drop_zero, Int.natCast_zero] at this
  unfold msgRight
  (try simp only [])
  rw [this, ocall_some]
  cases knownT typ with
  | false => simp
  | true =>
    simp only [Bool.not_true, sel_false, Bool.and_true]
    by_cases c : l.length = 0
    · rw [sel_pos (by omega), decide_eq_false (show ¬ 0 < l.length by omega), Bool.and_false]
    · rw [sel_neg (by omega), decide_eq_true (show 0 < l.length by omega), Bool.and_true]
      cases itemsOK 0 l <;> rfl
end Go.Proofs.YtjgnpmdbkgeakaaGreatDoor.G
end
section
set_option linter.unusedVariables false
set_option linter.unusedSimpArgs false
namespace Go.Proofs.YtjgnpmdbkgeakaaGreatDoor.G
open Go Go.Proofs.YtjgnpmdbkgeakaaGreatDoor Th
def gd (tw : Bool) (d : Nat) : Nat := if tw = true then 2 * d - d / 5 * 9 else d
def fs (tw : Bool) : List UInt8 → Nat
  | [] => 0
  | c :: t => gd (tw != decide (t.length % 2 = 1)) (c.toNat - 48) + fs tw t
theorem gd_le {tw : Bool} {d : Nat} (h : d ≤ 9) : gd tw d ≤ 9 := by
  unfold gd; split <;> omega
theorem fs_le (tw : Bool) : ∀ (s : List UInt8), s.all dgt = true → fs tw s ≤ 9 * s.length
  | [], _ => by simp [fs]
  | c :: t, h => by
    simp only [List.all_cons, Bool.and_eq_true, dgt_iff] at h
    have := fs_le tw t h.2
    have := gd_le (tw := tw != decide (t.length % 2 = 1)) (d := c.toNat - 48) (by omega)
    simp only [fs, List.length_cons]; omega
theorem par_flip (tw : Bool) (n : Nat) : (tw != decide ((n + 1) % 2 = 1)) = ((!tw) != decide (n % 2 = 1)) := by
  rcases Nat.mod_two_eq_zero_or_one n with h | h
  · have : (n + 1) % 2 = 1 := by omega
    cases tw <;> simp [h, this]
  · have : (n + 1) % 2 = 0 := by omega
    cases tw <;> simp [h, this]
theorem sum_fold (l : List (Int × Int)) (tw : Bool) : Sum.sumOf l tw = (l.map (·.2)).foldl Sum.step (0, tw) := by
  unfold Sum.sumOf
  rw [List.foldl_map]
theorem backs_snd (l : List Int) : (Sum.backs l).map (·.2) = l.reverse := by
  unfold Sum.backs
  rw [List.map_reverse, List.map_map]
  congr 1
  apply List.ext_getElem
  · simp
  · intro i h1 h2
    simp at h1 h2
    simp [h2]
theorem toBytes_cons (c : UInt8) (t : List UInt8) : toBytes (c :: t) = (c.toNat : Int) :: toBytes t := rfl
theorem rwrap {n : Int} (h1 : -9223372036854775808 ≤ n) (h2 : n ≤ 9223372036854775807) : RowKit.wrap64 n = n := by
  unfold RowKit.wrap64; omega
theorem sum_is (tw : Bool) : ∀ (s : List UInt8), s.all dgt = true → s.length ≤ 1000000000 → (toBytes s).reverse.foldl Sum.step (0, tw) = ((fs tw s : Int), tw != decide (s.length % 2 = 1))
  | [], _, _ => by simp [toBytes, fs]
  | c :: t, h, hl => by
    have h' := h
    simp only [List.all_cons, Bool.and_eq_true, dgt_iff] at h
    simp only [List.length_cons] at hl
    have hle := fs_le tw t h.2
    rw [toBytes_cons, List.reverse_cons, List.foldl_append, sum_is tw t h.2 (by omega)]
    simp only [List.foldl_cons, List.foldl_nil, Sum.step, fs, List.length_cons]
    have e1 : ((c.toNat : Int) - 48) % 256 = ((c.toNat - 48 : Nat) : Int) := by omega
    have hg := gd_le (tw := tw != decide (t.length % 2 = 1)) (d := c.toNat - 48) (by omega)
    rw [e1]
    refine Prod.ext ?_ ?_
    · (try simp only [])
      have e2 : (bif (tw != decide (t.length % 2 = 1)) then ((c.toNat - 48 : Nat) : Int) * 2 - ((c.toNat - 48 : Nat) : Int) / 5 * 9 else ((c.toNat - 48 : Nat) : Int)) = ((gd (tw != decide (t.length % 2 = 1)) (c.toNat - 48) : Nat) : Int) := by
        unfold gd
        cases (tw != decide (t.length % 2 = 1))
        · simp
        · simp only [cond_true, if_true]; omega
      rw [e2, rwrap (by omega) (by omega)]
      omega
    · (try simp only [])
      rw [par_flip]
      cases tw <;> simp
theorem G97_is (k : Nat) (s : List UInt8) (tw : Bool) (h : s.all dgt = true) (hl : s.length ≤ 1000000000) : G97 k (s, tw, ()) = some ((fs tw s : Int), ()) := by
  rw [G97_eq, sel_pos (by (try simp only []); omega), sum_fold, backs_snd, sum_is tw s h hl]
def isFine (s : List UInt8) : Bool := isDig s && decide (fs false s % 10 = 0)
theorem all_of_isDig {s : List UInt8} (h : isDig s = true) : s.all dgt = true := by simp [isDig] at h; simpa using h.2
theorem tmod10 (n : Nat) : ((n : Int)).tmod 10 = ((n % 10 : Nat) : Int) := by simp [Int.tmod_eq_emod_of_nonneg]
theorem G60_is (k : Nat) (s : List UInt8) (hl : s.length ≤ 1000000000) (hk : s.length < k) : G60 k (s, ()) = some (isFine s, ()) := by
  rw [G60_eq, G96_is k s (by rw [maxLen_eq]; omega) hk, ocall_some]
  unfold isFine
  cases hd : isDig s with
  | false => rfl
  | true =>
    simp only [sel_true]
    rw [G97_is k s false (all_of_isDig hd) hl, ocall_some, tmod10]
    simp only [Bool.true_and]
    have : decide (((fs false s % 10 : Nat) : Int) = 0) = decide (fs false s % 10 = 0) := decide_eq_decide.2 (by omega)
    rw [this]
theorem G21_5_is (k : Nat) (s : List UInt8) (hs : s.length ≤ 1000000000) (hd : s.all dgt = true) : ∀ (j i a : Nat), i + j = s.length → a ≤ 9 * i → ∀ n, j < n →
    G21_5 k n (s, (a : Int), (i : Int), ()) = some (((a + fs false (s.drop i) : Nat) : Int), ()) := by
  intro j
  induction j with
  | zero =>
    intro i a hij ha n hn
    obtain ⟨n, rfl⟩ : ∃ m, n = m + 1 := ⟨n - 1, by omega⟩
    rw [G21_5_eq, sel_neg (by simp only [ofNat_len]; omega), List.drop_eq_nil_of_le (by omega)]
    rfl
  | succ j ih =>
    intro i a hij ha n hn
    obtain ⟨n, rfl⟩ : ∃ m, n = m + 1 := ⟨n - 1, by omega⟩
    have hlt : i < s.length := by omega
    have hc := List.all_eq_true.1 hd s[i] (List.getElem_mem _)
    rw [dgt_iff] at hc
    rw [G21_5_eq]
    simp only [Int.toNat_natCast, getD_of hlt, ofNat_len, Int.ofNat_eq_natCast]
    rw [sel_pos (by omega), sel_pos (by omega), sel_pos (by omega)]
    have w1 : IntKind.i64.wrap ((s.length : Int) - (i : Int)) = ((s.length - i : Nat) : Int) := by rw [wrap64 (by omega) (by omega)]; omega
    have w2 : IntKind.i64.wrap (((s[i]).toNat : Nat) : Int) = (((s[i]).toNat : Nat) : Int) := wrap64 (by omega) (by omega)
    have w3 : IntKind.i64.wrap ((((s[i]).toNat : Nat) : Int) - 48) = (((s[i]).toNat - 48 : Nat) : Int) := by rw [wrap64 (by omega) (by omega)]; omega
    have w4 : IntKind.i64.wrap (2 * (((s[i]).toNat - 48 : Nat) : Int)) = 2 * (((s[i]).toNat - 48 : Nat) : Int) := wrap64 (by omega) (by omega)
    have w5 : IntKind.i64.wrap (2 * (((s[i]).toNat - 48 : Nat) : Int) - 9) = 2 * (((s[i]).toNat - 48 : Nat) : Int) - 9 := wrap64 (by omega) (by omega)
    have e1 : (((s.length - i : Nat) : Int)).tmod 2 = (((s.length - i) % 2 : Nat) : Int) := by simp [Int.tmod_eq_emod_of_nonneg]
    simp only [w1, w2, w3, w4, w5, e1]
    rw [drop_at hlt]
    simp only [fs]
    have hl : (s.drop (i + 1)).length = s.length - (i + 1) := by simp
    rw [hl]
    generalize hd9 : (s[i]).toNat - 48 = d at *
    have fin : ∀ q : Nat, q ≤ 9 → gd (false != decide ((s.length - (i + 1)) % 2 = 1)) d = q → ∀ z : Int, z = (q : Int) → G21_5 k n (s, IntKind.i64.wrap ((a : Int) + z), IntKind.i64.wrap ((i : Int) + 1), ()) = some (((a + (gd (false != decide ((s.length - (i + 1)) % 2 = 1)) d + fs false (s.drop (i + 1))) : Nat) : Int), ()) := by
      intro q hq hqe z hz
      subst hz
      rw [wrap64 (by omega) (by omega), wrap64 (by omega) (by omega), hqe]
      have := ih (i + 1) (a + q) (by omega) (by omega) n (by omega)
      rw [Nat.add_assoc] at this
      exact this
    by_cases c1 : (s.length - i) % 2 = 0
    · rw [sel_pos (by omega)]
      have e2 : (s.length - (i + 1)) % 2 = 1 := by omega
      by_cases c2 : (9 : Int) < 2 * (d : Int)
      · rw [sel_pos c2]
        exact fin (2 * d - 9) (by omega) (by simp [gd, e2]; omega) _ (by omega)
      · rw [sel_neg c2]
        exact fin (2 * d) (by omega) (by simp [gd, e2]; omega) _ (by omega)
    · rw [sel_neg (by omega)]
      have e2 : (s.length - (i + 1)) % 2 = 0 := by omega
      exact fin d (by omega) (by simp [gd, e2]) _ rfl
theorem G21_is (k : Nat) (s : List UInt8) (hl : s.length ≤ 1000000000) (hk : s.length < k) : G21 k (s, ()) = some (isFine s, ()) := by
  rw [G21_eq, G43_is k s (by rw [maxLen_eq]; omega) hk, ocall_some]
  unfold isFine
  cases hd : isDig s with
  | false => rfl
  | true =>
    simp only [Bool.not_true, sel_false]
    have := G21_5_is k s hl (all_of_isDig hd) s.length 0 0 (by omega) (by omega) k hk
    simp only [Int.natCast_zero, List.drop_zero, Nat.zero_add] at this
    rw [this, ocall_some, tmod10]
    simp only [Bool.true_and]
    have : decide (((fs false s % 10 : Nat) : Int) = 0) = decide (fs false s % 10 = 0) := decide_eq_decide.2 (by omega)
    rw [this]
end Go.Proofs.YtjgnpmdbkgeakaaGreatDoor.G
end
section
set_option linter.unusedVariables false
set_option linter.unusedSimpArgs false
set_option maxRecDepth 100000
namespace Go.Proofs.YtjgnpmdbkgeakaaGreatDoor.G
open Go Go.Proofs.YtjgnpmdbkgeakaaGreatDoor Th
abbrev Deal := Int × Txt × Int × Int × Txt × Txt × Unit
def TY : List Txt := [[], [48, 49, 48, 48], [48, 49, 49, 48], [48, 52, 48, 48], [48, 52, 49, 48], [48, 52, 50, 48], [48, 52, 50, 49], [48, 52, 51, 48]]
def typeK (kind : Int) : Txt := if kind < 0 ∨ 8 ≤ kind then [] else TY.getD kind.toNat []
theorem G34_is (k : Nat) (kind : Int) : G34 k (kind, ()) = some (typeK kind, ()) := by
  rw [G34_eq]
  unfold typeK
  by_cases c1 : kind < 0
  · rw [sel_pos c1, if_pos (.inl c1)]
  by_cases c2 : 8 ≤ kind
  · rw [sel_neg c1, sel_pos c2, if_pos (.inr c2)]
  rw [sel_neg c1, sel_neg c2, sel_pos (by omega), sel_pos (show (kind, ()).fst < Int.ofNat 8 by simp only [Int.ofNat_eq_natCast]; omega), if_neg (by omega)]
  rfl
def asksK (kind : Int) : Bool := decide (kind = 1 ∨ kind = 3 ∨ kind = 5 ∨ kind = 6)
theorem G59_is (k : Nat) (kind : Int) : G59 k (kind, ()) = some (asksK kind, ()) := by
  rw [G59_eq]
  unfold asksK
  simp only [sel_dec]
  by_cases h1 : kind = 1
  · simp [h1]
  by_cases h3 : kind = 3
  · simp [h3]
  by_cases h5 : kind = 5
  · simp [h5]
  by_cases h6 : kind = 6 <;> simp [h1, h3, h5, h6]
theorem G20_is (k : Nat) (kind : Int) : G20 k (kind, ()) = some (asksK kind, ()) := by
  rw [G20_eq]
  unfold asksK
  simp only [sel_dec]
  by_cases h1 : kind = 1
  · simp [h1]
  by_cases h3 : kind = 3
  · simp [h3]
  by_cases h5 : kind = 5
  · simp [h5]
  by_cases h6 : kind = 6 <;> simp [h1, h3, h5, h6]
def zeros : Txt := List.replicate 32 48
def stanT (stan : Int) : Txt := (putOK stan.toNat 6).1
def amtT (amt : Int) : Txt := (putOK amt.toNat 12).1
def originT (stan : Int) : Txt := [48, 49, 48, 48] ++ stanT stan ++ zeros
def itemsK (d : Deal) : List Item :=
  if asksK d.1 = true then [(2, d.2.1, ()), (4, amtT d.2.2.1, ()), (11, stanT d.2.2.2.1, ()), (37, d.2.2.2.2.1, ())] ++ (if 5 ≤ d.1 then [(90, originT d.2.2.2.1, ())] else [])
  else [(11, stanT d.2.2.2.1, ()), (37, d.2.2.2.2.1, ()), (39, d.2.2.2.2.2.1, ())]
theorem putOK_le (v : Nat) (n : Int) : (putOK v n).1.length ≤ 19 := by
  unfold putOK
  split
  · simp
  · split
    · simp only [digs_len]; omega
    · simp
theorem put_is (k : Nat) (hk : 20 < k) (v n : Int) (h0 : 0 ≤ v) (h1 : v ≤ 18446744073709551615) : G73 k (v, n, ()) = some ((putOK v.toNat n).1, (putOK v.toNat n).2, ()) := by
  have := G73_is k hk v.toNat n (by omega)
  rwa [show ((v.toNat : Nat) : Int) = v by omega] at this
theorem G35_is (k : Nat) (hk : 20 < k) (kind : Int) (pan : Txt) (amt stan : Int) (rrn code : Txt) (ha : 0 ≤ amt ∧ amt ≤ 18446744073709551615) (hs : 0 ≤ stan ∧ stan ≤ 4294967295) :
    G35 k ((kind, pan, amt, stan, rrn, code, ()), ()) = some (itemsK (kind, pan, amt, stan, rrn, code, ()), ()) := by
  rw [G35_eq]
  (try simp only [])
  rw [wrapu64 (by omega) (by omega), put_is k hk stan 6 (by omega) (by omega), ocall_some, G59_is, ocall_some]
  unfold itemsK
  (try simp only [])
  cases asksK kind with
  | false => rfl
  | true =>
    simp only [Bool.not_true, sel_false, if_true]
    rw [put_is k hk amt 12 (by omega) (by omega), ocall_some, G34_is, ocall_some]
    have hl := putOK_le stan.toNat 6
    have ht : typeK 1 = [48, 49, 48, 48] := rfl
    rw [ht]
    by_cases c : 5 ≤ kind
    · rw [sel_pos c, sel_pos (by simp only [List.length_cons, List.length_nil]; omega), sel_pos (by simp only [List.length_append, List.length_cons, List.length_nil]; omega), if_pos c]
      rfl
    · rw [sel_neg c, if_neg c]
      rfl
def dealOK (d : Deal) : Bool := decide (1 ≤ d.1) && decide (d.1 ≤ 7) && decide (d.2.2.2.1 ≤ 999999) && rightF 37 d.2.2.2.2.1 &&
  (if asksK d.1 = true then isFine d.2.1 && decide (d.2.1.length < 20) && decide (d.2.2.1 < 1000000000000) && decide (d.2.2.2.2.2.1 = []) else rightF 39 d.2.2.2.2.2.1 && decide (d.2.1 = []) && decide (d.2.2.1 = 0))
theorem rf11 (s : Txt) : rightF 11 s = (decide (s.length = 6) && isDig s) := by
  have : defOf 11 = some (11, 1, 6, ()) := rfl
  unfold rightF; rw [this]
  simp [sized, ahead, signs, Signs.signsOf]
  by_cases h : s.length = 6 <;> simp [h]; omega
theorem rf4 (s : Txt) : rightF 4 s = (decide (s.length = 12) && isDig s) := by
  have : defOf 4 = some (4, 1, 12, ()) := rfl
  unfold rightF; rw [this]
  simp [sized, ahead, signs, Signs.signsOf]
  by_cases h : s.length = 12 <;> simp [h]; omega
theorem rf90 (s : Txt) : rightF 90 s = (decide (s.length = 42) && isDig s) := by
  have : defOf 90 = some (90, 1, 42, ()) := rfl
  unfold rightF; rw [this]
  simp [sized, ahead, signs, Signs.signsOf]
  by_cases h : s.length = 42 <;> simp [h]; omega
theorem rf2 (s : Txt) : rightF 2 s = (decide (1 ≤ s.length) && decide (s.length ≤ 19) && isDig s) := by
  have : defOf 2 = some (2, 3, 19, ()) := rfl
  unfold rightF; rw [this]
  simp [sized, ahead, signs, Signs.signsOf]
  have : decide ((s.length : Int) ≤ 19) = decide (s.length ≤ 19) := decide_eq_decide.2 (by omega)
  rw [this]
theorem stanT_of {stan : Int} (h0 : 0 ≤ stan) (h : stan ≤ 999999) : stanT stan = digs stan.toNat 6 := by
  unfold stanT putOK
  rw [if_neg (by omega), if_pos (show stan.toNat / 10 ^ (6 : Int).toNat = 0 from Nat.div_eq_of_lt (by show stan.toNat < 10 ^ 6; omega))]
  rfl
theorem stanT_no {stan : Int} (h : ¬ stan ≤ 999999) : stanT stan = [] := by
  unfold stanT putOK
  rw [if_neg (by omega), if_neg]
  show ¬ stan.toNat / 10 ^ 6 = 0
  intro e
  have := (Nat.div_eq_zero_iff).1 e
  omega
theorem amtT_of {amt : Int} (h0 : 0 ≤ amt) (h : amt < 1000000000000) : amtT amt = digs amt.toNat 12 := by
  unfold amtT putOK
  rw [if_neg (by omega), if_pos (show amt.toNat / 10 ^ (12 : Int).toNat = 0 from Nat.div_eq_of_lt (by show amt.toNat < 10 ^ 12; omega))]
  rfl
theorem amtT_no {amt : Int} (h : ¬ amt < 1000000000000) : amtT amt = [] := by
  unfold amtT putOK
  rw [if_neg (by omega), if_neg]
  show ¬ amt.toNat / 10 ^ 12 = 0
  intro e
  have := (Nat.div_eq_zero_iff).1 e
  omega
theorem digs_all : ∀ (n v : Nat), (digs v n).all dgt = true := by
  intro n
  induction n with
  | zero => intro v; rfl
  | succ n ih =>
    intro v
    simp only [digs, List.all_append, ih, List.all_cons, List.all_nil, Bool.and_true, Bool.true_and]
    rw [dgt_iff, chr_toNat (by omega)]
    omega
theorem isDig_of {n v : Nat} (h : 0 < n) : isDig (digs v n) = true := by
  unfold isDig
  rw [digs_all, digs_len, decide_eq_true h]; rfl
theorem rf11_stan {stan : Int} (h0 : 0 ≤ stan) : rightF 11 (stanT stan) = decide (stan ≤ 999999) := by
  by_cases h : stan ≤ 999999
  · rw [rf11, stanT_of h0 h, digs_len, isDig_of (by omega), decide_eq_true h]; rfl
  · rw [rf11, stanT_no h, decide_eq_false h]; rfl
theorem rf4_amt {amt : Int} (h0 : 0 ≤ amt) : rightF 4 (amtT amt) = decide (amt < 1000000000000) := by
  by_cases h : amt < 1000000000000
  · rw [rf4, amtT_of h0 h, digs_len, isDig_of (by omega), decide_eq_true h]; rfl
  · rw [rf4, amtT_no h, decide_eq_false h]; rfl
theorem rf90_origin {stan : Int} (h0 : 0 ≤ stan) (h : stan ≤ 999999) : rightF 90 (originT stan) = true := by
  rw [rf90]
  unfold originT zeros
  rw [stanT_of h0 h]
  have hl : ([48, 49, 48, 48] ++ digs stan.toNat 6 ++ List.replicate 32 (48 : UInt8)).length = 42 := by simp [digs_len]
  have ha : ([48, 49, 48, 48] ++ digs stan.toNat 6 ++ List.replicate 32 (48 : UInt8)).all dgt = true := by
    rw [List.all_append, List.all_append, digs_all]; rfl
  unfold isDig
  rw [hl, ha]; rfl
theorem rf2_fine {pan : Txt} (h : isFine pan = true) : rightF 2 pan = decide (pan.length < 20) := by
  have hd : isDig pan = true := by unfold isFine at h; simp at h; exact h.1
  have hp : 0 < pan.length := by unfold isDig at hd; simp at hd; exact hd.1
  rw [rf2, hd, decide_eq_true (show 1 ≤ pan.length by omega)]
  have : decide (pan.length ≤ 19) = decide (pan.length < 20) := decide_eq_decide.2 (by omega)
  rw [this]; simp
theorem known_type (kind : Int) : knownT (typeK kind) = (decide (1 ≤ kind) && decide (kind ≤ 7)) := by
  by_cases h : kind < 0 ∨ 8 ≤ kind
  · have : typeK kind = [] := by unfold typeK; rw [if_pos h]
    rw [this]
    rcases h with h | h
    · rw [decide_eq_false (show ¬ 1 ≤ kind by omega)]; rfl
    · rw [decide_eq_false (show ¬ kind ≤ 7 by omega), Bool.and_false]; rfl
  · have : kind = 0 ∨ kind = 1 ∨ kind = 2 ∨ kind = 3 ∨ kind = 4 ∨ kind = 5 ∨ kind = 6 ∨ kind = 7 := by omega
    rcases this with rfl | rfl | rfl | rfl | rfl | rfl | rfl | rfl <;> rfl
theorem asks_kind {kind : Int} (h : asksK kind = true) : 1 ≤ kind ∧ kind ≤ 7 := by
  simp [asksK] at h; omega
theorem right_eq (kind : Int) (pan : Txt) (amt stan : Int) (rrn code : Txt) (ha : 0 ≤ amt) (hs : 0 ≤ stan) :
    (if asksK kind = true then decide (code = []) && isFine pan && msgRight (typeK kind, itemsK (kind, pan, amt, stan, rrn, code, ()), ())
     else decide (pan = []) && decide (amt = 0) && msgRight (typeK kind, itemsK (kind, pan, amt, stan, rrn, code, ()), ())) = dealOK (kind, pan, amt, stan, rrn, code, ()) := by
  unfold dealOK msgRight itemsK
  (try simp only [])
  cases hk : asksK kind with
  | true =>
    obtain ⟨k1, k7⟩ := asks_kind hk
    simp only [if_true, known_type, decide_eq_true k1, decide_eq_true k7]
    by_cases hf : isFine pan = true
    · by_cases c : 5 ≤ kind
      · simp only [if_pos c, List.cons_append, List.nil_append, itemsOK, rf2_fine hf, rf4_amt ha, rf11_stan hs]
        by_cases hst : stan ≤ 999999
        · simp only [rf90_origin hs hst, decide_eq_true hst, hf]
          cases rightF 37 rrn <;> by_cases h1 : pan.length < 20 <;> by_cases h2 : amt < 1000000000000 <;> by_cases h3 : code = [] <;> simp [h1, h2, h3]
        · simp [hst]
      · simp only [if_neg c, List.append_nil, itemsOK, rf2_fine hf, rf4_amt ha, rf11_stan hs, hf]
        cases rightF 37 rrn <;> by_cases h0 : stan ≤ 999999 <;> by_cases h1 : pan.length < 20 <;> by_cases h2 : amt < 1000000000000 <;> by_cases h3 : code = [] <;> simp [h0, h1, h2, h3]
    · have hf : isFine pan = false := by simpa using hf
      simp [hf]
  | false =>
    simp only [Bool.false_eq_true, if_false, known_type, itemsOK, rf11_stan hs]
    cases rightF 37 rrn <;> cases rightF 39 code <;> by_cases h0 : stan ≤ 999999 <;> by_cases h1 : pan = [] <;> by_cases h2 : amt = 0 <;> by_cases h3 : 1 ≤ kind <;> by_cases h4 : kind ≤ 7 <;> simp [h0, h1, h2, h3, h4]
theorem itemsK_len (d : Deal) : (itemsK d).length ≤ 5 := by
  unfold itemsK; split
  · split <;> simp
  · simp
theorem itemsK_txt (d : Deal) (L : Nat) (h1 : d.2.1.length ≤ L) (h2 : d.2.2.2.2.1.length ≤ L) (h3 : d.2.2.2.2.2.1.length ≤ L) : ∀ x ∈ itemsK d, x.2.1.length ≤ L + 60 := by
  have a1 : (amtT d.2.2.1).length ≤ 19 := putOK_le _ _
  have a2 : (stanT d.2.2.2.1).length ≤ 19 := putOK_le _ _
  have a3 : (originT d.2.2.2.1).length ≤ 60 := by unfold originT zeros; simp; omega
  intro x hx
  unfold itemsK at hx
  split at hx
  · split at hx
    · simp at hx
      rcases hx with rfl | rfl | rfl | rfl | rfl <;> (try simp only []) <;> omega
    · simp at hx
      rcases hx with rfl | rfl | rfl | rfl <;> (try simp only []) <;> omega
  · simp at hx
    rcases hx with rfl | rfl | rfl <;> (try simp only []) <;> omega
def lens (L : Nat) (d : Deal) : Prop := d.2.1.length ≤ L ∧ d.2.2.2.2.1.length ≤ L ∧ d.2.2.2.2.2.1.length ≤ L
instance (L : Nat) (d : Deal) : Decidable (lens L d) := by unfold lens; infer_instance
def goodD (d : Deal) : Prop := (0 ≤ d.2.2.1 ∧ d.2.2.1 ≤ 18446744073709551615) ∧ 0 ≤ d.2.2.2.1 ∧ d.2.2.2.1 ≤ 4294967295
theorem G33_is (k L : Nat) (hL : L ≤ 1000000) (hk : L + 100 < k) (d : Deal) (hl : lens L d) (hg : goodD d) : G33 k (d, ()) = some (dealOK d, ()) := by
  obtain ⟨kind, pan, amt, stan, rrn, code, ⟨⟩⟩ := d
  obtain ⟨l1, l2, l3⟩ := hl
  obtain ⟨ha, hs⟩ := hg
  (try simp only [] at l1 l2 l3 ha hs)
  rw [← right_eq kind pan amt stan rrn code ha.1 hs.1, G33_eq]
  (try simp only [])
  have hm : G36 k ((typeK kind, itemsK (kind, pan, amt, stan, rrn, code, ()), ()), ()) = some (msgRight (typeK kind, itemsK (kind, pan, amt, stan, rrn, code, ()), ()), ()) := by
    have h5 := itemsK_len (kind, pan, amt, stan, rrn, code, ())
    refine G36_is k (by omega) _ _ (by omega) (by omega) fun x hx => ?_
    have := itemsK_txt (kind, pan, amt, stan, rrn, code, ()) L l1 l2 l3 x hx
    rw [maxLen_eq]; omega
  rw [G59_is, ocall_some, G60_is k pan (by omega) (by omega), ocall_some, G34_is, ocall_some, G35_is k (by omega) kind pan amt stan rrn code ha hs, ocall_some, hm, ocall_some]
  cases asksK kind with
  | true =>
    simp only [sel_true, if_true]
    by_cases c : code = []
    · cases isFine pan <;> simp [c]
    · rw [sel_eq]; simp [c]
  | false =>
    simp only [sel_false, Bool.false_eq_true, if_false]
    by_cases c : pan = []
    · by_cases c2 : amt = 0 <;> simp [c, c2]
    · rw [sel_eq]; simp [c]
theorem G9_is (k L : Nat) (hL : L ≤ 1000000) (hk : L + 100 < k) (d : Deal) (hl : lens L d) (hg : goodD d) : G9 k (d, ()) = some (dealOK d, ()) := by
  obtain ⟨kind, pan, amt, stan, rrn, code, ⟨⟩⟩ := d
  obtain ⟨l1, l2, l3⟩ := hl
  obtain ⟨ha, hs⟩ := hg
  (try simp only [] at l1 l2 l3 ha hs)
  rw [G9_eq]
  unfold dealOK
  simp only [ofNat_len]
  have r37 := G19_is k (by omega) 37 rrn (by rw [maxLen_eq]; omega) (by omega)
  have r39 := G19_is k (by omega) 39 code (by rw [maxLen_eq]; omega) (by omega)
  have rf := G21_is k pan (by omega) (by omega)
  by_cases h1 : kind < 1
  · rw [sel_pos h1, decide_eq_false (show ¬ 1 ≤ kind by omega)]; rfl
  rw [sel_neg h1, decide_eq_true (show 1 ≤ kind by omega)]
  by_cases h2 : 7 < kind
  · rw [sel_pos h2, decide_eq_false (show ¬ kind ≤ 7 by omega)]; rfl
  rw [sel_neg h2, decide_eq_true (show kind ≤ 7 by omega)]
  by_cases h3 : (999999 : Int) < stan
  · rw [sel_pos h3, decide_eq_false (show ¬ stan ≤ 999999 by omega)]; rfl
  rw [sel_neg h3, decide_eq_true (show stan ≤ 999999 by omega), r37, ocall_some]
  generalize rightF 37 rrn = b37
  cases b37 with
  | false => rfl
  | true =>
    simp only [Bool.not_true, sel_false, Bool.and_true, Bool.true_and]
    rw [G20_is, ocall_some]
    generalize asksK kind = bk
    cases bk with
    | true =>
      simp only [sel_true, if_true]
      rw [rf, ocall_some]
      generalize isFine pan = bf
      cases bf with
      | false => rfl
      | true =>
        simp only [sel_true, Bool.true_and]
        by_cases c : pan.length < 20
        · rw [sel_pos (show (pan.length : Int) < 20 by omega), decide_eq_true c]
          by_cases c2 : amt < 1000000000000
          · rw [sel_pos c2, decide_eq_true c2]; rfl
          · rw [sel_neg c2, decide_eq_false c2]; rfl
        · rw [sel_neg (show ¬ (pan.length : Int) < 20 by omega), decide_eq_false c]; rfl
    | false =>
      simp only [sel_false, Bool.false_eq_true, if_false]
      rw [r39, ocall_some]
      generalize rightF 39 code = bf
      cases bf with
      | false => rfl
      | true =>
        simp only [sel_true, Bool.true_and]
        by_cases c : pan = []
        · rw [sel_pos c, decide_eq_true c]; rfl
        · rw [sel_neg c, decide_eq_false c]; rfl
end Go.Proofs.YtjgnpmdbkgeakaaGreatDoor.G
end
section
set_option linter.unusedVariables false
set_option linter.unusedSimpArgs false
namespace Go.Proofs.YtjgnpmdbkgeakaaGreatDoor.G
open Go Go.Proofs.YtjgnpmdbkgeakaaGreatDoor Th
theorem chr_dig {e : Nat} (h : e ≤ 9) : (UInt8.ofNat (48 + e)).toNat = 48 + e := chr_toNat (by omega)
theorem chr_dgt {e : Nat} (h : e ≤ 9) : dgt (UInt8.ofNat (48 + e)) = true := by rw [dgt_iff, chr_dig h]; omega
theorem val_snoc (a : Nat) (s : List UInt8) (c : UInt8) : val a (s ++ [c]) = 10 * val a s + (c.toNat - 48) := by
  unfold val; rw [List.foldl_append, List.foldl_cons, List.foldl_nil]
theorem val_digs : ∀ (n v : Nat), val 0 (digs v n) = v % 10 ^ n
  | 0, v => by simp [digs, val, Nat.mod_one]
  | n + 1, v => by
    have h10 : v % 10 < 10 := Nat.mod_lt _ (by omega)
    rw [digs, val_snoc, val_digs n, chr_dig (by omega), Nat.pow_succ, Nat.mul_comm (10 ^ n) 10, Nat.mod_mul]
    omega
theorem digs_dig : ∀ (n v : Nat), (digs v n).all dgt = true
  | 0, _ => rfl
  | n + 1, v => by
    have h10 : v % 10 < 10 := Nat.mod_lt _ (by omega)
    rw [digs, List.all_append, digs_dig n]
    simp only [List.all_cons, List.all_nil, Bool.and_true, Bool.true_and]
    exact chr_dgt (by omega)
theorem isDig_digs (n v : Nat) (h : 0 < n) : isDig (digs v n) = true := by
  simp [isDig, digs_len, digs_dig, h]
theorem chr_back {c : UInt8} (h : dgt c = true) : UInt8.ofNat (48 + (c.toNat - 48)) = c := by
  rw [dgt_iff] at h
  rw [show 48 + (c.toNat - 48) = c.toNat from by omega]
  simp
theorem digs_val : ∀ (n : Nat) (s : List UInt8), s.length = n → s.all dgt = true → digs (val 0 s) n = s ∧ val 0 s < 10 ^ n := by
  intro n
  induction n with
  | zero => intro s hs _; have : s = [] := List.length_eq_zero_iff.1 hs; subst this; exact ⟨rfl, by simp [val]⟩
  | succ n ih =>
    intro s hs hd
    obtain ⟨t, c, rfl⟩ : ∃ t c, s = t ++ [c] := ⟨s.dropLast, s.getLast (by intro h; rw [h] at hs; simp at hs), (List.dropLast_concat_getLast _).symm⟩
    simp only [List.all_append, List.all_cons, List.all_nil, Bool.and_true, Bool.and_eq_true] at hd
    obtain ⟨h1, h2⟩ := ih t (by simpa using hs) hd.1
    have hc := hd.2
    rw [dgt_iff] at hc
    rw [val_snoc]
    have e1 : (10 * val 0 t + (c.toNat - 48)) / 10 = val 0 t := by omega
    have e2 : (10 * val 0 t + (c.toNat - 48)) % 10 = c.toNat - 48 := by omega
    refine ⟨by rw [digs, e1, e2, h1, chr_back hd.2], ?_⟩
    rw [Nat.pow_succ]; omega
theorem get_digs (n v : Nat) (h0 : 0 < n) (h19 : n ≤ 19) (hv : v < 10 ^ n) : getOK (digs v n) = (v, 0) := by
  unfold getOK
  rw [digs_len, if_neg (by omega), if_neg (by omega), isDig_digs n v h0, if_pos rfl, val_digs, Nat.mod_eq_of_lt hv]
theorem toBytes_len (s : List UInt8) : (toBytes s).length = s.length := by simp [toBytes]
theorem ofBytes_toBytes (s : List UInt8) : ofBytes (toBytes s) = s := by
  unfold ofBytes toBytes
  rw [List.map_map]
  conv => rhs; rw [← List.map_id s]
  apply List.map_congr_left
  intro c _
  simp
theorem toBytes_drop (s : List UInt8) (n : Nat) : (toBytes s).drop n = toBytes (s.drop n) := by simp [toBytes, List.map_drop]
theorem len_ok {d : Def} (hd : d ∈ D) {n : Nat} (h : sized d n = true) (ha : ahead d.2.1 ≠ 0) : 1 ≤ n ∧ n < 10 ^ ahead d.2.1 ∧ (n : Int) ≤ d.2.2.1 := by
  obtain ⟨_, _, _, _, h1, h2, h3⟩ := D_all d hd
  unfold sized at h
  rw [if_neg ha] at h
  simp only [Bool.and_eq_true, decide_eq_true_eq] at h
  rcases ahead_cases (kind := d.2.1) with e | e | e
  · exact absurd e ha
  · have := h3 (ahead_two e)
    rw [e]; refine ⟨h.1, ?_, h.2⟩; omega
  · rw [e]; refine ⟨h.1, ?_, h.2⟩; omega
theorem writeF_len (d : Def) (s : List UInt8) : (writeF d s).length = ahead d.2.1 + s.length := by
  unfold writeF
  split
  · rename_i h; rw [h]; omega
  · rw [List.length_append, digs_len]
theorem lenF_write {d : Def} (hd : d ∈ D) (s t : List UInt8) (h : sized d s.length = true) : lenF d (writeF d s ++ t) = ((s.length : Int), 0) := by
  unfold lenF writeF
  by_cases ha : ahead d.2.1 = 0
  · rw [if_pos ha]
    unfold sized at h
    rw [if_pos ha] at h
    simp only [decide_eq_true_eq] at h
    rw [h]
  · obtain ⟨l1, l2, l3⟩ := len_ok hd h ha
    have h19 : ahead d.2.1 ≤ 19 := by rcases ahead_cases (kind := d.2.1) with e | e | e <;> omega
    rw [if_neg ha, if_neg ha, if_neg (by simp [digs_len]), List.append_assoc, List.take_append_of_le_length (by rw [digs_len]; omega), List.take_of_length_le (by rw [digs_len]; omega),
      get_digs _ _ (by omega) h19 l2, if_pos ⟨rfl, by omega⟩, if_neg (by (try simp only []); omega)]
theorem read_write {d : Def} (hd : d ∈ D) (s t : List UInt8) (h : sized d s.length = true) (hs : signs d s = true) : readF d (writeF d s ++ t) = (s, ((writeF d s).length : Int), 0) := by
  have hl := lenF_write hd s t h
  have hw := writeF_len d s
  unfold readF
  rw [hl]
  simp only [if_true]
  have e : ((ahead d.2.1 : Int) + (s.length : Int)).toNat = (writeF d s).length := by omega
  rw [if_neg (by rw [List.length_append]; omega), e, List.take_append_of_le_length (Nat.le_refl _), List.take_of_length_le (Nat.le_refl _)]
  have e2 : (writeF d s).drop (ahead d.2.1) = s := by
    unfold writeF
    split
    · rename_i ha; rw [ha]; rfl
    · rw [List.drop_append_of_le_length (by rw [digs_len]; omega), List.drop_of_length_le (by rw [digs_len]; omega)]; rfl
  rw [e2, if_pos hs, hw]
  simp
theorem read_back {d : Def} (hd : d ∈ D) (b : List UInt8) (h : (readF d b).2.2 = 0) :
    ∃ k : Nat, (readF d b).2.1 = (k : Int) ∧ 0 < k ∧ k ≤ b.length ∧ sized d (readF d b).1.length = true ∧ signs d (readF d b).1 = true ∧ writeF d (readF d b).1 = b.take k := by
  obtain ⟨_, _, _, _, z1, z2, z3⟩ := D_all d hd
  unfold readF at h ⊢
  by_cases c0 : (lenF d b).2 = 0
  · rw [if_pos c0] at h ⊢
    obtain ⟨l1, l2⟩ := lenF_le hd c0
    by_cases c1 : (b.length : Int) < (ahead d.2.1 : Int) + (lenF d b).1
    · rw [if_pos c1] at h; cases h
    · rw [if_neg c1] at h ⊢
      obtain ⟨l, hl⟩ : ∃ l : Nat, (lenF d b).1 = (l : Int) := ⟨(lenF d b).1.toNat, by omega⟩
      rw [hl] at h ⊢ c1 l1 l2
      have e : ((ahead d.2.1 : Int) + (l : Int)).toNat = ahead d.2.1 + l := by omega
      rw [e] at h ⊢
      split at h
      · rename_i hs
        rw [if_pos hs]
        refine ⟨ahead d.2.1 + l, by simp, by omega, by omega, ?_⟩
        have el : ((b.take (ahead d.2.1 + l)).drop (ahead d.2.1)).length = l := by rw [List.length_drop, List.length_take]; omega
        (try simp only [])
        rw [el]
        refine ⟨?_, hs, ?_⟩
        · unfold sized
          unfold lenF at hl
          by_cases ha : ahead d.2.1 = 0
          · rw [if_pos ha] at hl ⊢
            (try simp only [] at hl)
            rw [hl]; simp
          · rw [if_neg ha]
            simp only [Bool.and_eq_true, decide_eq_true_eq]
            omega
        · unfold writeF
          by_cases ha : ahead d.2.1 = 0
          · rw [if_pos ha, ha]; rfl
          · rw [if_neg ha, el]
            have hd2 : digs l (ahead d.2.1) = b.take (ahead d.2.1) := by
              unfold lenF at hl c0
              rw [if_neg ha] at hl c0
              by_cases q : b.length < ahead d.2.1
              · rw [if_pos q] at c0; cases c0
              rw [if_neg q] at hl c0
              by_cases q2 : (getOK (b.take (ahead d.2.1))).2 = 0 ∧ (getOK (b.take (ahead d.2.1))).1 ≠ 0
              · rw [if_pos q2] at hl c0
                by_cases q3 : d.2.2.1 < ((getOK (b.take (ahead d.2.1))).1 : Int)
                · rw [if_pos q3] at c0; cases c0
                · rw [if_neg q3] at hl
                  have hv : (getOK (b.take (ahead d.2.1))).1 = l := by (try simp only [] at hl); omega
                  have hb : (b.take (ahead d.2.1)).length = ahead d.2.1 := by rw [List.length_take]; omega
                  have hg := q2.1
                  unfold getOK at hv hg
                  rw [hb, if_neg ha] at hv hg
                  by_cases q4 : 19 < ahead d.2.1
                  · rw [if_pos q4] at hg; cases hg
                  rw [if_neg q4] at hv hg
                  by_cases q5 : isDig (b.take (ahead d.2.1)) = true
                  · rw [if_pos q5] at hv
                    (try simp only [] at hv)
                    rw [← hv]
                    exact (digs_val _ _ hb (all_of_isDig q5)).1
                  · rw [if_neg q5] at hg; cases hg
              · rw [if_neg q2] at c0; cases c0
            rw [hd2]
            conv => rhs; rw [← List.take_append_drop (ahead d.2.1) (b.take (ahead d.2.1 + l))]
            rw [List.take_take, show min (ahead d.2.1) (ahead d.2.1 + l) = ahead d.2.1 from by omega]
      · cases h
  · rw [if_neg c0] at h; exact absurd h c0
end Go.Proofs.YtjgnpmdbkgeakaaGreatDoor.G
end
section
set_option linter.unusedVariables false
set_option linter.unusedSimpArgs false
set_option maxRecDepth 100000
namespace Go.Proofs.YtjgnpmdbkgeakaaGreatDoor.G
open Go Go.Proofs.YtjgnpmdbkgeakaaGreatDoor Th
def kindT (s : Txt) : Int :=
  if s = [48, 49, 48, 48] then 1 else if s = [48, 49, 49, 48] then 2 else if s = [48, 52, 48, 48] then 3 else if s = [48, 52, 49, 48] then 4 else if s = [48, 52, 50, 48] then 5 else if s = [48, 52, 50, 49] then 6 else if s = [48, 52, 51, 48] then 7 else 0
theorem G55_2_step (k n : Nat) (s t : Txt) (i : Int) (h1 : 1 ≤ i) (h7 : i ≤ 7) (ht : typeK i = t) : G55_2 k (n + 1) (s, i, ()) = sel (decide (t = s)) (some (.inr (i, ()))) (G55_2 k n (s, i + 1, ())) := by
  rw [G55_2_eq, sel_pos h7, G34_is, ocall_some, wrap64 (show -9223372036854775808 ≤ i + 1 by omega) (show i + 1 ≤ 9223372036854775807 by omega), ht]
theorem G55_2_last (k n : Nat) (s : Txt) (i : Int) (h : ¬ i ≤ 7) : G55_2 k (n + 1) (s, i, ()) = some (.inl ()) := by
  rw [G55_2_eq, sel_neg h]
theorem G55_is (k : Nat) (hk : 20 < k) (s : Txt) : G55 k (s, ()) = some (kindT s, ()) := by
  obtain ⟨m, rfl⟩ : ∃ m, k = m + 8 := ⟨k - 8, by omega⟩
  rw [G55_eq]
  (try simp only [])
  rw [G55_2_step (m + 8) (m + 7) s [48, 49, 48, 48] 1 (by omega) (by omega) rfl, G55_2_step (m + 8) (m + 6) s [48, 49, 49, 48] (1 + 1) (by omega) (by omega) rfl, G55_2_step (m + 8) (m + 5) s [48, 52, 48, 48] (1 + 1 + 1) (by omega) (by omega) rfl,
    G55_2_step (m + 8) (m + 4) s [48, 52, 49, 48] (1 + 1 + 1 + 1) (by omega) (by omega) rfl, G55_2_step (m + 8) (m + 3) s [48, 52, 50, 48] (1 + 1 + 1 + 1 + 1) (by omega) (by omega) rfl,
    G55_2_step (m + 8) (m + 2) s [48, 52, 50, 49] (1 + 1 + 1 + 1 + 1 + 1) (by omega) (by omega) rfl, G55_2_step (m + 8) (m + 1) s [48, 52, 51, 48] (1 + 1 + 1 + 1 + 1 + 1 + 1) (by omega) (by omega) rfl,
    G55_2_last (m + 8) m s _ (by omega)]
  unfold kindT
  by_cases h1 : s = [48, 49, 48, 48]
  · rw [sel_pos h1.symm, if_pos h1]; rfl
  rw [sel_neg (fun e => h1 e.symm), if_neg h1]
  by_cases h2 : s = [48, 49, 49, 48]
  · rw [sel_pos h2.symm, if_pos h2]; rfl
  rw [sel_neg (fun e => h2 e.symm), if_neg h2]
  by_cases h3 : s = [48, 52, 48, 48]
  · rw [sel_pos h3.symm, if_pos h3]; rfl
  rw [sel_neg (fun e => h3 e.symm), if_neg h3]
  by_cases h4 : s = [48, 52, 49, 48]
  · rw [sel_pos h4.symm, if_pos h4]; rfl
  rw [sel_neg (fun e => h4 e.symm), if_neg h4]
  by_cases h5 : s = [48, 52, 50, 48]
  · rw [sel_pos h5.symm, if_pos h5]; rfl
  rw [sel_neg (fun e => h5 e.symm), if_neg h5]
  by_cases h6 : s = [48, 52, 50, 49]
  · rw [sel_pos h6.symm, if_pos h6]; rfl
  rw [sel_neg (fun e => h6 e.symm), if_neg h6]
  by_cases h7 : s = [48, 52, 51, 48]
  · rw [sel_pos h7.symm, if_pos h7]; rfl
  rw [sel_neg (fun e => h7 e.symm), if_neg h7]
  rfl
def numM (n : Int) (l : List Item) : Int := (((getOK (getM n l).1).1 : Nat) : Int)
theorem G56_is (k : Nat) (hk : 20 < k) (n : Int) (typ : Txt) (l : List Item) (hl : l.length ≤ 1000000000) (hlk : l.length < k) : G56 k ((typ, l, ()), n, ()) = some (numM n l, ()) := by
  rw [G56_eq, G57_is k n typ l hl hlk, ocall_some, G93_is k _ hk, ocall_some]
  rfl
theorem getOK_lt (s : Txt) : (getOK s).1 < 10 ^ 19 := by
  unfold getOK
  split
  · simp
  split
  · simp
  split
  · rename_i h1 h2 h3
    have := val_lt s 0 (all_of_isDig h3)
    have := pow_le19 (i := s.length) (by omega)
    simp only [Nat.zero_add, Nat.one_mul] at *
    omega
  · simp
theorem numM_good (n : Int) (l : List Item) : 0 ≤ numM n l ∧ numM n l ≤ 18446744073709551615 := by
  have := getOK_lt (getM n l).1
  unfold numM
  constructor
  · omega
  · have e : (10 : Nat) ^ 19 = 10000000000000000000 := rfl
    omega
def mustK (kind : Int) : List Int := if kind = 5 ∨ kind = 6 then [2, 4, 11, 37, 90] else if asksK kind = true then [2, 4, 11, 37] else [11, 37, 39]
theorem items_must (d : Deal) : (itemsK d).map (·.1) = mustK d.1 := by
  unfold itemsK mustK
  by_cases h : asksK d.1 = true
  · rw [if_pos h]
    have hh := h
    simp only [asksK, decide_eq_true_eq] at hh
    by_cases c : 5 ≤ d.1
    · rw [if_pos c, if_pos (by omega)]; rfl
    · rw [if_neg c, if_neg (by omega), if_pos h]; rfl
  · rw [if_neg h]
    have hh := h
    simp only [asksK, decide_eq_true_eq] at hh
    rw [if_neg (by omega), if_neg h]; rfl
def fitsM (l : List Item) (d : Deal) : Bool := decide ((itemsK d).map (·.1) = l.map (·.1))
theorem G58_5_is (k : Nat) (a b : List Item) (typ : Txt) (hab : a.length = b.length) (hl : a.length ≤ 1000000000) : ∀ (j i : Nat), i + j = a.length → ∀ m, j < m →
    G58_5 k m (a, (a.length : Int), (i : Int), typ, b, ()) = some (sel (decide ((a.drop i).map (·.1) = (b.drop i).map (·.1))) (.inl ()) (.inr (false, ()))) := by
  intro j
  induction j with
  | zero =>
    intro i hij m hm
    obtain ⟨m, rfl⟩ : ∃ q, m = q + 1 := ⟨m - 1, by omega⟩
    rw [G58_5_eq, sel_neg (by (try simp only []); omega), List.drop_eq_nil_of_le (by omega), List.drop_eq_nil_of_le (by omega)]
    rfl
  | succ j ih =>
    intro i hij m hm
    obtain ⟨m, rfl⟩ : ∃ q, m = q + 1 := ⟨m - 1, by omega⟩
    have hlt : i < a.length := by omega
    have hlt' : i < b.length := by omega
    rw [G58_5_eq]
    simp only [ofNat_len, Int.toNat_natCast, getD_of hlt, getD_of hlt']
    rw [sel_pos (by omega), sel_pos (by omega), sel_pos (by omega), sel_pos hlt, sel_pos (by omega), sel_pos (by omega), drop_at hlt, drop_at hlt']
    simp only [List.map_cons, List.cons.injEq]
    by_cases c : b[i].1 = a[i].1
    · rw [decide_eq_true c, Bool.not_true, sel_false, wrap64 (by omega) (by omega)]
      have := ih (i + 1) (by omega) m (by omega)
      simp only [Int.natCast_add, Int.natCast_one] at this
      rw [this]
      have e : decide (a[i].1 = b[i].1 ∧ (a.drop (i + 1)).map (·.1) = (b.drop (i + 1)).map (·.1)) = decide ((a.drop (i + 1)).map (·.1) = (b.drop (i + 1)).map (·.1)) := decide_eq_decide.2 ⟨fun h => h.2, fun h => ⟨c.symm, h⟩⟩
      rw [e]
    · rw [decide_eq_false c, Bool.not_false, sel_true, decide_eq_false (fun h => c h.1.symm)]
      rfl
theorem G58_is (k : Nat) (hk : 20 < k) (typ : Txt) (l : List Item) (kind : Int) (pan : Txt) (amt stan : Int) (rrn code : Txt) (ha : 0 ≤ amt ∧ amt ≤ 18446744073709551615) (hs : 0 ≤ stan ∧ stan ≤ 4294967295) :
    G58 k ((typ, l, ()), (kind, pan, amt, stan, rrn, code, ()), ()) = some (fitsM l (kind, pan, amt, stan, rrn, code, ()), ()) := by
  rw [G58_eq]
  (try simp only [])
  rw [G35_is k hk kind pan amt stan rrn code ha hs, ocall_some]
  have h5 := itemsK_len (kind, pan, amt, stan, rrn, code, ())
  unfold fitsM
  simp only [ofNat_len]
  by_cases c : (itemsK (kind, pan, amt, stan, rrn, code, ())).length = l.length
  · rw [decide_eq_true (show ((itemsK (kind, pan, amt, stan, rrn, code, ())).length : Int) = (l.length : Int) by omega), Bool.not_true, sel_false]
    have := G58_5_is k (itemsK (kind, pan, amt, stan, rrn, code, ())) l typ c (by omega) (itemsK (kind, pan, amt, stan, rrn, code, ())).length 0 (by omega) k (by omega)
    simp only [List.drop_zero, Int.natCast_zero] at this
    rw [this, ocall_some]
    cases decide ((itemsK (kind, pan, amt, stan, rrn, code, ())).map (·.1) = l.map (·.1)) <;> rfl
  · rw [decide_eq_false (show ¬ ((itemsK (kind, pan, amt, stan, rrn, code, ())).length : Int) = (l.length : Int) by omega), Bool.not_false, sel_true, decide_eq_false (fun h => c (by have := congrArg List.length h; simpa using this))]
def zeroD : Deal := (0, [], 0, 0, [], [], ())
def deM (m : Msg) : Deal := (kindT m.1, (getM 2 m.2.1).1, numM 4 m.2.1, IntKind.u32.wrap (numM 11 m.2.1), (getM 37 m.2.1).1, (getM 39 m.2.1).1, ())
def readD (m : Msg) : Deal × Int :=
  if msgRight m = true then
    if m.2.1.map (·.1) = mustK (kindT m.1) then
      if asksK (kindT m.1) = true ∧ isFine (getM 2 m.2.1).1 = false then (zeroD, 3)
      else if (kindT m.1 = 5 ∨ kindT m.1 = 6) ∧ (getM 90 m.2.1).1 ≠ [48, 49, 48, 48] ++ (getM 11 m.2.1).1 ++ zeros then (zeroD, 11)
      else (deM m, 0)
    else (zeroD, 3)
  else (zeroD, 1)
theorem wrap32_good (n : Int) : 0 ≤ IntKind.u32.wrap n ∧ IntKind.u32.wrap n ≤ 4294967295 := by
  have : IntKind.u32.wrap n = n % 4294967296 := rfl
  rw [this]; omega
theorem items3 {l : List Item} (h : l.map (·.1) = [11, 37, 39]) : ∃ a b c, l = [(11, a, ()), (37, b, ()), (39, c, ())] := by
  match l, h with
  | [(x, a, ⟨⟩), (y, b, ⟨⟩), (z, c, ⟨⟩)], h =>
    simp only [List.map_cons, List.map_nil, List.cons.injEq, and_true] at h
    obtain ⟨rfl, rfl, rfl⟩ := h
    exact ⟨a, b, c, rfl⟩
theorem items4 {l : List Item} (h : l.map (·.1) = [2, 4, 11, 37]) : ∃ a b c d, l = [(2, a, ()), (4, b, ()), (11, c, ()), (37, d, ())] := by
  match l, h with
  | [(x, a, ⟨⟩), (y, b, ⟨⟩), (z, c, ⟨⟩), (w, d, ⟨⟩)], h =>
    simp only [List.map_cons, List.map_nil, List.cons.injEq, and_true] at h
    obtain ⟨rfl, rfl, rfl, rfl⟩ := h
    exact ⟨a, b, c, d, rfl⟩
theorem items5 {l : List Item} (h : l.map (·.1) = [2, 4, 11, 37, 90]) : ∃ a b c d e, l = [(2, a, ()), (4, b, ()), (11, c, ()), (37, d, ()), (90, e, ())] := by
  match l, h with
  | [(x, a, ⟨⟩), (y, b, ⟨⟩), (z, c, ⟨⟩), (w, d, ⟨⟩), (v, e, ⟨⟩)], h =>
    simp only [List.map_cons, List.map_nil, List.cons.injEq, and_true] at h
    obtain ⟨rfl, rfl, rfl, rfl, rfl⟩ := h
    exact ⟨a, b, c, d, e, rfl⟩
theorem stan_back {s : Txt} (h : rightF 11 s = true) : 0 ≤ IntKind.u32.wrap (((getOK s).1 : Nat) : Int) ∧ IntKind.u32.wrap (((getOK s).1 : Nat) : Int) ≤ 999999 ∧ stanT (IntKind.u32.wrap (((getOK s).1 : Nat) : Int)) = s ∧ s.length = 6 := by
  rw [rf11, Bool.and_eq_true, decide_eq_true_eq] at h
  obtain ⟨hl, hd⟩ := h
  have ha := all_of_isDig hd
  obtain ⟨h1, h2⟩ := digs_val 6 s hl ha
  have e : getOK s = (val 0 s, 0) := by
    unfold getOK
    rw [if_neg (by omega), if_neg (by omega), if_pos hd]
  rw [e]
  (try simp only [])
  have h3 : val 0 s < 1000000 := h2
  rw [wrapu32 (by omega) (by omega)]
  refine ⟨by omega, by omega, ?_, hl⟩
  rw [stanT_of (by omega) (by omega), Int.toNat_natCast, h1]
theorem items_right {m : Msg} (h : msgRight m = true) : itemsOK 0 m.2.1 = true ∧ knownT m.1 = true := by
  unfold msgRight at h
  simp only [Bool.and_eq_true] at h
  exact ⟨h.1.1, h.1.2⟩
theorem kind_five {kind : Int} : (asksK kind = true ∧ 5 ≤ kind) ↔ (kind = 5 ∨ kind = 6) := by
  unfold asksK; simp only [decide_eq_true_eq]; omega
theorem rf37_in {l : List Item} {kind : Int} (hm : l.map (·.1) = mustK kind) (hr : itemsOK 0 l = true) : rightF 37 (getM 37 l).1 = true ∧ rightF 11 (getM 11 l).1 = true := by
  unfold mustK at hm
  split at hm
  · obtain ⟨a, b, c, d, e, rfl⟩ := items5 hm
    simp only [itemsOK, Bool.and_eq_true] at hr
    simp [getM]
    exact ⟨hr.2.2.2.1.2, hr.2.2.1.2⟩
  split at hm
  · obtain ⟨a, b, c, d, rfl⟩ := items4 hm
    simp only [itemsOK, Bool.and_eq_true] at hr
    simp [getM]
    exact ⟨hr.2.2.2.1.2, hr.2.2.1.2⟩
  · obtain ⟨a, b, c, rfl⟩ := items3 hm
    simp only [itemsOK, Bool.and_eq_true] at hr
    simp [getM]
    exact ⟨hr.2.1.2, hr.1.2⟩
theorem origin_of (stan : Int) (s : Txt) (h : stanT stan = s) : originT stan = [48, 49, 48, 48] ++ s ++ zeros := by unfold originT; rw [h]
theorem G27_is (k : Nat) (hk : 2000 < k) (typ : Txt) (l : List Item) (hl : l.length ≤ 1000) (hx : ∀ x ∈ l, x.2.1.length ≤ 1200) :
    G27 k ((typ, l, ()), ()) = some ((readD (typ, l, ())).1, (readD (typ, l, ())).2, ()) := by
  rw [G27_eq]
  (try simp only [])
  rw [G36_is k (by omega) typ l (by omega) (by omega) (fun x h => ⟨by have := hx x h; rw [maxLen_eq]; omega, by have := hx x h; omega⟩), ocall_some]
  unfold readD
  (try simp only [])
  by_cases hr : msgRight (typ, l, ()) = true
  case neg => rw [if_neg hr]; rw [show msgRight (typ, l, ()) = false by simpa using hr]; rfl
  rw [if_pos hr, hr]
  obtain ⟨r1, r2⟩ := items_right hr
  (try simp only [] at r1 r2)
  simp only [Bool.not_true, sel_false]
  have hg : ∀ n, G57 k ((typ, l, ()), n, ()) = some ((getM n l).1, (getM n l).2, ()) := fun n => G57_is k n typ l (by omega) (by omega)
  have hn : ∀ n, G56 k ((typ, l, ()), n, ()) = some (numM n l, ()) := fun n => G56_is k (by omega) n typ l (by omega) (by omega)
  have hd : deM (typ, l, ()) = (kindT typ, (getM 2 l).1, numM 4 l, IntKind.u32.wrap (numM 11 l), (getM 37 l).1, (getM 39 l).1, ()) := rfl
  have l2 := getM_len 2 1200 l hx
  have l37 := getM_len 37 1200 l hx
  have hi := G35_is k (by omega) (kindT typ) (getM 2 l).1 (numM 4 l) (IntKind.u32.wrap (numM 11 l)) (getM 37 l).1 (getM 39 l).1 (numM_good 4 l) (wrap32_good _)
  have hf := G58_is k (by omega) typ l (kindT typ) (getM 2 l).1 (numM 4 l) (IntKind.u32.wrap (numM 11 l)) (getM 37 l).1 (getM 39 l).1 (numM_good 4 l) (wrap32_good _)
  have hq := G60_is k (getM 2 l).1 (by omega) (by omega)
  have h37 := G61_is k (by omega) 37 (getM 37 l).1 (by rw [maxLen_eq]; omega) (by omega)
  simp only [G55_is k (by omega), hn, hg, ocall_some, hf, G59_is, hq, hi, h37]
  unfold fitsM
  rw [items_must]
  (try simp only [])
  by_cases cm : l.map (·.1) = mustK (kindT typ)
  case neg =>
    rw [if_neg cm, decide_eq_false (fun e => cm e.symm)]; rfl
  rw [if_pos cm, decide_eq_true cm.symm]
  obtain ⟨q37, q11⟩ := rf37_in cm r1
  obtain ⟨s0, s1, s2, s3⟩ := stan_back q11
  rw [q37, hd]
  simp only [Bool.not_true, sel_false]
  by_cases ca : asksK (kindT typ) = true
  case neg =>
    have ca' : asksK (kindT typ) = false := by simpa using ca
    rw [ca']
    rw [if_neg (fun e => by cases e.1), if_neg (fun e => ca (kind_five.2 e.1).1)]
    simp only [sel_false]
    by_cases c5 : 5 ≤ kindT typ
    · rw [sel_pos c5]
    · rw [sel_neg c5]
  rw [ca]
  simp only [sel_true, true_and]
  by_cases cf : isFine (getM 2 l).1 = true
  case neg =>
    have cf' : isFine (getM 2 l).1 = false := by simpa using cf
    rw [cf', if_pos rfl]; rfl
  rw [cf, if_neg (by simp)]
  simp only [Bool.not_true, sel_false]
  by_cases c5 : 5 ≤ kindT typ
  case neg =>
    rw [sel_neg c5, if_neg (fun e => c5 (kind_five.2 e.1).2)]
  rw [sel_pos c5]
  have e5 : itemsK (kindT typ, (getM 2 l).1, numM 4 l, IntKind.u32.wrap (numM 11 l), (getM 37 l).1, (getM 39 l).1, ()) = [(2, (getM 2 l).1, ()), (4, amtT (numM 4 l), ()), (11, stanT (IntKind.u32.wrap (numM 11 l)), ()), (37, (getM 37 l).1, ()), (90, originT (IntKind.u32.wrap (numM 11 l)), ())] := by
    unfold itemsK; (try simp only []); rw [if_pos ca, if_pos c5]; rfl
  rw [e5, sel_pos (by simp only [List.length_cons, List.length_nil]; decide), sel_pos (by simp only [List.length_cons, List.length_nil]; decide)]
  have eg : ∀ (a b c d e : Item), (([a, b, c, d, e] : List Item).getD (Int.toNat 4) (OfNat.ofNat 0, [], ())) = e := fun _ _ _ _ _ => rfl
  simp only [eg]
  have e6 : originT (IntKind.u32.wrap (numM 11 l)) = [48, 49, 48, 48] ++ (getM 11 l).1 ++ zeros := origin_of _ _ s2
  rw [e6]
  by_cases co : (getM 90 l).1 = [48, 49, 48, 48] ++ (getM 11 l).1 ++ zeros
  · rw [if_neg (fun e => e.2 co)]
    rw [co]
    rw [sel_not, sel_pos rfl]
  · rw [if_pos ⟨kind_five.1 ⟨ca, c5⟩, co⟩, sel_not, sel_neg co]
    rfl
end Go.Proofs.YtjgnpmdbkgeakaaGreatDoor.G
end
section
set_option linter.unusedVariables false
set_option linter.unusedSimpArgs false
set_option maxRecDepth 100000
namespace Go.Proofs.YtjgnpmdbkgeakaaGreatDoor.G
open Go Go.Proofs.YtjgnpmdbkgeakaaGreatDoor Th
theorem G67_is (k : Nat) (kind : Int) : G67 k (kind, ()) = some (mustK kind, ()) := by
  rw [G67_eq]
  unfold mustK
  by_cases h5 : kind = 5
  · rw [sel_pos h5, if_pos (.inl h5)]
  rw [sel_neg h5]
  by_cases h6 : kind = 6
  · rw [sel_pos h6, if_pos (.inr h6)]
  rw [sel_neg h6, if_neg (by omega), G20_is, ocall_some]
  cases asksK kind <;> rfl
theorem G49_is (k : Nat) (s : Txt) (h : s.length ≤ 100000) : G49 k (s, ()) = some ([48, 49, 48, 48] ++ s ++ zeros, ()) := by
  rw [G49_eq, sel_pos (by (try simp only []); omega), sel_pos (by simp only [List.length_cons]; omega)]
  rfl
theorem G48_is (k : Nat) (hk : 20 < k) (v n : Int) (h0 : 0 ≤ v) (h1 : v ≤ 18446744073709551615) : G48 k (v, n, ()) = some ((putOK v.toNat n).1, ()) := by
  rw [G48_eq]
  have := G88_is k hk v.toNat n (by omega)
  rw [show ((v.toNat : Nat) : Int) = v by omega] at this
  (try simp only [])
  rw [this, ocall_some]
theorem typeK_at {kind : Int} (h1 : 1 ≤ kind) (h7 : kind ≤ 7) : KT.getD (kind - 1).toNat [] = typeK kind := by
  have : kind = 1 ∨ kind = 2 ∨ kind = 3 ∨ kind = 4 ∨ kind = 5 ∨ kind = 6 ∨ kind = 7 := by omega
  rcases this with rfl | rfl | rfl | rfl | rfl | rfl | rfl <;> rfl
theorem G24_is (k : Nat) (hk : 20 < k) (kind : Int) (pan : Txt) (amt stan : Int) (rrn code : Txt) (h1 : 1 ≤ kind) (h7 : kind ≤ 7) (ha : 0 ≤ amt ∧ amt ≤ 18446744073709551615) (hs : 0 ≤ stan ∧ stan ≤ 4294967295) :
    G24 k ((kind, pan, amt, stan, rrn, code, ()), ()) = some ((typeK kind, itemsK (kind, pan, amt, stan, rrn, code, ()), ()), ()) := by
  rw [G24_eq, G47_eq, ocall_some]
  (try simp only [])
  have e1 : IntKind.i64.wrap (kind - 1) = kind - 1 := wrap64 (by omega) (by omega)
  have e2 := typeK_at h1 h7
  unfold KT at e2
  have hl := putOK_le stan.toNat 6
  have ho : G49 k (stanT stan, ()) = some (originT stan, ()) := G49_is k (stanT stan) (by unfold stanT; omega)
  have hA : G48 k (amt, 12, ()) = some (amtT amt, ()) := G48_is k hk amt 12 ha.1 ha.2
  have hS : G48 k (stan, 6, ()) = some (stanT stan, ()) := G48_is k hk stan 6 hs.1 (by omega)
  rw [e1, e2]
  have w : IntKind.u64.wrap stan = stan := wrapu64 (by omega) (by omega)
  rw [sel_pos (by omega), sel_pos (by simp only [List.length_cons, List.length_nil, Int.ofNat_eq_natCast]; omega), sel_pos (by simp only [List.length_cons, List.length_nil]; omega)]
  simp only [w, G20_is, ocall_some, hA, hS]
  simp only [ho, ocall_some]
  unfold itemsK
  (try simp only [])
  by_cases ca : asksK kind = true
  · rw [ca, if_pos rfl]
    simp only [Bool.not_true, sel_false, sel_true]
    have hh := ca
    simp only [asksK, decide_eq_true_eq] at hh
    by_cases h5 : kind = 5
    · rw [sel_pos h5, if_pos (by omega)]; rfl
    rw [sel_neg h5]
    by_cases h6 : kind = 6
    · rw [sel_pos h6, if_pos (by omega)]; rfl
    rw [sel_neg h6, if_neg (by omega)]; rfl
  · have ca' : asksK kind = false := by simpa using ca
    have hh := ca
    simp only [asksK, decide_eq_true_eq] at hh
    rw [ca', if_neg (by simp)]
    simp only [Bool.not_false, sel_false, sel_true]
    rw [sel_neg (by omega), sel_neg (by omega)]
theorem G29_5_step (k n : Nat) (i : Nat) (hi : i < 7) (typ : Txt) (l : List Item) (a : Int) (b : Txt) (c d : Int) (e f : Txt) (kind : Int) (q : Txt × Int × Int × Txt × Txt × Unit) (t : Txt) (ht : KT.getD i [] = t) :
    G29_5 k (n + 1) ((i : Int), typ, l, a, b, c, d, e, f, kind, q) = G29_5 k n (((i + 1 : Nat) : Int), typ, l, a, b, c, d, e, f, (if t = typ then ((i + 1 : Nat) : Int) else kind), q) := by
  rw [G29_5_eq]
  (try simp only [])
  rw [sel_pos (by omega), G47_eq, ocall_some]
  simp only [Int.toNat_natCast]
  unfold KT at ht
  rw [sel_pos (by omega), sel_pos (by simp only [List.length_cons, List.length_nil, Int.ofNat_eq_natCast]; omega), sel_pos (by simp only [List.length_cons, List.length_nil]; omega), wrap64 (by omega) (by omega)]
  by_cases c : t = typ
  · rw [sel_pos (ht.trans c), if_pos c]; rfl
  · rw [sel_neg (fun e => c (ht.symm.trans e)), if_neg c]; rfl
theorem G29_5_last (k n : Nat) (typ : Txt) (l : List Item) (a : Int) (b : Txt) (c d : Int) (e f : Txt) (kind : Int) (q : Txt × Int × Int × Txt × Txt × Unit) :
    G29_5 k (n + 1) (((7 : Nat) : Int), typ, l, a, b, c, d, e, f, kind, q) = some (typ, l, a, b, c, d, e, f, kind, q) := by
  rw [G29_5_eq, sel_neg (by (try simp only []); omega)]
theorem kind_last (typ : Txt) : (if [48, 52, 51, 48] = typ then (7 : Int) else if [48, 52, 50, 49] = typ then 6 else if [48, 52, 50, 48] = typ then 5 else if [48, 52, 49, 48] = typ then 4 else if [48, 52, 48, 48] = typ then 3 else if [48, 49, 49, 48] = typ then 2 else if [48, 49, 48, 48] = typ then 1 else 0) = kindT typ := by
  unfold kindT
  by_cases h1 : typ = [48, 49, 48, 48]
  · subst h1; decide
  by_cases h2 : typ = [48, 49, 49, 48]
  · subst h2; decide
  by_cases h3 : typ = [48, 52, 48, 48]
  · subst h3; decide
  by_cases h4 : typ = [48, 52, 49, 48]
  · subst h4; decide
  by_cases h5 : typ = [48, 52, 50, 48]
  · subst h5; decide
  by_cases h6 : typ = [48, 52, 50, 49]
  · subst h6; decide
  by_cases h7 : typ = [48, 52, 51, 48]
  · subst h7; decide
  rw [if_neg (fun e => h7 e.symm), if_neg (fun e => h6 e.symm), if_neg (fun e => h5 e.symm), if_neg (fun e => h4 e.symm), if_neg (fun e => h3 e.symm), if_neg (fun e => h2 e.symm), if_neg (fun e => h1 e.symm),
    if_neg h1, if_neg h2, if_neg h3, if_neg h4, if_neg h5, if_neg h6, if_neg h7]
theorem G29_5_is (k : Nat) (hk : 20 < k) (typ : Txt) (l : List Item) (a : Int) (b : Txt) (c d : Int) (e f : Txt) (q : Txt × Int × Int × Txt × Txt × Unit) :
    G29_5 k k (0, typ, l, a, b, c, d, e, f, 0, q) = some (typ, l, a, b, c, d, e, f, kindT typ, q) := by
  obtain ⟨m, rfl⟩ : ∃ m, k = m + 8 := ⟨k - 8, by omega⟩
  rw [show ((0 : Int), typ, l, a, b, c, d, e, f, (0 : Int), q) = (((0 : Nat) : Int), typ, l, a, b, c, d, e, f, (0 : Int), q) from rfl,
    G29_5_step (m + 8) (m + 7) 0 (by omega) typ l a b c d e f _ q [48, 49, 48, 48] rfl, G29_5_step (m + 8) (m + 6) 1 (by omega) typ l a b c d e f _ q [48, 49, 49, 48] rfl,
    G29_5_step (m + 8) (m + 5) 2 (by omega) typ l a b c d e f _ q [48, 52, 48, 48] rfl, G29_5_step (m + 8) (m + 4) 3 (by omega) typ l a b c d e f _ q [48, 52, 49, 48] rfl,
    G29_5_step (m + 8) (m + 3) 4 (by omega) typ l a b c d e f _ q [48, 52, 50, 48] rfl, G29_5_step (m + 8) (m + 2) 5 (by omega) typ l a b c d e f _ q [48, 52, 50, 49] rfl,
    G29_5_step (m + 8) (m + 1) 6 (by omega) typ l a b c d e f _ q [48, 52, 51, 48] rfl, G29_5_last (m + 8) m]
  have := kind_last typ
  simp only [Nat.zero_add, Nat.reduceAdd] at *
  rw [← this]
  rfl
def upd (q : Txt × Int × Int × Txt × Txt × Unit) (x : Item) : Txt × Int × Int × Txt × Txt × Unit :=
  if x.1 = 2 then (x.2.1, q.2) else if x.1 = 4 then (q.1, (((getOK x.2.1).1 : Nat) : Int), q.2.2) else if x.1 = 11 then (q.1, q.2.1, IntKind.u32.wrap (((getOK x.2.1).1 : Nat) : Int), q.2.2.2)
  else if x.1 = 37 then (q.1, q.2.1, q.2.2.1, x.2.1, q.2.2.2.2) else if x.1 = 39 then (q.1, q.2.1, q.2.2.1, q.2.2.2.1, x.2.1, ()) else q
theorem G29_13_is (k : Nat) (hk : 20 < k) (M : List Int) (l : List Item) (hM : M.length = l.length) (hl : l.length ≤ 1000) (hx : ∀ x ∈ l, x.2.1.length ≤ 1200) (typ : Txt) (a : Int) (b : Txt) (c d : Int) (e f : Txt) (kind : Int) :
    ∀ (j i : Nat) (q : Txt × Int × Int × Txt × Txt × Unit), i + j = l.length → ∀ n, j < n →
    G29_13 k n (M, (i : Int), typ, l, a, b, c, d, e, f, kind, q) = some (sel (decide ((l.drop i).map (·.1) = M.drop i)) (.inl (M, typ, l, a, b, c, d, e, f, kind, (l.drop i).foldl upd q)) (.inr (3, 0, [], 0, 0, [], [], ()))) := by
  intro j
  induction j with
  | zero =>
    intro i q hij n hn
    obtain ⟨n, rfl⟩ : ∃ m, n = m + 1 := ⟨n - 1, by omega⟩
    rw [G29_13_eq, sel_neg (by simp only [ofNat_len]; omega), List.drop_eq_nil_of_le (by omega), List.drop_eq_nil_of_le (by omega)]
    rfl
  | succ j ih =>
    intro i q hij n hn
    obtain ⟨n, rfl⟩ : ∃ m, n = m + 1 := ⟨n - 1, by omega⟩
    have hlt : i < l.length := by omega
    have hlt' : i < M.length := by omega
    rw [G29_13_eq]
    simp only [ofNat_len, Int.toNat_natCast, getD_of hlt, getD_of hlt']
    rw [sel_pos (by omega), sel_pos (by omega), sel_pos (by omega), sel_pos (by omega), sel_pos (by omega), sel_pos hlt', drop_at hlt, drop_at hlt']
    simp only [List.map_cons, List.cons.injEq]
    have hxl := hx l[i] (List.getElem_mem _)
    have step := fun q' => ih (i + 1) q' (by omega) n (by omega)
    simp only [Int.natCast_add, Int.natCast_one] at step
    by_cases ce : l[i].1 = M[i]
    case neg =>
      rw [decide_eq_false ce, Bool.not_false, sel_true, decide_eq_false (fun h => ce h.1)]; rfl
    rw [decide_eq_true ce, Bool.not_true, sel_false, G68_is k l[i].2.1 (by rw [maxLen_eq]; omega) hk, ocall_some, wrap64 (by omega) (by omega)]
    have ee : decide (l[i].1 = M[i] ∧ (l.drop (i + 1)).map (·.1) = M.drop (i + 1)) = decide ((l.drop (i + 1)).map (·.1) = M.drop (i + 1)) := decide_eq_decide.2 ⟨fun h => h.2, fun h => ⟨ce, h⟩⟩
    rw [ee, List.foldl_cons]
    by_cases c2 : l[i].1 = 2
    · rw [sel_pos c2]
      have : upd q l[i] = (l[i].2.1, q.2) := by unfold upd; rw [if_pos c2]
      rw [this]; exact step _
    rw [sel_neg c2]
    by_cases c4 : l[i].1 = 4
    · rw [sel_pos c4]
      have : upd q l[i] = (q.1, (((getOK l[i].2.1).1 : Nat) : Int), q.2.2) := by unfold upd; rw [if_neg c2, if_pos c4]
      rw [this]; exact step _
    rw [sel_neg c4]
    by_cases c11 : l[i].1 = 11
    · rw [sel_pos c11]
      have : upd q l[i] = (q.1, q.2.1, IntKind.u32.wrap (((getOK l[i].2.1).1 : Nat) : Int), q.2.2.2) := by unfold upd; rw [if_neg c2, if_neg c4, if_pos c11]
      rw [this]; exact step _
    rw [sel_neg c11]
    by_cases c37 : l[i].1 = 37
    · rw [sel_pos c37]
      have : upd q l[i] = (q.1, q.2.1, q.2.2.1, l[i].2.1, q.2.2.2.2) := by unfold upd; rw [if_neg c2, if_neg c4, if_neg c11, if_pos c37]
      rw [this]; exact step _
    rw [sel_neg c37]
    by_cases c39 : l[i].1 = 39
    · rw [sel_pos c39]
      have : upd q l[i] = (q.1, q.2.1, q.2.2.1, q.2.2.2.1, l[i].2.1, ()) := by unfold upd; rw [if_neg c2, if_neg c4, if_neg c11, if_neg c37, if_pos c39]
      rw [this]; exact step _
    rw [sel_neg c39]
    have : upd q l[i] = q := by unfold upd; rw [if_neg c2, if_neg c4, if_neg c11, if_neg c37, if_neg c39]
    rw [this]; exact step _
theorem kindT_known {s : Txt} (h : knownT s = true) : 1 ≤ kindT s ∧ kindT s ≤ 7 ∧ typeK (kindT s) = s := by
  unfold knownT KT at h
  simp only [List.contains_cons, List.contains_nil, Bool.or_false, Bool.or_eq_true, beq_iff_eq] at h
  rcases h with rfl | rfl | rfl | rfl | rfl | rfl | rfl <;> decide
theorem G29_is (k : Nat) (hk : 2000 < k) (typ : Txt) (l : List Item) (hl : l.length ≤ 1000) (hx : ∀ x ∈ l, x.2.1.length ≤ 1200) :
    G29 k ((typ, l, ()), ()) = some ((readD (typ, l, ())).1, (readD (typ, l, ())).2, ()) := by
  rw [G29_eq]
  (try simp only [])
  rw [G66_is k (by omega) typ l (by omega) (by omega) (fun x h => ⟨by have := hx x h; rw [maxLen_eq]; omega, by have := hx x h; omega⟩), ocall_some]
  unfold readD
  (try simp only [])
  by_cases hr : msgRight (typ, l, ()) = true
  case neg => rw [if_neg hr]; rw [show msgRight (typ, l, ()) = false by simpa using hr]; rfl
  rw [if_pos hr, hr]
  obtain ⟨r1, r2⟩ := items_right hr
  (try simp only [] at r1 r2)
  simp only [Bool.not_true, sel_false]
  have h5 := G29_5_is k (by omega) typ l 0 [] 0 0 [] [] ([], 0, 0, [], [], ())
  rw [h5, ocall_some]
  (try simp only [])
  rw [G67_is, ocall_some]
  simp only [ofNat_len]
  by_cases cl : (mustK (kindT typ)).length = l.length
  case neg =>
    rw [decide_eq_false (show ¬ ((mustK (kindT typ)).length : Int) = (l.length : Int) by omega), Bool.not_false, sel_true, if_neg (fun e => cl (by have := congrArg List.length e; simpa using this.symm))]
    rfl
  rw [decide_eq_true (show ((mustK (kindT typ)).length : Int) = (l.length : Int) by omega), Bool.not_true, sel_false]
  have h13 := G29_13_is k (by omega) (mustK (kindT typ)) l cl hl hx typ 0 [] 0 0 [] [] (kindT typ) l.length 0 ([], 0, 0, [], [], ()) (by omega) k (by omega)
  simp only [List.drop_zero, Int.natCast_zero] at h13
  rw [h13, ocall_some]
  by_cases cm : l.map (·.1) = mustK (kindT typ)
  case neg => rw [decide_eq_false cm, if_neg cm]; rfl
  rw [decide_eq_true cm, if_pos cm]
  simp only [sel_true, esel_inl]
  unfold deM
  (try simp only [])
  have hkn := kindT_known r2
  generalize hK : kindT typ = kd at *
  unfold mustK at cm
  by_cases c56 : kd = 5 ∨ kd = 6
  · rw [if_pos c56] at cm
    obtain ⟨a, b, c, d, e, rfl⟩ := items5 cm
    have ca : asksK kd = true := (kind_five.2 c56).1
    have g2 : (getM 2 [((2 : Int), a, ()), (4, b, ()), (11, c, ()), (37, d, ()), (90, e, ())]).1 = a := by simp [getM]
    have g4 : numM 4 [((2 : Int), a, ()), (4, b, ()), (11, c, ()), (37, d, ()), (90, e, ())] = (((getOK b).1 : Nat) : Int) := by simp [numM, getM]
    have g11 : (getM 11 [((2 : Int), a, ()), (4, b, ()), (11, c, ()), (37, d, ()), (90, e, ())]).1 = c := by simp [getM]
    have g11' : numM 11 [((2 : Int), a, ()), (4, b, ()), (11, c, ()), (37, d, ()), (90, e, ())] = (((getOK c).1 : Nat) : Int) := by simp [numM, getM]
    have g37 : (getM 37 [((2 : Int), a, ()), (4, b, ()), (11, c, ()), (37, d, ()), (90, e, ())]).1 = d := by simp [getM]
    have g39 : (getM 39 [((2 : Int), a, ()), (4, b, ()), (11, c, ()), (37, d, ()), (90, e, ())]).1 = [] := by simp [getM]
    have g90 : (getM 90 [((2 : Int), a, ()), (4, b, ()), (11, c, ()), (37, d, ()), (90, e, ())]).1 = e := by simp [getM]
    have fo : [((2 : Int), a, ()), (4, b, ()), (11, c, ()), (37, d, ()), (90, e, ())].foldl upd ([], 0, 0, [], [], ()) = (a, (((getOK b).1 : Nat) : Int), IntKind.u32.wrap (((getOK c).1 : Nat) : Int), d, [], ()) := by simp [upd]
    have la : a.length ≤ 1200 := hx (2, a, ()) (by simp)
    have lc : c.length ≤ 1200 := hx (11, c, ()) (by simp)
    rw [g2, g4, g11, g11', g37, g39, g90, fo]
    (try simp only [])
    have hm : mustK kd = [2, 4, 11, 37, 90] := by unfold mustK; rw [if_pos c56]
    rw [hm]
    have q1 : ∀ (x0 x1 x2 x3 x4 : Item), (([x0, x1, x2, x3, x4] : List Item).getD (Int.toNat 2) (OfNat.ofNat 0, [], ())) = x2 := fun _ _ _ _ _ => rfl
    have q2 : ∀ (x0 x1 x2 x3 x4 : Item), (([x0, x1, x2, x3, x4] : List Item).getD (Int.toNat 4) (OfNat.ofNat 0, [], ())) = x4 := fun _ _ _ _ _ => rfl
    simp only [G20_is, ocall_some, ca, sel_true, G21_is k a (by omega) (by omega), q1, q2, G49_is k c (by omega)]
    by_cases cf : isFine a = true
    case neg =>
      have cf' : isFine a = false := by simpa using cf
      rw [cf', if_pos ⟨by trivial, by trivial⟩]; rfl
    rw [cf, if_neg (by simp)]
    simp only [Bool.not_true, sel_false]
    rw [sel_pos (by simp only [List.length_cons, List.length_nil]; rfl), sel_pos (by simp only [List.length_cons, List.length_nil]; decide), sel_pos (by simp only [List.length_cons, List.length_nil]; decide)]
    by_cases co : e = [48, 49, 48, 48] ++ c ++ zeros
    · rw [sel_not, sel_pos co, if_neg (fun h => h.2 co)]
    · rw [sel_not, sel_neg co, if_pos ⟨c56, co⟩]; rfl
  rw [if_neg c56] at cm
  have hm5 : ((mustK kd).length : Int) ≠ 5 := by
    unfold mustK; rw [if_neg c56]; split <;> simp
  have hm' : ¬ ((mustK kd).length : Int) = 5 := hm5
  by_cases ca : asksK kd = true
  · rw [if_pos ca] at cm
    obtain ⟨a, b, c, d, rfl⟩ := items4 cm
    have g2 : (getM 2 [((2 : Int), a, ()), (4, b, ()), (11, c, ()), (37, d, ())]).1 = a := by simp [getM]
    have g4 : numM 4 [((2 : Int), a, ()), (4, b, ()), (11, c, ()), (37, d, ())] = (((getOK b).1 : Nat) : Int) := by simp [numM, getM]
    have g11' : numM 11 [((2 : Int), a, ()), (4, b, ()), (11, c, ()), (37, d, ())] = (((getOK c).1 : Nat) : Int) := by simp [numM, getM]
    have g37 : (getM 37 [((2 : Int), a, ()), (4, b, ()), (11, c, ()), (37, d, ())]).1 = d := by simp [getM]
    have g39 : (getM 39 [((2 : Int), a, ()), (4, b, ()), (11, c, ()), (37, d, ())]).1 = [] := by simp [getM]
    have fo : [((2 : Int), a, ()), (4, b, ()), (11, c, ()), (37, d, ())].foldl upd ([], 0, 0, [], [], ()) = (a, (((getOK b).1 : Nat) : Int), IntKind.u32.wrap (((getOK c).1 : Nat) : Int), d, [], ()) := by simp [upd]
    have la : a.length ≤ 1200 := hx (2, a, ()) (by simp)
    rw [g2, g4, g11', g37, g39, fo]
    (try simp only [])
    simp only [G20_is, ocall_some, ca, sel_true, G21_is k a (by omega) (by omega)]
    by_cases cf : isFine a = true
    case neg =>
      have cf' : isFine a = false := by simpa using cf
      rw [cf', if_pos ⟨by trivial, by trivial⟩]; rfl
    rw [cf, if_neg (by simp), if_neg (fun h => c56 h.1)]
    simp only [Bool.not_true, sel_false]
    rw [sel_neg hm']
  · rw [if_neg ca] at cm
    have ca' : asksK kd = false := by simpa using ca
    obtain ⟨a, b, c, rfl⟩ := items3 cm
    have g2 : (getM 2 [((11 : Int), a, ()), (37, b, ()), (39, c, ())]).1 = [] := by simp [getM]
    have g4 : numM 4 [((11 : Int), a, ()), (37, b, ()), (39, c, ())] = 0 := by simp [numM, getM, getOK]
    have g11' : numM 11 [((11 : Int), a, ()), (37, b, ()), (39, c, ())] = (((getOK a).1 : Nat) : Int) := by simp [numM, getM]
    have g37 : (getM 37 [((11 : Int), a, ()), (37, b, ()), (39, c, ())]).1 = b := by simp [getM]
    have g39 : (getM 39 [((11 : Int), a, ()), (37, b, ()), (39, c, ())]).1 = c := by simp [getM]
    have fo : [((11 : Int), a, ()), (37, b, ()), (39, c, ())].foldl upd ([], 0, 0, [], [], ()) = ([], 0, IntKind.u32.wrap (((getOK a).1 : Nat) : Int), b, c, ()) := by simp [upd]
    rw [g2, g4, g11', g37, g39, fo]
    (try simp only [])
    simp only [G20_is, ocall_some, ca', sel_false]
    rw [if_neg (fun h => by cases h.1), if_neg (fun h => c56 h.1), sel_neg hm']
theorem G16_is (k L : Nat) (hL : L ≤ 1000000) (hk : L + 100 < k) (d : Deal) (hl : lens L d) (hg : goodD d) : G16 k (d, ()) = some (if dealOK d = true then ((typeK d.1, itemsK d, ()), 0, ()) else (([], [], ()), 1, ())) := by
  have hR := G33_is k L hL hk d hl hg
  obtain ⟨kind, pan, amt, stan, rrn, code, ⟨⟩⟩ := d
  obtain ⟨ha, hs⟩ := hg
  (try simp only [] at ha hs)
  rw [G16_eq]
  (try simp only [])
  rw [hR, ocall_some, G34_is, ocall_some, G35_is k (by omega) kind pan amt stan rrn code ha hs, ocall_some]
  cases dealOK (kind, pan, amt, stan, rrn, code, ()) <;> rfl
set_option synthInstance.maxSize 2000 in
set_option synthInstance.maxHeartbeats 200000 in
instance decD : DecidableEq Deal := fun a b => inferInstanceAs (Decidable ((a : Int × Txt × Int × Int × Txt × Txt × Unit) = b))
theorem sameD (a b : Deal) : (sameI a.1 b.1 && (sameS a.2.1 b.2.1 && (sameI a.2.2.1 b.2.2.1 && (sameI a.2.2.2.1 b.2.2.2.1 && (sameS a.2.2.2.2.1 b.2.2.2.2.1 && (sameS a.2.2.2.2.2.1 b.2.2.2.2.2.1 && true)))))) = decide (a = b) := by
  obtain ⟨a1, a2, a3, a4, a5, a6, ⟨⟩⟩ := a
  obtain ⟨b1, b2, b3, b4, b5, b6, ⟨⟩⟩ := b
  simp only [sameI, sameS]
  by_cases h : (a1, a2, a3, a4, a5, a6, ()) = (b1, b2, b3, b4, b5, b6, ())
  · rw [decide_eq_true h]
    simp only [Prod.mk.injEq] at h
    obtain ⟨h1, h2, h3, h4, h5, h6, _⟩ := h
    simp [h1, h2, h3, h4, h5, h6]
  · rw [decide_eq_false h]
    simp only [Prod.mk.injEq, and_true] at h
    by_cases h1 : a1 = b1 <;> by_cases h2 : a2 = b2 <;> by_cases h3 : a3 = b3 <;> by_cases h4 : a4 = b4 <;> by_cases h5 : a5 = b5 <;> by_cases h6 : a6 = b6 <;> simp [h1, h2, h3, h4, h5, h6] <;> exact h ⟨h1, h2, h3, h4, h5, h6⟩
end Go.Proofs.YtjgnpmdbkgeakaaGreatDoor.G
end
section
set_option linter.unusedVariables false
set_option linter.unusedSimpArgs false
set_option maxRecDepth 100000
namespace Go.Proofs.YtjgnpmdbkgeakaaGreatDoor.G
open Go Go.Proofs.YtjgnpmdbkgeakaaGreatDoor Th
theorem kindT_type {kind : Int} (h1 : 1 ≤ kind) (h7 : kind ≤ 7) : kindT (typeK kind) = kind := by
  have : kind = 1 ∨ kind = 2 ∨ kind = 3 ∨ kind = 4 ∨ kind = 5 ∨ kind = 6 ∨ kind = 7 := by omega
  rcases this with rfl | rfl | rfl | rfl | rfl | rfl | rfl <;> decide
theorem getOK_stan {stan : Int} (h0 : 0 ≤ stan) (h : stan ≤ 999999) : IntKind.u32.wrap (((getOK (stanT stan)).1 : Nat) : Int) = stan := by
  rw [stanT_of h0 h, get_digs 6 stan.toNat (by omega) (by omega) (by show stan.toNat < 1000000; omega)]
  (try simp only [])
  rw [wrapu32 (by omega) (by omega)]
  omega
theorem getOK_amt {amt : Int} (h0 : 0 ≤ amt) (h : amt < 1000000000000) : (((getOK (amtT amt)).1 : Nat) : Int) = amt := by
  rw [amtT_of h0 h, get_digs 12 amt.toNat (by omega) (by omega) (by show amt.toNat < 1000000000000; omega)]
  (try simp only [])
  omega
theorem ok_parts {d : Deal} (h : dealOK d = true) : 1 ≤ d.1 ∧ d.1 ≤ 7 ∧ d.2.2.2.1 ≤ 999999 ∧ rightF 37 d.2.2.2.2.1 = true ∧
    ((asksK d.1 = true ∧ isFine d.2.1 = true ∧ d.2.1.length < 20 ∧ d.2.2.1 < 1000000000000 ∧ d.2.2.2.2.2.1 = []) ∨ (asksK d.1 = false ∧ rightF 39 d.2.2.2.2.2.1 = true ∧ d.2.1 = [] ∧ d.2.2.1 = 0)) := by
  unfold dealOK at h
  simp only [Bool.and_eq_true, decide_eq_true_eq] at h
  obtain ⟨⟨⟨⟨h1, h2⟩, h3⟩, h4⟩, h5⟩ := h
  refine ⟨h1, h2, h3, h4, ?_⟩
  cases ca : asksK d.1 with
  | true =>
    rw [ca, if_pos rfl] at h5
    simp only [Bool.and_eq_true, decide_eq_true_eq] at h5
    exact .inl ⟨rfl, h5.1.1.1, h5.1.1.2, h5.1.2, h5.2⟩
  | false =>
    rw [ca, if_neg (by simp)] at h5
    simp only [Bool.and_eq_true, decide_eq_true_eq] at h5
    exact .inr ⟨rfl, h5.1.1, h5.1.2, h5.2⟩
theorem ok_right {d : Deal} (hg : goodD d) (h : dealOK d = true) : msgRight (typeK d.1, itemsK d, ()) = true := by
  obtain ⟨kind, pan, amt, stan, rrn, code, ⟨⟩⟩ := d
  have e := right_eq kind pan amt stan rrn code hg.1.1 hg.2.1
  rw [h] at e
  split at e
  · simp only [Bool.and_eq_true] at e; exact e.2
  · simp only [Bool.and_eq_true] at e; exact e.2
theorem read_write_deal {d : Deal} (hg : goodD d) (h : dealOK d = true) : readD (typeK d.1, itemsK d, ()) = (d, 0) := by
  have hm := ok_right hg h
  obtain ⟨h1, h7, h3, h4, h5⟩ := ok_parts h
  unfold readD
  rw [if_pos hm]
  unfold deM
  simp only [kindT_type h1 h7]
  rw [if_pos (items_must d)]
  obtain ⟨kind, pan, amt, stan, rrn, code, ⟨⟩⟩ := d
  obtain ⟨⟨ha0, ha⟩, hs0, hs⟩ := hg
  (try simp only [] at *)
  rcases h5 with ⟨ca, cf, cl, cm, rfl⟩ | ⟨ca, cc, rfl, rfl⟩
  · by_cases c56 : kind = 5 ∨ kind = 6
    · have e5 : itemsK (kind, pan, amt, stan, rrn, [], ()) = [(2, pan, ()), (4, amtT amt, ()), (11, stanT stan, ()), (37, rrn, ()), (90, originT stan, ())] := by
        unfold itemsK; (try simp only []); rw [if_pos ca, if_pos (by omega)]; rfl
      have g2 : (getM 2 [((2 : Int), pan, ()), (4, amtT amt, ()), (11, stanT stan, ()), (37, rrn, ()), (90, originT stan, ())]).1 = pan := by simp [getM]
      have g4 : numM 4 [((2 : Int), pan, ()), (4, amtT amt, ()), (11, stanT stan, ()), (37, rrn, ()), (90, originT stan, ())] = amt := by simp [numM, getM, getOK_amt ha0 cm]
      have g11 : (getM 11 [((2 : Int), pan, ()), (4, amtT amt, ()), (11, stanT stan, ()), (37, rrn, ()), (90, originT stan, ())]).1 = stanT stan := by simp [getM]
      have g11' : IntKind.u32.wrap (numM 11 [((2 : Int), pan, ()), (4, amtT amt, ()), (11, stanT stan, ()), (37, rrn, ()), (90, originT stan, ())]) = stan := by simp [numM, getM, getOK_stan hs0 h3]
      have g37 : (getM 37 [((2 : Int), pan, ()), (4, amtT amt, ()), (11, stanT stan, ()), (37, rrn, ()), (90, originT stan, ())]).1 = rrn := by simp [getM]
      have g39 : (getM 39 [((2 : Int), pan, ()), (4, amtT amt, ()), (11, stanT stan, ()), (37, rrn, ()), (90, originT stan, ())]).1 = [] := by simp [getM]
      have g90 : (getM 90 [((2 : Int), pan, ()), (4, amtT amt, ()), (11, stanT stan, ()), (37, rrn, ()), (90, originT stan, ())]).1 = originT stan := by simp [getM]
      rw [e5, g2, g4, g11, g11', g37, g39, g90, cf, if_neg (by simp), if_neg (fun e => e.2 rfl)]
    · have e4 : itemsK (kind, pan, amt, stan, rrn, [], ()) = [(2, pan, ()), (4, amtT amt, ()), (11, stanT stan, ()), (37, rrn, ())] := by
        unfold itemsK; (try simp only []); rw [if_pos ca, if_neg (fun e => c56 (kind_five.1 ⟨ca, e⟩))]; rfl
      have g2 : (getM 2 [((2 : Int), pan, ()), (4, amtT amt, ()), (11, stanT stan, ()), (37, rrn, ())]).1 = pan := by simp [getM]
      have g4 : numM 4 [((2 : Int), pan, ()), (4, amtT amt, ()), (11, stanT stan, ()), (37, rrn, ())] = amt := by simp [numM, getM, getOK_amt ha0 cm]
      have g11' : IntKind.u32.wrap (numM 11 [((2 : Int), pan, ()), (4, amtT amt, ()), (11, stanT stan, ()), (37, rrn, ())]) = stan := by simp [numM, getM, getOK_stan hs0 h3]
      have g37 : (getM 37 [((2 : Int), pan, ()), (4, amtT amt, ()), (11, stanT stan, ()), (37, rrn, ())]).1 = rrn := by simp [getM]
      have g39 : (getM 39 [((2 : Int), pan, ()), (4, amtT amt, ()), (11, stanT stan, ()), (37, rrn, ())]).1 = [] := by simp [getM]
      rw [e4, g2, g4, g11', g37, g39, cf, if_neg (by simp), if_neg (fun e => c56 e.1)]
  · have e3 : itemsK (kind, [], 0, stan, rrn, code, ()) = [(11, stanT stan, ()), (37, rrn, ()), (39, code, ())] := by
      unfold itemsK; (try simp only []); rw [if_neg (by rw [ca]; simp)]
    have g2 : (getM 2 [((11 : Int), stanT stan, ()), (37, rrn, ()), (39, code, ())]).1 = [] := by simp [getM]
    have g4 : numM 4 [((11 : Int), stanT stan, ()), (37, rrn, ()), (39, code, ())] = 0 := by simp [numM, getM, getOK]
    have g11' : IntKind.u32.wrap (numM 11 [((11 : Int), stanT stan, ()), (37, rrn, ()), (39, code, ())]) = stan := by simp [numM, getM, getOK_stan hs0 h3]
    have g37 : (getM 37 [((11 : Int), stanT stan, ()), (37, rrn, ()), (39, code, ())]).1 = rrn := by simp [getM]
    have g39 : (getM 39 [((11 : Int), stanT stan, ()), (37, rrn, ()), (39, code, ())]).1 = code := by simp [getM]
    rw [e3, g2, g4, g11', g37, g39, if_neg (fun e => by rw [ca] at e; cases e.1), if_neg (fun e => by rw [(kind_five.2 e.1).1] at ca; cases ca)]
end Go.Proofs.YtjgnpmdbkgeakaaGreatDoor.G
end
section
set_option linter.unusedVariables false
set_option linter.unusedSimpArgs false
set_option maxRecDepth 100000
namespace Go.Proofs.YtjgnpmdbkgeakaaGreatDoor.G
open Go Go.Proofs.YtjgnpmdbkgeakaaGreatDoor Th
def lenSum : List (List Int) → Nat
  | [] => 0
  | x :: l => x.length + lenSum l
theorem lenSum_take (L : List (List Int)) : ∀ i, lenSum (L.take i) ≤ lenSum L := by
  induction L with
  | nil => intro i; simp [lenSum]
  | cons x L ih =>
    intro i
    cases i with
    | zero => exact Nat.zero_le _
    | succ i => have := ih i; simp only [List.take_succ_cons, lenSum]; omega
theorem lenSum_snoc (L : List (List Int)) (x : List Int) : lenSum (L ++ [x]) = lenSum L + x.length := by
  induction L with
  | nil => simp [lenSum]
  | cons y L ih => simp only [List.cons_append, lenSum, ih]; omega
theorem lenSum_flat (L : List (List Int)) : L.flatten.length = lenSum L := by
  induction L with
  | nil => rfl
  | cons y L ih => simp only [List.flatten_cons, List.length_append, lenSum, ih]
theorem G40_3_is (k : Nat) (L : List (List Int)) (hL : L.length ≤ 1000000) (hS : lenSum L ≤ 140737488355328) : ∀ (j i : Nat), i + j = L.length → ∀ n, j < n →
    G40_3 k n (L, ((lenSum (L.take i) : Nat) : Int), L, (L.length : Int), (i : Int), ()) = some (L, ((lenSum L : Nat) : Int), ()) := by
  intro j
  induction j with
  | zero =>
    intro i hij n hn
    obtain ⟨n, rfl⟩ : ∃ m, n = m + 1 := ⟨n - 1, by omega⟩
    rw [G40_3_eq, sel_neg (by omega), List.take_of_length_le (by omega)]
  | succ j ih =>
    intro i hij n hn
    obtain ⟨n, rfl⟩ : ∃ m, n = m + 1 := ⟨n - 1, by omega⟩
    have hlt : i < L.length := by omega
    have hs := lenSum_take L (i + 1)
    have e : lenSum (L.take (i + 1)) = lenSum (L.take i) + L[i].length := by rw [List.take_succ_eq_append_getElem hlt, lenSum_snoc]
    have := ih (i + 1) (by omega) n (by omega)
    rw [G40_3_eq, sel_pos (by omega), sel_pos (by omega), sel_pos (by simp only [ofNat_len]; omega)]
    simp only [Int.toNat_natCast, getD_of hlt, ofNat_len]
    rw [wrap64 (n := (i : Int) + 1) (by omega) (by omega), wrap64 (by omega) (by omega), sel_neg (by omega)]
    rw [e] at this
    rw [Int.natCast_add, Int.natCast_add, Int.natCast_one] at this
    exact this
theorem G40_11_is (k : Nat) (L : List (List Int)) (hL : L.length ≤ 1000000) (hS : lenSum L ≤ 140737488355328) : ∀ (j i : Nat), i + j = L.length → ∀ n, j < n →
    G40_11 k n ((L.take i).flatten, L, (L.length : Int), (i : Int), ()) = some (L.flatten, ()) := by
  intro j
  induction j with
  | zero =>
    intro i hij n hn
    obtain ⟨n, rfl⟩ : ∃ m, n = m + 1 := ⟨n - 1, by omega⟩
    rw [G40_11_eq, sel_neg (by omega), List.take_of_length_le (by omega)]
  | succ j ih =>
    intro i hij n hn
    obtain ⟨n, rfl⟩ : ∃ m, n = m + 1 := ⟨n - 1, by omega⟩
    have hlt : i < L.length := by omega
    have hs := lenSum_take L (i + 1)
    have e : (L.take (i + 1)).flatten = (L.take i).flatten ++ L[i] := by rw [List.take_succ_eq_append_getElem hlt, List.flatten_append]; simp
    have e2 := lenSum_flat (L.take (i + 1))
    rw [e, List.length_append] at e2
    have := ih (i + 1) (by omega) n (by omega)
    rw [G40_11_eq, sel_pos (by omega), sel_pos (by omega), sel_pos (by simp only [ofNat_len]; omega)]
    simp only [Int.toNat_natCast, getD_of hlt]
    rw [sel_pos (by omega), wrap64 (by omega) (by omega)]
    rw [e, Int.natCast_add, Int.natCast_one] at this
    exact this
theorem G40_is (k : Nat) (L : List (List Int)) (hL : L.length ≤ 1000000) (hk : L.length < k) (hS : lenSum L ≤ 140737488355328) : G40 k (L, ()) = some (L.flatten, ()) := by
  have h1 := G40_3_is k L hL hS L.length 0 (by omega) k hk
  have h2 := G40_11_is k L hL hS L.length 0 (by omega) k hk
  simp only [List.take_zero, lenSum, Int.natCast_zero, List.flatten_nil] at h1 h2
  rw [G40_eq]
  simp only [ofNat_len]
  rw [h1, ocall_some]
  (try simp only [])
  rw [G80_eq, sel_pos (by omega), sel_pos (by omega), ocall_some, h2, ocall_some]
end Go.Proofs.YtjgnpmdbkgeakaaGreatDoor.G
end
section
set_option linter.unusedVariables false
set_option linter.unusedSimpArgs false
set_option maxRecDepth 100000
namespace Go.Proofs.YtjgnpmdbkgeakaaGreatDoor.Bits
open Go Go.Proofs.YtjgnpmdbkgeakaaGreatDoor Th
theorem b_or {x y : Nat} (hx : x < 18446744073709551616) (hy : y < 18446744073709551616) : bits .or .u64 (x : Int) (y : Int) = ((x ||| y : Nat) : Int) := by
  have hb : (x ||| y) < 2 ^ 64 := Nat.or_lt_two_pow (by omega) (by omega)
  have e : (BitVec.ofInt 64 (x : Int) ||| BitVec.ofInt 64 (y : Int)).toNat = x ||| y := by
    rw [BitVec.toNat_or, BitVec.ofInt_natCast, BitVec.ofInt_natCast, BitVec.toNat_ofNat, BitVec.toNat_ofNat, Nat.mod_eq_of_lt (by omega), Nat.mod_eq_of_lt (by omega)]
  show IntKind.u64.wrap (((BitVec.ofInt 64 (x : Int) ||| BitVec.ofInt 64 (y : Int)).toNat : Nat) : Int) = _
  rw [e]
  exact wrapu64 (by omega) (by omega)
theorem b_and {x y : Nat} (hx : x < 18446744073709551616) (hy : y < 18446744073709551616) : bits .and .u64 (x : Int) (y : Int) = ((x &&& y : Nat) : Int) := by
  have hb : (x &&& y) < 2 ^ 64 := Nat.and_lt_two_pow _ (by omega)
  have e : (BitVec.ofInt 64 (x : Int) &&& BitVec.ofInt 64 (y : Int)).toNat = x &&& y := by
    rw [BitVec.toNat_and, BitVec.ofInt_natCast, BitVec.ofInt_natCast, BitVec.toNat_ofNat, BitVec.toNat_ofNat, Nat.mod_eq_of_lt (by omega), Nat.mod_eq_of_lt (by omega)]
  show IntKind.u64.wrap (((BitVec.ofInt 64 (x : Int) &&& BitVec.ofInt 64 (y : Int)).toNat : Nat) : Int) = _
  rw [e]
  exact wrapu64 (by omega) (by omega)
theorem pow_lt {n : Nat} (h : n < 64) : 2 ^ n < 18446744073709551616 := Nat.pow_lt_pow_right (a := 2) (by omega) h
theorem pow_pos (n : Nat) : 0 < 2 ^ n := Nat.two_pow_pos n
theorem top_shift {n : Nat} (h1 : 1 ≤ n) (h : n ≤ 64) : Int.fdiv 9223372036854775808 ((2 : Int) ^ min (n - 1) 64) = ((2 ^ (64 - n) : Nat) : Int) := by
  rw [Nat.min_eq_left (by omega)]
  have e : (9223372036854775808 : Int) = (((2 ^ (64 - n)) * (2 ^ (n - 1)) : Nat) : Int) := by
    rw [← Nat.pow_add]
    rw [show 64 - n + (n - 1) = 63 by omega]
    rfl
  have e2 : (2 : Int) ^ (n - 1) = ((2 ^ (n - 1) : Nat) : Int) := by rw [Int.natCast_pow]; rfl
  rw [e, e2, ← Int.ofNat_fdiv, Nat.mul_div_cancel _ (pow_pos _)]
theorem and_pow {w k : Nat} : ((w &&& 2 ^ k) = 0) ↔ w.testBit k = false := by
  constructor
  · intro h
    have := congrArg (fun x => x.testBit k) h
    simpa [Nat.testBit_and, Nat.testBit_two_pow] using this
  · intro h
    apply Nat.eq_of_testBit_eq
    intro i
    rw [Nat.testBit_and, Nat.testBit_two_pow, Nat.zero_testBit]
    by_cases e : k = i
    · subst e; rw [h]; rfl
    · rw [decide_eq_false e, Bool.and_false]
theorem or_test (w k j : Nat) : (w ||| 2 ^ k).testBit j = (w.testBit j || decide (k = j)) := by rw [Nat.testBit_or, Nat.testBit_two_pow]
theorem or_lt {w k : Nat} (hw : w < 18446744073709551616) (hk : k < 64) : (w ||| 2 ^ k) < 18446744073709551616 := Nat.or_lt_two_pow (n := 64) hw (pow_lt hk)
theorem or_self {w k : Nat} (h : w.testBit k = true) : (w ||| 2 ^ k) = w := by
  apply Nat.eq_of_testBit_eq
  intro i
  rw [or_test]
  by_cases e : k = i
  · subst e; rw [h]; rfl
  · rw [decide_eq_false e, Bool.or_false]
theorem high_zero {w j : Nat} (hw : w < 18446744073709551616) (hj : 64 ≤ j) : w.testBit j = false :=
  Nat.testBit_lt_two_pow (Nat.lt_of_lt_of_le hw (Nat.pow_le_pow_right (n := 2) (by omega) hj))
theorem add_or {w k : Nat} (hw : w < 18446744073709551616) (hk : k < 64) (h : w.testBit k = false) : w + 2 ^ k = (w ||| 2 ^ k) := by
  have hp := pow_lt hk
  have hand : BitVec.ofNat 64 w &&& BitVec.ofNat 64 (2 ^ k) = 0#64 := by
    apply BitVec.eq_of_toNat_eq
    rw [BitVec.toNat_and, BitVec.toNat_ofNat, BitVec.toNat_ofNat, Nat.mod_eq_of_lt hw, Nat.mod_eq_of_lt hp]
    exact and_pow.2 h
  have e := congrArg BitVec.toNat (BitVec.add_eq_or_of_and_eq_zero _ _ hand)
  rw [BitVec.toNat_add, BitVec.toNat_or, BitVec.toNat_ofNat, BitVec.toNat_ofNat, Nat.mod_eq_of_lt hw, Nat.mod_eq_of_lt hp] at e
  have hb : (w ||| 2 ^ k) < 2 ^ 64 := or_lt hw hk
  have hlt : w + 2 ^ k < 2 ^ 64 := by
    rcases Nat.lt_or_ge (w + 2 ^ k) (2 ^ 64) with h1 | h1
    · exact h1
    · exfalso
      rw [Nat.mod_eq_sub_mod h1, Nat.mod_eq_of_lt (by omega)] at e
      have : w ≤ (w ||| 2 ^ k) := Nat.left_le_or
      have e64 : (2 : Nat) ^ 64 = 18446744073709551616 := by rfl
      omega
  rw [Nat.mod_eq_of_lt hlt] at e
  exact e
theorem test_div (w k : Nat) : decide (w / 2 ^ k % 2 = 1) = w.testBit k := by rw [Nat.testBit_eq_decide_div_mod_eq]
def be8 (w : Nat) : List Int := [((w / 72057594037927936 % 256 : Nat) : Int), ((w / 281474976710656 % 256 : Nat) : Int), ((w / 1099511627776 % 256 : Nat) : Int), ((w / 4294967296 % 256 : Nat) : Int),
  ((w / 16777216 % 256 : Nat) : Int), ((w / 65536 % 256 : Nat) : Int), ((w / 256 % 256 : Nat) : Int), ((w % 256 : Nat) : Int)]
def num8 (l : List Int) : Nat := l.foldl (fun a c => 256 * a + c.toNat) 0
def byteOK (c : Int) : Prop := 0 ≤ c ∧ c ≤ 255
theorem be8_len (w : Nat) : (be8 w).length = 8 := rfl
theorem be8_bytes (w : Nat) : ∀ c ∈ be8 w, byteOK c := by
  intro c hc
  simp only [be8, List.mem_cons, List.not_mem_nil, or_false] at hc
  unfold byteOK
  rcases hc with rfl | rfl | rfl | rfl | rfl | rfl | rfl | rfl <;> omega
theorem num8_be8 {w : Nat} (h : w < 18446744073709551616) : num8 (be8 w) = w := by
  simp only [num8, be8, List.foldl_cons, List.foldl_nil, Int.toNat_natCast]
  omega
theorem eight {l : List Int} (h : l.length = 8) : ∃ a b c d e f g i, l = [a, b, c, d, e, f, g, i] := by
  match l, h with
  | [a, b, c, d, e, f, g, i], _ => exact ⟨a, b, c, d, e, f, g, i, rfl⟩
theorem num8_lt {l : List Int} (h : l.length = 8) (hb : ∀ c ∈ l, byteOK c) : num8 l < 18446744073709551616 := by
  obtain ⟨a, b, c, d, e, f, g, i, rfl⟩ := eight h
  simp only [List.mem_cons, List.not_mem_nil, or_false, forall_eq_or_imp, forall_eq, byteOK] at hb
  simp only [num8, List.foldl_cons, List.foldl_nil]
  omega
theorem be8_num8 {l : List Int} (h : l.length = 8) (hb : ∀ c ∈ l, byteOK c) : be8 (num8 l) = l := by
  obtain ⟨a, b, c, d, e, f, g, i, rfl⟩ := eight h
  simp only [List.mem_cons, List.not_mem_nil, or_false, forall_eq_or_imp, forall_eq, byteOK] at hb
  obtain ⟨a, rfl⟩ := Int.eq_ofNat_of_zero_le hb.1.1
  obtain ⟨b, rfl⟩ := Int.eq_ofNat_of_zero_le hb.2.1.1
  obtain ⟨c, rfl⟩ := Int.eq_ofNat_of_zero_le hb.2.2.1.1
  obtain ⟨d, rfl⟩ := Int.eq_ofNat_of_zero_le hb.2.2.2.1.1
  obtain ⟨e, rfl⟩ := Int.eq_ofNat_of_zero_le hb.2.2.2.2.1.1
  obtain ⟨f, rfl⟩ := Int.eq_ofNat_of_zero_le hb.2.2.2.2.2.1.1
  obtain ⟨g, rfl⟩ := Int.eq_ofNat_of_zero_le hb.2.2.2.2.2.2.1.1
  obtain ⟨i, rfl⟩ := Int.eq_ofNat_of_zero_le hb.2.2.2.2.2.2.2.1
  simp only [num8, be8, List.foldl_cons, List.foldl_nil, Int.toNat_natCast, List.cons.injEq, and_true]
  refine ⟨?_, ?_, ?_, ?_, ?_, ?_, ?_, ?_⟩ <;> omega
theorem num8_top {l : List Int} (h : l.length = 8) (hb : ∀ c ∈ l, byteOK c) : (num8 l).testBit 63 = decide (128 ≤ l.getD 0 0) := by
  obtain ⟨a, b, c, d, e, f, g, i, rfl⟩ := eight h
  simp only [List.mem_cons, List.not_mem_nil, or_false, forall_eq_or_imp, forall_eq, byteOK] at hb
  rw [← test_div]
  refine decide_eq_decide.2 ?_
  simp only [num8, List.foldl_cons, List.foldl_nil, List.getD_cons_zero]
  rw [show (2 : Nat) ^ 63 = 9223372036854775808 by rfl]
  omega
theorem shl_or {a c : Nat} (ha : a < 72057594037927936) (hc : c < 256) : bits .or .u64 (IntKind.u64.wrap ((a : Int) * 256)) (IntKind.u64.wrap (c : Int)) = ((256 * a + c : Nat) : Int) := by
  rw [show (a : Int) * 256 = ((a * 256 : Nat) : Int) by omega, wrapu64 (by omega) (by omega), wrapu64 (by omega) (by omega), b_or (by omega) (by omega)]
  have := Nat.shiftLeft_add_eq_or_of_lt (b := c) (i := 8) (by omega) a
  rw [Nat.shiftLeft_eq] at this
  rw [← this]
  omega
end Go.Proofs.YtjgnpmdbkgeakaaGreatDoor.Bits
end
section
set_option linter.unusedVariables false
set_option linter.unusedSimpArgs false
set_option maxRecDepth 100000
namespace Go.Proofs.YtjgnpmdbkgeakaaGreatDoor.G
open Go Go.Proofs.YtjgnpmdbkgeakaaGreatDoor Th Bits
abbrev BM := Int × Int × Unit
def goodB (m : BM) : Prop := (0 ≤ m.1 ∧ m.1 < 18446744073709551616) ∧ 0 ≤ m.2.1 ∧ m.2.1 < 18446744073709551616
def bitB (m : BM) (n : Nat) : Bool := if n ≤ 64 then m.1.toNat.testBit (64 - n) else m.2.1.toNat.testBit (128 - n)
def rightB (m : BM) : Bool := !bitB m 65 && (bitB m 1 == !decide (m.2.1 = 0))
def fieldB (n : Int) : Bool := decide (2 ≤ n) && decide (n ≤ 128) && !decide (n = 65)
def hasB (m : BM) (n : Int) : Bool := fieldB n && bitB m n.toNat
def setB (m : BM) (n : Nat) : BM := if n ≤ 64 then (((m.1.toNat ||| 2 ^ (64 - n) : Nat) : Int), m.2.1, ()) else (((m.1.toNat ||| 2 ^ 63 : Nat) : Int), ((m.2.1.toNat ||| 2 ^ (128 - n) : Nat) : Int), ())
def putB (m : BM) (n : Int) : BM × Int := if rightB m = true ∧ fieldB n = true then (setB m n.toNat, 0) else (m, 1)
theorem fieldB_iff {n : Int} : fieldB n = true ↔ 2 ≤ n ∧ n ≤ 128 ∧ n ≠ 65 := by unfold fieldB; simp [and_assoc]
theorem G100_is (k : Nat) (n hi lo : Int) (h1 : 1 ≤ n) (h2 : n ≤ 128) : G100 k (n, hi, lo, ()) =
    if n ≤ 64 then some (.inl (((2 ^ (64 - n.toNat) : Nat) : Int), hi, lo, ())) else some (.inr (((2 ^ (128 - n.toNat) : Nat) : Int), hi, lo, ())) := by
  obtain ⟨m, rfl⟩ : ∃ m : Nat, n = m := ⟨n.toNat, by omega⟩
  rw [G100_eq]
  by_cases c : (m : Int) ≤ 64
  · rw [sel_pos c, if_pos c, wrap64 (by omega) (by omega), sel_pos (by omega), show ((m : Int) - 1).toNat = m - 1 by omega, top_shift (by omega) (by omega), Int.toNat_natCast]
  · rw [sel_neg c, if_neg c, wrap64 (n := (m : Int) - 64) (by omega) (by omega), wrap64 (by omega) (by omega), sel_pos (by omega), show ((m : Int) - 64 - 1).toNat = (m - 64) - 1 by omega, top_shift (by omega) (by omega), Int.toNat_natCast,
      show 64 - (m - 64) = 128 - m by omega]
theorem nat_of {x : Int} (h : 0 ≤ x ∧ x < 18446744073709551616) : ∃ n : Nat, x = n ∧ n < 18446744073709551616 := ⟨x.toNat, by omega, by omega⟩
theorem G101_is (k : Nat) (m : BM) (hg : goodB m) (n : Int) (h1 : 1 ≤ n) (h2 : n ≤ 128) : G101 k (m, n, ()) = some (bitB m n.toNat, ()) := by
  obtain ⟨hi, lo, ⟨⟩⟩ := m
  obtain ⟨hi, rfl, hh⟩ := nat_of hg.1
  obtain ⟨lo, rfl, hl⟩ := nat_of hg.2
  rw [G101_eq, G100_is k n _ _ h1 h2]
  unfold bitB
  have key : ∀ (w e : Nat), w < 18446744073709551616 → e < 64 → (!decide (bits .and .u64 (w : Int) ((2 ^ e : Nat) : Int) = 0)) = w.testBit e := by
    intro w e hw he
    rw [b_and hw (pow_lt he)]
    cases ht : w.testBit e with
    | false => rw [and_pow.2 ht]; rfl
    | true =>
      have : ¬ ((w &&& 2 ^ e : Nat) : Int) = 0 := fun h => by
        have h' : (w &&& 2 ^ e) = 0 := by omega
        rw [and_pow.1 h'] at ht; cases ht
      rw [decide_eq_false this]; rfl
  by_cases c : n ≤ 64
  · rw [if_pos c, if_pos (by omega), ocall_some, esel_inl]
    simp only [Int.toNat_natCast]
    rw [key hi _ hh (by omega)]
  · rw [if_neg c, if_neg (by omega), ocall_some, esel_inr]
    simp only [Int.toNat_natCast]
    rw [key lo _ hl (by omega)]
theorem G78_is (k : Nat) (m : BM) (hg : goodB m) : G78 k (m, ()) = some (rightB m, ()) := by
  have h65 := G101_is k m hg 65 (by omega) (by omega)
  have h1 := G101_is k m hg 1 (by omega) (by omega)
  obtain ⟨hi, lo, ⟨⟩⟩ := m
  rw [G78_eq, h65, ocall_some, h1]
  unfold rightB
  show sel (!bitB (hi, lo, ()) 65) _ _ = _
  cases bitB (hi, lo, ()) 65 <;> rfl
theorem G99_is (k : Nat) (n : Int) : G99 k (n, ()) = some (fieldB n, ()) := by
  rw [G99_eq]
  unfold fieldB
  by_cases c1 : 1 < n
  · rw [sel_pos c1, decide_eq_true (show 2 ≤ n by omega)]
    by_cases c2 : n ≤ 128
    · rw [sel_pos c2, decide_eq_true c2]; rfl
    · rw [sel_neg c2, decide_eq_false c2]; rfl
  · rw [sel_neg c1, decide_eq_false (show ¬ 2 ≤ n by omega)]; rfl
theorem G103_is (k : Nat) (m : BM) (hg : goodB m) (n : Int) : G103 k (m, n, ()) = some (hasB m n, ()) := by
  obtain ⟨hi, lo, ⟨⟩⟩ := m
  rw [G103_eq, G99_is, ocall_some]
  unfold hasB
  cases hf : fieldB n with
  | false => rfl
  | true =>
    have := fieldB_iff.1 hf
    rw [G101_is k _ hg n (by omega) (by omega)]; rfl
theorem setB_good {m : BM} (hg : goodB m) {n : Nat} (h1 : 1 ≤ n) (h2 : n ≤ 128) : goodB (setB m n) := by
  obtain ⟨hi, lo, ⟨⟩⟩ := m
  obtain ⟨hi, rfl, hh⟩ := nat_of hg.1
  obtain ⟨lo, rfl, hl⟩ := nat_of hg.2
  unfold setB
  by_cases c : n ≤ 64
  · rw [if_pos c]
    have := or_lt (k := 64 - n) hh (by omega)
    refine ⟨⟨by (try simp only []); omega, ?_⟩, ⟨by (try simp only []); omega, by (try simp only []); omega⟩⟩
    simp only [Int.toNat_natCast]; omega
  · rw [if_neg c]
    have h3 := or_lt (k := 63) hh (by omega)
    have h4 := or_lt (k := 128 - n) hl (by omega)
    refine ⟨⟨by (try simp only []); omega, ?_⟩, ⟨by (try simp only []); omega, ?_⟩⟩
    · simp only [Int.toNat_natCast]; omega
    · simp only [Int.toNat_natCast]; omega
theorem setB_bit {m : BM} {n : Nat} (h1 : 1 ≤ n) (h2 : n ≤ 128) {j : Nat} (j1 : 1 ≤ j) (j2 : j ≤ 128) : bitB (setB m n) j = (bitB m j || decide (j = n) || decide (64 < n ∧ j = 1)) := by
  obtain ⟨hi, lo, ⟨⟩⟩ := m
  unfold setB bitB
  by_cases c : n ≤ 64
  · rw [if_pos c, decide_eq_false (show ¬ (64 < n ∧ j = 1) by omega), Bool.or_false]
    by_cases d : j ≤ 64
    · rw [if_pos d, if_pos d]
      simp only [Int.toNat_natCast]
      rw [or_test, show decide (64 - n = 64 - j) = decide (j = n) from decide_eq_decide.2 (by omega)]
    · rw [if_neg d, if_neg d, decide_eq_false (show ¬ j = n by omega), Bool.or_false]
  · rw [if_neg c]
    by_cases d : j ≤ 64
    · rw [if_pos d, if_pos d]
      simp only [Int.toNat_natCast]
      rw [or_test, decide_eq_false (show ¬ j = n by omega), Bool.or_false, show decide (63 = 64 - j) = decide (64 < n ∧ j = 1) from decide_eq_decide.2 (by omega)]
    · rw [if_neg d, if_neg d, decide_eq_false (show ¬ (64 < n ∧ j = 1) by omega), Bool.or_false]
      simp only [Int.toNat_natCast]
      rw [or_test, show decide (128 - n = 128 - j) = decide (j = n) from decide_eq_decide.2 (by omega)]
theorem or_ne (w k : Nat) : (w ||| 2 ^ k) ≠ 0 := fun h => by
  have := or_test w k k
  rw [h, Nat.zero_testBit, decide_eq_true rfl, Bool.or_true] at this
  cases this
theorem rightB_iff {m : BM} : rightB m = true ↔ bitB m 65 = false ∧ (bitB m 1 = true ↔ m.2.1 ≠ 0) := by
  unfold rightB
  cases bitB m 65 <;> cases bitB m 1 <;> by_cases c : m.2.1 = 0 <;> simp [c]
theorem setB_right {m : BM} (hr : rightB m = true) {n : Nat} (h1 : 2 ≤ n) (h2 : n ≤ 128) (h3 : n ≠ 65) : rightB (setB m n) = true := by
  obtain ⟨r1, r2⟩ := rightB_iff.1 hr
  refine rightB_iff.2 ⟨?_, ?_⟩
  · rw [setB_bit (by omega) h2 (by omega) (by omega), r1, decide_eq_false (fun e => h3 e.symm), decide_eq_false (by omega)]; rfl
  · rw [setB_bit (by omega) h2 (by omega) (by omega)]
    unfold setB
    by_cases c : n ≤ 64
    · rw [if_pos c, decide_eq_false (show ¬ 1 = n by omega), decide_eq_false (by omega), Bool.or_false, Bool.or_false]; exact r2
    · rw [if_neg c, decide_eq_true (show 64 < n ∧ 1 = 1 by omega), Bool.or_true]
      refine ⟨fun _ => ?_, fun _ => rfl⟩
      have := or_ne m.2.1.toNat (128 - n)
      (try simp only []); omega
theorem G77_is (k : Nat) (m : BM) (hg : goodB m) (n : Int) : G77 k (m, n, ()) = some ((putB m n).1, (putB m n).2, ()) := by
  have hR := G78_is k m hg
  obtain ⟨hi, lo, ⟨⟩⟩ := m
  rw [G77_eq, hR, ocall_some]
  unfold putB
  cases hr : rightB (hi, lo, ()) with
  | false => rw [if_neg (by simp)]; rfl
  | true =>
  simp only [Bool.not_true, sel_false]
  rw [G99_is, ocall_some]
  cases hf : fieldB n with
  | false => rw [if_neg (by simp)]; rfl
  | true =>
  rw [if_pos (by simp)]
  simp only [Bool.not_true, sel_false]
  obtain ⟨f1, f2, f3⟩ := fieldB_iff.1 hf
  obtain ⟨n, rfl⟩ : ∃ m : Nat, n = m := ⟨n.toNat, by omega⟩
  obtain ⟨hi, rfl, hh⟩ := nat_of hg.1
  obtain ⟨lo, rfl, hl⟩ := nat_of hg.2
  obtain ⟨r1, r2⟩ := rightB_iff.1 hr
  rw [G100_is k n _ _ (by omega) f2]
  unfold setB
  simp only [Int.toNat_natCast]
  by_cases c : (n : Int) ≤ 64
  · rw [if_pos c, if_pos (by omega), ocall_some, esel_inl]
    (try simp only [])
    rw [b_or hh (pow_lt (by omega))]
    by_cases hz : (lo : Int) = 0
    · rw [sel_not, sel_pos hz]
    · rw [sel_not, sel_neg hz]
      have hb : hi.testBit 63 = true := by have := r2.2 hz; simpa [bitB] using this
      have h2 := or_lt (k := 64 - n) hh (by omega)
      have e63 : (9223372036854775808 : Int) = ((2 ^ 63 : Nat) : Int) := by rfl
      rw [e63, b_or h2 (pow_lt (by omega)), or_self (by rw [or_test, hb]; rfl)]
  · rw [if_neg c, if_neg (by omega), ocall_some, esel_inr]
    (try simp only [])
    rw [b_or hl (pow_lt (by omega))]
    have := or_ne lo (128 - n)
    rw [sel_not, sel_neg (by omega)]
    have e63 : (9223372036854775808 : Int) = ((2 ^ 63 : Nat) : Int) := by rfl
    rw [e63, b_or hh (pow_lt (by omega))]
def fieldsFrom (m : BM) : Nat → Nat → List Int
  | _, 0 => []
  | n, j + 1 => (if hasB m n = true then [(n : Int)] else []) ++ fieldsFrom m (n + 1) j
def fieldsB (m : BM) : List Int := fieldsFrom m 2 127
theorem fieldsFrom_len (m : BM) : ∀ (j n : Nat), (fieldsFrom m n j).length ≤ j := by
  intro j
  induction j with
  | zero => intro n; simp [fieldsFrom]
  | succ j ih => intro n; have := ih (n + 1); unfold fieldsFrom; rw [List.length_append]; split <;> simp <;> omega
theorem fieldsFrom_mem (m : BM) : ∀ (j n : Nat) (x : Int), x ∈ fieldsFrom m n j ↔ ((n : Int) ≤ x ∧ x < n + j ∧ hasB m x = true) := by
  intro j
  induction j with
  | zero => intro n x; simp only [fieldsFrom, List.not_mem_nil, false_iff]; omega
  | succ j ih =>
    intro n x
    unfold fieldsFrom
    rw [List.mem_append, ih]
    by_cases c : hasB m n = true
    · rw [if_pos c, List.mem_singleton]
      constructor
      · rintro (rfl | ⟨a, b, d⟩)
        · exact ⟨by omega, by omega, c⟩
        · exact ⟨by omega, by omega, d⟩
      · rintro ⟨a, b, d⟩
        by_cases e : x = n
        · exact .inl e
        · exact .inr ⟨by omega, by omega, d⟩
    · rw [if_neg c]
      constructor
      · rintro (h | ⟨a, b, d⟩)
        · cases h
        · exact ⟨by omega, by omega, d⟩
      · rintro ⟨a, b, d⟩
        refine .inr ⟨?_, by omega, d⟩
        by_cases e : x = n
        · subst e; exact absurd d c
        · omega
theorem fieldsB_mem (m : BM) (x : Int) : x ∈ fieldsB m ↔ hasB m x = true := by
  unfold fieldsB
  rw [fieldsFrom_mem]
  constructor
  · exact fun h => h.2.2
  · intro h
    refine ⟨?_, ?_, h⟩ <;>
    · unfold hasB at h
      simp only [Bool.and_eq_true] at h
      have := fieldB_iff.1 h.1
      omega
theorem fieldsFrom_sorted (m : BM) : ∀ (j n : Nat), (fieldsFrom m n j).Pairwise (· < ·) := by
  intro j
  induction j with
  | zero => intro n; simp [fieldsFrom]
  | succ j ih =>
    intro n
    unfold fieldsFrom
    rw [List.pairwise_append]
    refine ⟨by split <;> simp, ih _, fun a ha b hb => ?_⟩
    have := (fieldsFrom_mem m j (n + 1) b).1 hb
    split at ha
    · simp only [List.mem_singleton] at ha; omega
    · cases ha
theorem G90_g0_is (k : Nat) (m : BM) (hg : goodB m) : ∀ (j n : Nat), n + (j + 1) = 129 → 2 ≤ n → ∀ (acc : List Int) (c : Nat), acc.length ≤ n → j + 1 ≤ c →
    G90_g0 k c (acc, (n : Int), m.1, m.2.1, ()) = some (acc ++ fieldsFrom m n (j + 1), ()) := by
  obtain ⟨hi, lo, ⟨⟩⟩ := m
  intro j
  induction j with
  | zero =>
    intro n hn h2 acc c ha hc
    obtain ⟨c, rfl⟩ : ∃ d, c = d + 1 := ⟨c - 1, by omega⟩
    rw [G90_g0_eq, G103_is k _ hg, ocall_some]
    unfold fieldsFrom fieldsFrom
    cases hasB (hi, lo, ()) n with
    | false => rw [sel_false, wrap64 (by omega) (by omega), sel_neg (by omega)]; simp
    | true => rw [sel_true, sel_pos (by omega), wrap64 (by omega) (by omega), sel_neg (by omega)]; simp
  | succ j ih =>
    intro n hn h2 acc c ha hc
    obtain ⟨c, rfl⟩ : ∃ d, c = d + 1 := ⟨c - 1, by omega⟩
    rw [G90_g0_eq, G103_is k _ hg, ocall_some]
    rw [show fieldsFrom (hi, lo, ()) n (j + 1 + 1) = (if hasB (hi, lo, ()) n = true then [(n : Int)] else []) ++ fieldsFrom (hi, lo, ()) (n + 1) (j + 1) from rfl]
    have e : (n : Int) + 1 = ((n + 1 : Nat) : Int) := by omega
    cases hasB (hi, lo, ()) n with
    | false =>
      rw [sel_false, wrap64 (by omega) (by omega), sel_pos (by omega), e, ih (n + 1) (by omega) (by omega) acc c (by omega) (by omega)]; simp
    | true =>
      rw [sel_true, sel_pos (by omega), wrap64 (by omega) (by omega), sel_pos (by omega), e, ih (n + 1) (by omega) (by omega) (acc ++ [(n : Int)]) c (by simp; omega) (by omega)]; simp
theorem G90_is (k : Nat) (hk : 200 < k) (m : BM) (hg : goodB m) : G90 k (m, ()) = some (fieldsB m, ()) := by
  have hl := fun acc h => G90_g0_is k m hg 125 3 (by omega) (by omega) acc k h (by omega)
  have hh := G103_is k m hg 2
  obtain ⟨hi, lo, ⟨⟩⟩ := m
  rw [G90_eq, hh, ocall_some]
  unfold fieldsB
  rw [show fieldsFrom (hi, lo, ()) 2 127 = (if hasB (hi, lo, ()) (2 : Nat) = true then [((2 : Nat) : Int)] else []) ++ fieldsFrom (hi, lo, ()) 3 126 from rfl]
  have e : IntKind.i64.wrap (2 + 1) = ((3 : Nat) : Int) := by rfl
  have e2 : hasB (hi, lo, ()) ((2 : Nat) : Int) = hasB (hi, lo, ()) 2 := rfl
  rw [e2, e]
  cases hasB (hi, lo, ()) 2 with
  | false => simp only [sel_false]; rw [hl [] (by simp), ocall_some]; simp
  | true => simp only [sel_true]; rw [hl [2] (by simp), ocall_some]; simp
def ofB : BM → List Int → BM × Int
  | m, [] => (m, 0)
  | m, n :: l => if (putB m n).2 = 0 then ofB (putB m n).1 l else ((0, 0, ()), (putB m n).2)
theorem putB_good {m : BM} (hg : goodB m) (n : Int) : goodB (putB m n).1 := by
  unfold putB
  split
  · rename_i h
    obtain ⟨f1, f2, f3⟩ := fieldB_iff.1 h.2
    exact setB_good hg (by omega) (by omega)
  · exact hg
theorem putB_err (m : BM) (n : Int) : (putB m n).2 = 0 ∨ (putB m n).2 = 1 := by unfold putB; split <;> simp
theorem G38_3_is (k : Nat) (l : List Int) (hl : l.length ≤ 1000000000) : ∀ (j i : Nat), i + j = l.length → ∀ (m : BM), goodB m → ∀ n, j < n →
    G38_3 k n (l, (l.length : Int), (i : Int), 0, 0, m.1, m.2.1, ()) = some (if (ofB m (l.drop i)).2 = 0 then .inl (0, 0, (ofB m (l.drop i)).1.1, (ofB m (l.drop i)).1.2.1, ()) else .inr ((ofB m (l.drop i)).2, 0, 0, ())) := by
  intro j
  induction j with
  | zero =>
    intro i hij m hg n hn
    obtain ⟨n, rfl⟩ : ∃ m, n = m + 1 := ⟨n - 1, by omega⟩
    rw [G38_3_eq, sel_neg (by omega), List.drop_eq_nil_of_le (by omega)]
    rfl
  | succ j ih =>
    intro i hij m hg n hn
    obtain ⟨n, rfl⟩ : ∃ m, n = m + 1 := ⟨n - 1, by omega⟩
    have hlt : i < l.length := by omega
    rw [G38_3_eq, sel_pos (by omega), sel_pos (by omega), sel_pos (by simp only [ofNat_len]; omega), Int.toNat_natCast, getD_of hlt]
    have hp := G77_is k m hg l[i]
    have hg2 := putB_good hg l[i]
    obtain ⟨hi, lo, ⟨⟩⟩ := m
    rw [hp, ocall_some]
    rcases putB_err (hi, lo, ()) l[i] with h | h
    · have hof : ofB (hi, lo, ()) (l.drop i) = ofB (putB (hi, lo, ()) l[i]).1 (l.drop (i + 1)) := by
        rw [List.drop_eq_getElem_cons hlt]
        exact if_pos h
      rw [hof, sel_not, sel_pos h, wrap64 (by omega) (by omega)]
      have := ih (i + 1) (by omega) (putB (hi, lo, ()) l[i]).1 hg2 n (by omega)
      rw [Int.natCast_add, Int.natCast_one] at this
      exact this
    · have hof : ofB (hi, lo, ()) (l.drop i) = ((0, 0, ()), (putB (hi, lo, ()) l[i]).2) := by
        rw [List.drop_eq_getElem_cons hlt]
        exact if_neg (by omega)
      have hn0 : ¬ (putB (hi, lo, ()) l[i]).2 = 0 := by omega
      rw [hof, sel_not, sel_neg hn0, if_neg hn0]
theorem ofB_err : ∀ (l : List Int) (m : BM), (ofB m l).2 ≠ 0 → (ofB m l).1 = (0, 0, ()) := by
  intro l
  induction l with
  | nil => intro m h; exact absurd rfl h
  | cons n l ih =>
    intro m h
    unfold ofB at h ⊢
    split
    · rename_i c; rw [if_pos c] at h; exact ih _ h
    · rfl
theorem G38_is (k : Nat) (l : List Int) (hl : l.length ≤ 1000000000) (hk : l.length < k) : G38 k (l, ()) = some ((ofB (0, 0, ()) l).1, (ofB (0, 0, ()) l).2, ()) := by
  have h := G38_3_is k l hl l.length 0 (by omega) (0, 0, ()) ⟨⟨by decide, by decide⟩, by decide, by decide⟩ k hk
  rw [List.drop_zero, Int.natCast_zero] at h
  rw [G38_eq]
  simp only [ofNat_len]
  rw [h, ocall_some]
  have hz := ofB_err l (0, 0, ())
  by_cases c : (ofB (0, 0, ()) l).2 = 0
  · rw [if_pos c, esel_inl, c]
  · rw [if_neg c, esel_inr, hz c]
theorem fdiv_shift (w e : Nat) : IntKind.u8.wrap ((w : Int).fdiv ((2 : Int) ^ e)) = ((w / 2 ^ e % 256 : Nat) : Int) := by
  have e2 : (2 : Int) ^ e = ((2 ^ e : Nat) : Int) := by rw [Int.natCast_pow]; rfl
  rw [e2, ← Int.ofNat_fdiv]
  unfold IntKind.wrap
  simp only [IntKind.bits, IntKind.signed]
  simp
theorem G79_2_step (k c : Nat) (b : List Int) (w i : Nat) (hi : i < 8) (hb : b.length ≤ 1000) : G79_2 k (c + 1) (b, (w : Int), (i : Int), ()) = G79_2 k c (b ++ [((w / 2 ^ (56 - 8 * i) % 256 : Nat) : Int)], (w : Int), ((i + 1 : Nat) : Int), ()) := by
  rw [G79_2_eq, sel_pos (by omega), wrap64 (n := (i : Int) + 1) (by omega) (by omega), wrap64 (n := 8 * ((i : Int) + 1)) (by omega) (by omega), wrap64 (by omega) (by omega), sel_pos (by omega), sel_pos (by omega),
    show (64 - 8 * ((i : Int) + 1)).toNat = 56 - 8 * i by omega, Nat.min_eq_left (by omega), fdiv_shift]
  rfl
theorem G79_is (k : Nat) (hk : 20 < k) (b : List Int) (hb : b.length ≤ 900) (w : Nat) : G79 k (b, (w : Int), ()) = some (b ++ be8 w, ()) := by
  obtain ⟨c, rfl⟩ : ∃ c, k = c + 9 := ⟨k - 9, by omega⟩
  rw [G79_eq]
  have s0 := G79_2_step (c + 9) (c + 8) b w 0 (by omega) (by omega)
  rw [Int.natCast_zero] at s0
  rw [s0, G79_2_step (c + 9) (c + 7) _ w 1 (by omega) (by simp; omega), G79_2_step (c + 9) (c + 6) _ w 2 (by omega) (by simp; omega), G79_2_step (c + 9) (c + 5) _ w 3 (by omega) (by simp; omega),
    G79_2_step (c + 9) (c + 4) _ w 4 (by omega) (by simp; omega), G79_2_step (c + 9) (c + 3) _ w 5 (by omega) (by simp; omega), G79_2_step (c + 9) (c + 2) _ w 6 (by omega) (by simp; omega),
    G79_2_step (c + 9) (c + 1) _ w 7 (by omega) (by simp; omega), G79_2_eq, sel_neg (by omega), ocall_some]
  simp [be8, List.append_assoc]
def bytesB (m : BM) : List Int := if m.2.1 = 0 then be8 m.1.toNat else be8 m.1.toNat ++ be8 m.2.1.toNat
theorem G39_is (k : Nat) (hk : 20 < k) (m : BM) (hg : goodB m) : G39 k (m, ()) = some (if rightB m = true then (bytesB m, 0, ()) else ([], 1, ())) := by
  have hR := G78_is k m hg
  obtain ⟨hi, lo, ⟨⟩⟩ := m
  rw [G39_eq, hR, ocall_some]
  cases rightB (hi, lo, ()) with
  | false => rw [if_neg (by simp)]; rfl
  | true =>
  rw [if_pos rfl]
  obtain ⟨hi, rfl, hh⟩ := nat_of hg.1
  obtain ⟨lo, rfl, hl⟩ := nat_of hg.2
  simp only [Bool.not_true, sel_false]
  rw [G79_is k hk [] (by simp) hi, ocall_some]
  unfold bytesB
  simp only [Int.toNat_natCast, List.nil_append]
  by_cases hz : (lo : Int) = 0
  · rw [sel_not, sel_pos hz, if_pos hz]
  · rw [sel_not, sel_neg hz, if_neg hz, G79_is k hk _ (by simp [be8]) lo, ocall_some]
theorem take_lt (l : List Int) (hb : ∀ c ∈ l, byteOK c) : ∀ i : Nat, i ≤ l.length → (l.take i).foldl (fun a c => 256 * a + c.toNat) 0 < 256 ^ i := by
  intro i
  induction i with
  | zero => intro _; simp
  | succ i ih =>
    intro hi
    have := ih (by omega)
    rw [List.take_succ_eq_append_getElem (by omega), List.foldl_append]
    have hc := hb l[i] (List.getElem_mem _)
    simp only [List.foldl_cons, List.foldl_nil]
    unfold byteOK at hc
    rw [Nat.pow_succ]
    omega
theorem G102_3_is (k : Nat) (l : List Int) (hl : l.length = 8) (hb : ∀ c ∈ l, byteOK c) : ∀ (j i : Nat), i + j = 8 → ∀ n, j < n →
    G102_3 k n ((((l.take i).foldl (fun a c => 256 * a + c.toNat) 0 : Nat) : Int), l, 8, (i : Int), ()) = some (((num8 l : Nat) : Int), ()) := by
  intro j
  induction j with
  | zero =>
    intro i hij n hn
    obtain ⟨n, rfl⟩ : ∃ m, n = m + 1 := ⟨n - 1, by omega⟩
    rw [G102_3_eq, sel_neg (by omega), List.take_of_length_le (by omega)]
    rfl
  | succ j ih =>
    intro i hij n hn
    obtain ⟨n, rfl⟩ : ∃ m, n = m + 1 := ⟨n - 1, by omega⟩
    have hlt : i < l.length := by omega
    have ht := take_lt l hb i (by omega)
    have hp : 256 ^ i ≤ 256 ^ 7 := Nat.pow_le_pow_right (by omega) (by omega)
    have hc := hb l[i] (List.getElem_mem _)
    unfold byteOK at hc
    rw [G102_3_eq, sel_pos (by omega), sel_pos (by omega), sel_pos (by simp only [ofNat_len]; omega), Int.toNat_natCast, getD_of hlt, wrap64 (by omega) (by omega)]
    have e8 : (2 : Int) ^ min (Int.toNat 8) 64 = 256 := by rfl
    obtain ⟨c, hce⟩ := Int.eq_ofNat_of_zero_le hc.1
    have h7 : (256 : Nat) ^ 7 = 72057594037927936 := by rfl
    rw [e8, hce, shl_or (by omega) (by omega)]
    have := ih (i + 1) (by omega) n (by omega)
    rw [List.take_succ_eq_append_getElem (by omega), List.foldl_append] at this
    simp only [List.foldl_cons, List.foldl_nil, hce, Int.toNat_natCast, Int.natCast_add, Int.natCast_one, Int.natCast_mul] at this ⊢
    exact this
theorem G102_is (k : Nat) (hk : 20 < k) (l : List Int) (hl : 8 ≤ l.length) (hb : ∀ c ∈ l, byteOK c) : G102 k (l, ()) = some (((num8 (l.take 8) : Nat) : Int), ()) := by
  have h := G102_3_is k (l.take 8) (by rw [List.length_take]; omega) (fun c hc => hb c (List.mem_of_mem_take hc)) 8 0 (by omega) k (by omega)
  rw [G102_eq, sel_pos (by simp only [ofNat_len]; omega), sel_pos (by simp)]
  have e : List.drop (Int.ofNat 0).toNat (List.take (Int.toNat 8) l) = l.take 8 := rfl
  have e2 : (l.take 8).length = 8 := by rw [List.length_take]; omega
  rw [e, e2]
  simp only [List.take_zero, List.foldl_nil, Int.natCast_zero] at h
  have e3 : Int.ofNat 8 = 8 := rfl
  rw [e3, h, ocall_some]
def readB (b : List Int) : BM × Int × Int :=
  if b.length < 8 then ((0, 0, ()), 0, 2)
  else if (num8 (b.take 8)).testBit 63 = true then
    if b.length < 16 then ((0, 0, ()), 0, 2)
    else if rightB (((num8 (b.take 8) : Nat) : Int), ((num8 ((b.drop 8).take 8) : Nat) : Int), ()) = true then ((((num8 (b.take 8) : Nat) : Int), ((num8 ((b.drop 8).take 8) : Nat) : Int), ()), 16, 0) else ((0, 0, ()), 0, 3)
  else if rightB (((num8 (b.take 8) : Nat) : Int), 0, ()) = true then ((((num8 (b.take 8) : Nat) : Int), 0, ()), 8, 0) else ((0, 0, ()), 0, 3)
theorem num8_good {l : List Int} (h : 8 ≤ l.length) (hb : ∀ c ∈ l, byteOK c) : num8 (l.take 8) < 18446744073709551616 := num8_lt (by rw [List.length_take]; omega) fun c hc => hb c (List.mem_of_mem_take hc)
theorem G89_is (k : Nat) (hk : 20 < k) (b : List Int) (hb : ∀ c ∈ b, byteOK c) : G89 k (b, ()) = some ((readB b).1, (readB b).2.1, (readB b).2.2, ()) := by
  rw [G89_eq]
  unfold readB
  by_cases c8 : b.length < 8
  · rw [sel_pos (by simp only [ofNat_len]; omega), if_pos c8]
  rw [sel_neg (by simp only [ofNat_len]; omega), if_neg c8, G102_is k hk b (by omega) hb, ocall_some]
  have n1 := num8_good (l := b) (by omega) hb
  have g0 : goodB (((num8 (b.take 8) : Nat) : Int), 0, ()) := ⟨⟨by (try simp only []); omega, by (try simp only []); omega⟩, Int.le_refl 0, by show (0 : Int) < _; decide⟩
  rw [G101_is k _ g0 1 (by omega) (by omega), ocall_some]
  have e1 : bitB (((num8 (b.take 8) : Nat) : Int), 0, ()) (Int.toNat 1) = (num8 (b.take 8)).testBit 63 := by simp [bitB]
  rw [e1]
  cases ht : (num8 (b.take 8)).testBit 63 with
  | false =>
    rw [if_neg (by simp), sel_false, G78_is k _ g0, ocall_some]
    cases rightB (((num8 (b.take 8) : Nat) : Int), 0, ()) with
    | false => rw [if_neg (by simp)]; rfl
    | true => rw [if_pos rfl]; rfl
  | true =>
    rw [if_pos rfl, sel_true]
    by_cases c16 : b.length < 16
    · rw [sel_pos (by simp only [ofNat_len]; omega), if_pos c16]
    rw [sel_neg (by simp only [ofNat_len]; omega), if_neg c16, sel_pos (by simp only [ofNat_len]; omega), sel_pos (by simp), sel_pos (by simp)]
    have e : List.drop (Int.toNat 8) (List.take (Int.ofNat b.length).toNat b) = b.drop 8 := by
      rw [show (Int.ofNat b.length).toNat = b.length from rfl, List.take_of_length_le (Nat.le_refl _)]; rfl
    have hb2 : ∀ c ∈ b.drop 8, byteOK c := fun c hc => hb c (List.mem_of_mem_drop hc)
    have hl2 : 8 ≤ (b.drop 8).length := by rw [List.length_drop]; omega
    have n2 := num8_good hl2 hb2
    have g1 : goodB (((num8 (b.take 8) : Nat) : Int), ((num8 ((b.drop 8).take 8) : Nat) : Int), ()) := ⟨⟨by (try simp only []); omega, by (try simp only []); omega⟩, by (try simp only []); omega, by (try simp only []); omega⟩
    rw [e, G102_is k hk _ hl2 hb2, ocall_some]
    (try simp only [])
    rw [G78_is k _ g1, ocall_some]
    cases rightB (((num8 (b.take 8) : Nat) : Int), ((num8 ((b.drop 8).take 8) : Nat) : Int), ()) with
    | false => rw [if_neg (by simp)]; rfl
    | true => rw [if_pos rfl]; rfl
end Go.Proofs.YtjgnpmdbkgeakaaGreatDoor.G
end
section
set_option linter.unusedVariables false
set_option linter.unusedSimpArgs false
set_option maxRecDepth 100000
namespace Go.Proofs.YtjgnpmdbkgeakaaGreatDoor.G
open Go Go.Proofs.YtjgnpmdbkgeakaaGreatDoor Th Bits
theorem half (w : Nat) : IntKind.u64.wrap ((w : Int).tdiv 2) = ((w / 2 : Nat) : Int) ∨ 18446744073709551616 ≤ w := by
  by_cases h : w < 18446744073709551616
  · left
    have : (w : Int).tdiv 2 = ((w / 2 : Nat) : Int) := by rw [show (2 : Int) = ((2 : Nat) : Int) from rfl, ← Int.ofNat_tdiv]
    rw [this]
    exact wrapu64 (by omega) (by omega)
  · right; omega
theorem G84_6_is (k : Nat) : ∀ (j i : Nat), i + j = 64 → ∀ (w : Nat), w < 18446744073709551616 → ∀ n, j < n → G84_6 k n ((w : Int), (i : Int), ()) = some (((w / 2 ^ j : Nat) : Int), ()) := by
  intro j
  induction j with
  | zero =>
    intro i hij w hw n hn
    obtain ⟨n, rfl⟩ : ∃ m, n = m + 1 := ⟨n - 1, by omega⟩
    rw [G84_6_eq, sel_neg (by omega)]
    simp
  | succ j ih =>
    intro i hij w hw n hn
    obtain ⟨n, rfl⟩ : ∃ m, n = m + 1 := ⟨n - 1, by omega⟩
    rw [G84_6_eq, sel_pos (by omega), wrap64 (by omega) (by omega)]
    rcases half w with h | h
    · rw [h]
      have := ih (i + 1) (by omega) (w / 2) (by omega) n (by omega)
      rw [Int.natCast_add, Int.natCast_one] at this
      rw [this, Nat.div_div_eq_div_mul, Nat.pow_succ, Nat.mul_comm]
    · omega
theorem odd_of (w e : Nat) : decide ((((w / 2 ^ e : Nat) : Int)).tmod 2 = 1) = w.testBit e := by
  rw [← test_div]
  refine decide_eq_decide.2 ?_
  rw [show (2 : Int) = ((2 : Nat) : Int) from rfl, ← Int.ofNat_tmod]
  omega
theorem G84_is (k : Nat) (hk : 100 < k) (m : BM) (hg : goodB m) (n : Int) (h1 : 1 ≤ n) (h2 : n ≤ 128) : G84 k (m, n, ()) = some (bitB m n.toNat, ()) := by
  obtain ⟨hi, lo, ⟨⟩⟩ := m
  obtain ⟨hi, rfl, hh⟩ := nat_of hg.1
  obtain ⟨lo, rfl, hl⟩ := nat_of hg.2
  obtain ⟨n, rfl⟩ : ∃ m : Nat, n = m := ⟨n.toNat, by omega⟩
  rw [G84_eq]
  unfold bitB
  simp only [Int.toNat_natCast]
  by_cases c : (64 : Int) < n
  · rw [sel_pos c, if_neg (by omega), wrap64 (by omega) (by omega), show (n : Int) - 64 = ((n - 64 : Nat) : Int) by omega, G84_6_is k (128 - n) (n - 64) (by omega) lo hl k (by omega), ocall_some]
    simp only [odd_of]
  · rw [sel_neg c, if_pos (by omega), G84_6_is k (64 - n) n (by omega) hi hh k (by omega), ocall_some]
    simp only [odd_of]
theorem G82_is (k : Nat) (hk : 100 < k) (m : BM) (hg : goodB m) : G82 k (m, ()) = some (rightB m, ()) := by
  have h65 := G84_is k hk m hg 65 (by omega) (by omega)
  have h1 := G84_is k hk m hg 1 (by omega) (by omega)
  obtain ⟨hi, lo, ⟨⟩⟩ := m
  have hlo : 0 ≤ lo := hg.2.1
  rw [G82_eq, h65, ocall_some, h1]
  unfold rightB
  have e : decide (0 < lo) = !decide (lo = 0) := by by_cases c : lo = 0 <;> simp [c]; omega
  simp only [ocall_some, e]
  show sel (!bitB (hi, lo, ()) 65) _ _ = _
  cases bitB (hi, lo, ()) 65 <;> rfl
theorem G83_is (k : Nat) (n : Int) : G83 k (n, ()) = some (fieldB n, ()) := by
  rw [G83_eq]
  have hiff := @fieldB_iff n
  cases hf : fieldB n with
  | true =>
    obtain ⟨a, b, c⟩ := hiff.1 hf
    rw [sel_pos a]
    by_cases d : n ≤ 64
    · rw [sel_pos d]
    · rw [sel_neg d, sel_pos (by omega), decide_eq_true b]
  | false =>
    have hn : ¬ (2 ≤ n ∧ n ≤ 128 ∧ n ≠ 65) := fun h => by rw [hiff.2 h] at hf; cases hf
    by_cases a : 2 ≤ n
    · rw [sel_pos a, sel_neg (by omega)]
      by_cases d : 66 ≤ n
      · rw [sel_pos d, decide_eq_false (by omega)]
      · rw [sel_neg d]
    · rw [sel_neg a, sel_neg (by omega)]
theorem G64_is (k : Nat) (hk : 100 < k) (m : BM) (hg : goodB m) (n : Int) : G64 k (m, n, ()) = some (hasB m n, ()) := by
  obtain ⟨hi, lo, ⟨⟩⟩ := m
  rw [G64_eq, G83_is, ocall_some]
  unfold hasB
  cases hf : fieldB n with
  | false => rfl
  | true =>
    have := fieldB_iff.1 hf
    rw [G84_is k hk _ hg n (by omega) (by omega)]; rfl
theorem G85_3_is (k : Nat) (m : Nat) (hm : m < 64) : ∀ (j i : Nat), i + j = m → ∀ n, j < n → G85_3 k n ((m : Int), ((2 ^ i : Nat) : Int), (i : Int), ()) = some (((2 ^ m : Nat) : Int), ()) := by
  intro j
  induction j with
  | zero =>
    intro i hij n hn
    obtain ⟨n, rfl⟩ : ∃ m, n = m + 1 := ⟨n - 1, by omega⟩
    rw [G85_3_eq, sel_neg (by omega), show i = m by omega]
  | succ j ih =>
    intro i hij n hn
    obtain ⟨n, rfl⟩ : ∃ m, n = m + 1 := ⟨n - 1, by omega⟩
    have hp := pow_lt (n := i + 1) (by omega)
    rw [G85_3_eq, sel_pos (by omega), wrap64 (by omega) (by omega)]
    have e : (2 : Int) * ((2 ^ i : Nat) : Int) = ((2 ^ (i + 1) : Nat) : Int) := by rw [Nat.pow_succ]; omega
    have key : ∀ z : Nat, z < 18446744073709551616 → IntKind.u64.wrap (z : Int) = z := fun z h => wrapu64 (by omega) (by omega)
    rw [e, key _ hp]
    have := ih (i + 1) (by omega) n (by omega)
    rw [Int.natCast_add, Int.natCast_one] at this
    exact this
theorem G85_is (k : Nat) (hk : 100 < k) (m : Nat) (hm : m < 64) : G85 k ((m : Int), ()) = some (((2 ^ m : Nat) : Int), ()) := by
  have h := G85_3_is k m hm m 0 (by omega) k (by omega)
  rw [Nat.pow_zero, Int.natCast_zero] at h
  rw [G85_eq]
  have e : (((1 : Nat) : Int)) = 1 := rfl
  rw [e] at h
  rw [h, ocall_some]
theorem add_wrap {w k : Nat} (hw : w < 18446744073709551616) (hk : k < 64) (h : w.testBit k = false) : IntKind.u64.wrap ((w : Int) + ((2 ^ k : Nat) : Int)) = ((w ||| 2 ^ k : Nat) : Int) := by
  have := or_lt hw hk
  have e := add_or hw hk h
  rw [← Int.natCast_add, e]
  exact wrapu64 (by omega) (by omega)
theorem G44_is (k : Nat) (hk : 100 < k) (m : BM) (hg : goodB m) (n : Int) : G44 k (m, n, ()) = some ((putB m n).1, (putB m n).2, ()) := by
  have hR := G82_is k hk m hg
  have hB := G84_is k hk m hg n
  obtain ⟨hi, lo, ⟨⟩⟩ := m
  rw [G44_eq, hR, ocall_some]
  unfold putB
  cases hr : rightB (hi, lo, ()) with
  | false => rw [if_neg (by simp)]; rfl
  | true =>
  simp only [Bool.not_true, sel_false]
  rw [G83_is, ocall_some]
  cases hf : fieldB n with
  | false => rw [if_neg (by simp)]; rfl
  | true =>
  rw [if_pos (by simp)]
  simp only [Bool.not_true, sel_false]
  obtain ⟨f1, f2, f3⟩ := fieldB_iff.1 hf
  obtain ⟨n, rfl⟩ : ∃ m : Nat, n = m := ⟨n.toNat, by omega⟩
  obtain ⟨hi, rfl, hh⟩ := nat_of hg.1
  obtain ⟨lo, rfl, hl⟩ := nat_of hg.2
  obtain ⟨r1, r2⟩ := rightB_iff.1 hr
  rw [hB (by omega) (by omega), ocall_some]
  unfold setB
  simp only [Int.toNat_natCast]
  cases hb : bitB ((hi : Int), (lo : Int), ()) n with
  | true =>
    rw [sel_true]
    unfold bitB at hb
    simp only [Int.toNat_natCast] at hb
    by_cases c : n ≤ 64
    · rw [if_pos c] at hb ⊢
      rw [or_self hb]
    · rw [if_neg c] at hb ⊢
      have hz : (lo : Int) ≠ 0 := fun e => by
        have e0 : lo = 0 := by omega
        rw [e0, Nat.zero_testBit] at hb; cases hb
      have h63 : hi.testBit 63 = true := by have := r2.2 hz; simpa [bitB] using this
      rw [or_self hb, or_self h63]
  | false =>
    rw [sel_false]
    unfold bitB at hb
    simp only [Int.toNat_natCast] at hb
    by_cases c : (n : Int) ≤ 64
    · rw [if_pos (by omega)] at hb ⊢
      rw [sel_pos c, wrap64 (by omega) (by omega), show (64 : Int) - n = ((64 - n : Nat) : Int) by omega, G85_is k hk _ (by omega), ocall_some]
      (try simp only [])
      rw [add_wrap hh (by omega) hb]
    · rw [if_neg (by omega)] at hb ⊢
      rw [sel_neg c, wrap64 (by omega) (by omega), show (128 : Int) - n = ((128 - n : Nat) : Int) by omega, G85_is k hk _ (by omega)]
      by_cases hz : (lo : Int) = 0
      · have e63 : (63 : Int) = ((63 : Nat) : Int) := rfl
        rw [sel_pos hz, e63, G85_is k hk _ (by omega), ocall_some, ocall_some]
        have h63 : hi.testBit 63 = false := by
          cases h : hi.testBit 63 with
          | false => rfl
          | true => exact absurd hz (r2.1 (by simpa [bitB] using h))
        (try simp only [])
        rw [add_wrap hh (by omega) h63, add_wrap hl (by omega) hb]
      · rw [sel_neg hz, ocall_some]
        have h63 : hi.testBit 63 = true := by have := r2.2 hz; simpa [bitB] using this
        (try simp only [])
        rw [add_wrap hl (by omega) hb, or_self h63]
theorem u8mod (w : Nat) : IntKind.u8.wrap ((w : Int).tmod 256) = ((w % 256 : Nat) : Int) := by
  rw [show (256 : Int) = ((256 : Nat) : Int) from rfl, ← Int.ofNat_tmod]
  unfold IntKind.wrap
  simp only [IntKind.bits, IntKind.signed]
  simp
theorem div256 {w : Nat} (hw : w < 18446744073709551616) : IntKind.u64.wrap ((w : Int).tdiv 256) = ((w / 256 : Nat) : Int) := by
  rw [show (256 : Int) = ((256 : Nat) : Int) from rfl, ← Int.ofNat_tdiv]
  exact wrapu64 (by omega) (by omega)
theorem G87_3_step (k c : Nat) (w : Nat) (hw : w < 18446744073709551616) (l : List Int) (hl : l.length = 8) (i : Nat) (hi : i < 8) :
    G87_3 k (c + 1) ((w : Int), l, (i : Int), ()) = G87_3 k c (((w / 256 : Nat) : Int), l.set i ((w % 256 : Nat) : Int), (i : Int) - 1, ()) := by
  rw [G87_3_eq, sel_pos (by omega), sel_pos (by omega), sel_pos (by simp only [ofNat_len]; omega), Int.toNat_natCast, sel_pos (by omega), div256 hw, u8mod, wrap64 (by omega) (by omega)]
theorem G87_is (k : Nat) (hk : 20 < k) (w : Nat) (hw : w < 18446744073709551616) : G87 k ((w : Int), ()) = some (be8 w, ()) := by
  obtain ⟨c, rfl⟩ : ∃ c, k = c + 9 := ⟨k - 9, by omega⟩
  rw [G87_eq]
  have e0 : List.replicate (Int.toNat 8) (0 : Int) = [0, 0, 0, 0, 0, 0, 0, 0] := rfl
  have st : ∀ (c w : Nat), w < 18446744073709551616 → ∀ (l : List Int), l.length = 8 → ∀ (i : Nat), i < 8 → ∀ x : Int, x = (i : Int) → ∀ k, G87_3 k (c + 1) ((w : Int), l, x, ()) = G87_3 k c (((w / 256 : Nat) : Int), l.set i ((w % 256 : Nat) : Int), x - 1, ()) := by
    intro c w hw l hl i hi x hx k
    rw [hx]; exact G87_3_step k c w hw l hl i hi
  rw [e0, st (c + 8) w hw _ rfl 7 (by omega) 7 rfl, st (c + 7) _ (by omega) _ rfl 6 (by omega) (7 - 1) rfl, st (c + 6) _ (by omega) _ rfl 5 (by omega) (7 - 1 - 1) rfl, st (c + 5) _ (by omega) _ rfl 4 (by omega) (7 - 1 - 1 - 1) rfl,
    st (c + 4) _ (by omega) _ rfl 3 (by omega) (7 - 1 - 1 - 1 - 1) rfl, st (c + 3) _ (by omega) _ rfl 2 (by omega) (7 - 1 - 1 - 1 - 1 - 1) rfl, st (c + 2) _ (by omega) _ rfl 1 (by omega) (7 - 1 - 1 - 1 - 1 - 1 - 1) rfl, st (c + 1) _ (by omega) _ rfl 0 (by omega) (7 - 1 - 1 - 1 - 1 - 1 - 1 - 1) rfl,
    G87_3_eq, sel_neg (by omega), ocall_some]
  simp only [Nat.div_div_eq_div_mul, List.set_cons_zero, List.set_cons_succ]
  rfl
theorem G46_is (k : Nat) (hk : 20 < k) (m : BM) (hg : goodB m) : G46 k (m, ()) = some (bytesB m, ()) := by
  obtain ⟨hi, lo, ⟨⟩⟩ := m
  obtain ⟨hi, rfl, hh⟩ := nat_of hg.1
  obtain ⟨lo, rfl, hl⟩ := nat_of hg.2
  rw [G46_eq]
  unfold bytesB
  simp only [Int.toNat_natCast]
  by_cases hz : (lo : Int) = 0
  · rw [sel_pos hz, if_pos hz, G87_is k hk hi hh, ocall_some]
  · rw [sel_neg hz, if_neg hz, G87_is k hk hi hh, ocall_some, G87_is k hk lo hl, ocall_some]
    simp only [be8_len]
    rfl
theorem G98_3_is (k : Nat) (l : List Int) (hl : 8 ≤ l.length) (hb : ∀ c ∈ l, byteOK c) : ∀ (j i : Nat), i + j = 8 → ∀ n, j < n →
    G98_3 k n (l, (((l.take i).foldl (fun a c => 256 * a + c.toNat) 0 : Nat) : Int), (i : Int), ()) = some (((num8 (l.take 8) : Nat) : Int), ()) := by
  intro j
  induction j with
  | zero =>
    intro i hij n hn
    obtain ⟨n, rfl⟩ : ∃ m, n = m + 1 := ⟨n - 1, by omega⟩
    rw [G98_3_eq, sel_neg (by omega), show i = 8 by omega]
    rfl
  | succ j ih =>
    intro i hij n hn
    obtain ⟨n, rfl⟩ : ∃ m, n = m + 1 := ⟨n - 1, by omega⟩
    have hlt : i < l.length := by omega
    have ht := take_lt l hb i (by omega)
    have hp : 256 ^ i ≤ 256 ^ 7 := Nat.pow_le_pow_right (by omega) (by omega)
    have h7 : (256 : Nat) ^ 7 = 72057594037927936 := by rfl
    have hc := hb l[i] (List.getElem_mem _)
    unfold byteOK at hc
    rw [G98_3_eq, sel_pos (by omega), sel_pos (by omega), sel_pos (by simp only [ofNat_len]; omega), Int.toNat_natCast, getD_of hlt, wrap64 (by omega) (by omega), wrapu64 (n := l[i]) (by omega) (by omega)]
    obtain ⟨c, hce⟩ := Int.eq_ofNat_of_zero_le hc.1
    rw [hce, wrapu64 (n := 256 * _) (by omega) (by omega), wrapu64 (by omega) (by omega)]
    have := ih (i + 1) (by omega) n (by omega)
    rw [List.take_succ_eq_append_getElem (by omega), List.foldl_append] at this
    simp only [List.foldl_cons, List.foldl_nil, hce, Int.toNat_natCast, Int.natCast_add, Int.natCast_one, Int.natCast_mul] at this ⊢
    exact this
theorem G98_is (k : Nat) (hk : 20 < k) (l : List Int) (hl : 8 ≤ l.length) (hb : ∀ c ∈ l, byteOK c) : G98 k (l, ()) = some (((num8 (l.take 8) : Nat) : Int), ()) := by
  have h := G98_3_is k l hl hb 8 0 (by omega) k (by omega)
  simp only [List.take_zero, List.foldl_nil, Int.natCast_zero] at h
  rw [G98_eq, h, ocall_some]
theorem G63_is (k : Nat) (hk : 100 < k) (b : List Int) (hb : ∀ c ∈ b, byteOK c) : G63 k (b, ()) = some ((readB b).1, (readB b).2.1, (readB b).2.2, ()) := by
  rw [G63_eq]
  unfold readB
  by_cases c8 : b.length < 8
  · rw [sel_pos (by simp only [ofNat_len]; omega), if_pos c8]
  have n1 := num8_good (l := b) (by omega) hb
  have g0 : goodB (((num8 (b.take 8) : Nat) : Int), 0, ()) := ⟨⟨by (try simp only []); omega, by (try simp only []); omega⟩, Int.le_refl 0, by show (0 : Int) < _; decide⟩
  have ht := num8_top (l := b.take 8) (by rw [List.length_take]; omega) (fun c hc => hb c (List.mem_of_mem_take hc))
  have e0 : (b.take 8).getD 0 0 = b.getD 0 0 := by
    cases b with
    | nil => rfl
    | cons x b => rfl
  rw [e0] at ht
  rw [sel_neg (by simp only [ofNat_len]; omega), if_neg c8, ht]
  simp only [ofNat_len, G98_is k (by omega) b (by omega) hb, ocall_some, G82_is k hk _ g0]
  have hp : (0 : Int) < b.length := by omega
  by_cases c : 128 ≤ b.getD 0 0
  · have c' : (128 : Int) ≤ b.getD (Int.toNat 0) 0 := c
    rw [sel_pos hp, sel_pos c', if_pos (decide_eq_true c)]
    by_cases c16 : b.length < 16
    · rw [sel_pos (by omega), if_pos c16]
    have e : List.drop (Int.toNat 8) (List.take ((b.length : Int)).toNat b) = b.drop 8 := by
      rw [Int.toNat_natCast, List.take_of_length_le (Nat.le_refl _)]; rfl
    have hb2 : ∀ c ∈ b.drop 8, byteOK c := fun c hc => hb c (List.mem_of_mem_drop hc)
    have hl2 : 8 ≤ (b.drop 8).length := by rw [List.length_drop]; omega
    have n2 := num8_good hl2 hb2
    have g1 : goodB (((num8 (b.take 8) : Nat) : Int), ((num8 ((b.drop 8).take 8) : Nat) : Int), ()) := ⟨⟨by (try simp only []); omega, by (try simp only []); omega⟩, by (try simp only []); omega, by (try simp only []); omega⟩
    rw [sel_neg (by omega), if_neg c16, sel_pos hp, sel_pos c', sel_pos (by omega), sel_pos (Int.le_refl _), sel_pos (Int.le_refl _), e, G98_is k (by omega) _ hl2 hb2, ocall_some]
    (try simp only [])
    rw [G82_is k hk _ g1, ocall_some]
    cases rightB (((num8 (b.take 8) : Nat) : Int), ((num8 ((b.drop 8).take 8) : Nat) : Int), ()) with
    | false => rw [if_neg (by simp)]; rfl
    | true => rw [if_pos rfl]; rfl
  · have c' : ¬ (128 : Int) ≤ b.getD (Int.toNat 0) 0 := c
    rw [sel_pos hp, sel_neg c', if_neg (by rw [decide_eq_false c]; simp), sel_pos hp, sel_neg c']
    cases rightB (((num8 (b.take 8) : Nat) : Int), 0, ()) with
    | false => rw [if_neg (by simp)]; rfl
    | true => rw [if_pos rfl]; rfl
end Go.Proofs.YtjgnpmdbkgeakaaGreatDoor.G
end
section
set_option linter.unusedVariables false
set_option linter.unusedSimpArgs false
set_option maxRecDepth 100000
namespace Go.Proofs.YtjgnpmdbkgeakaaGreatDoor.G
open Go Go.Proofs.YtjgnpmdbkgeakaaGreatDoor Th Bits
theorem sorted_ext : ∀ (a b : List Int), a.Pairwise (· < ·) → b.Pairwise (· < ·) → (∀ x, x ∈ a ↔ x ∈ b) → a = b := by
  intro a
  induction a with
  | nil =>
    intro b _ _ h
    cases b with
    | nil => rfl
    | cons y b => exact absurd ((h y).2 (List.mem_cons_self ..)) (by simp)
  | cons x a ih =>
    intro b ha hb h
    cases b with
    | nil => exact absurd ((h x).1 (List.mem_cons_self ..)) (by simp)
    | cons y b =>
      rw [List.pairwise_cons] at ha hb
      have hxy : x = y := by
        have h1 := (h x).1 (List.mem_cons_self ..)
        have h2 := (h y).2 (List.mem_cons_self ..)
        rcases List.mem_cons.1 h1 with e | e
        · exact e
        · rcases List.mem_cons.1 h2 with e2 | e2
          · exact e2.symm
          · have := hb.1 x e; have := ha.1 y e2; omega
      subst hxy
      rw [ih b ha.2 hb.2 fun z => ?_]
      constructor
      · intro hz
        have hlt := ha.1 z hz
        rcases List.mem_cons.1 ((h z).1 (List.mem_cons_of_mem _ hz)) with e | e
        · omega
        · exact e
      · intro hz
        have hlt := hb.1 z hz
        rcases List.mem_cons.1 ((h z).2 (List.mem_cons_of_mem _ hz)) with e | e
        · omega
        · exact e
theorem nat_ext {x y : Nat} (hx : x < 18446744073709551616) (hy : y < 18446744073709551616) (h : ∀ i, i < 64 → x.testBit i = y.testBit i) : x = y := by
  apply Nat.eq_of_testBit_eq
  intro i
  by_cases c : i < 64
  · exact h i c
  · rw [high_zero hx (by omega), high_zero hy (by omega)]
theorem bit_ext {a b : BM} (ga : goodB a) (gb : goodB b) (h : ∀ n : Nat, 1 ≤ n → n ≤ 128 → bitB a n = bitB b n) : a = b := by
  obtain ⟨ha, la, ⟨⟩⟩ := a
  obtain ⟨hb, lb, ⟨⟩⟩ := b
  obtain ⟨ha, rfl, ha'⟩ := nat_of ga.1
  obtain ⟨la, rfl, la'⟩ := nat_of ga.2
  obtain ⟨hb, rfl, hb'⟩ := nat_of gb.1
  obtain ⟨lb, rfl, lb'⟩ := nat_of gb.2
  have e1 : ha = hb := nat_ext ha' hb' fun i hi => by
    have := h (64 - i) (by omega) (by omega)
    unfold bitB at this
    rw [if_pos (by omega), if_pos (by omega)] at this
    simpa [show 64 - (64 - i) = i by omega] using this
  have e2 : la = lb := nat_ext la' lb' fun i hi => by
    have := h (128 - i) (by omega) (by omega)
    unfold bitB at this
    rw [if_neg (by omega), if_neg (by omega)] at this
    simpa [show 128 - (128 - i) = i by omega] using this
  rw [e1, e2]
theorem low_bits {m : BM} (gm : goodB m) : m.2.1 ≠ 0 ↔ ∃ n : Nat, 65 ≤ n ∧ n ≤ 128 ∧ bitB m n = true := by
  obtain ⟨hi, lo, ⟨⟩⟩ := m
  obtain ⟨lo, rfl, hl⟩ := nat_of gm.2
  constructor
  · intro hz
    have hz' : ¬ lo = 0 := fun e => hz (by rw [e]; rfl)
    apply Classical.byContradiction
    intro hn
    apply hz'
    apply nat_ext hl (by decide)
    intro i hi
    cases ht : lo.testBit i with
    | false => rw [Nat.zero_testBit]
    | true =>
      exfalso
      refine hn ⟨128 - i, by omega, by omega, ?_⟩
      unfold bitB
      rw [if_neg (by omega)]
      simpa [show 128 - (128 - i) = i by omega] using ht
  · rintro ⟨n, h1, h2, h3⟩ hz
    have hz' : lo = 0 := by
      have : (lo : Int) = 0 := hz
      omega
    subst hz'
    unfold bitB at h3
    rw [if_neg (by omega)] at h3
    simp at h3
theorem field_nat {n : Nat} (h1 : 2 ≤ n) (h2 : n ≤ 128) (h3 : n ≠ 65) : fieldB (n : Int) = true := fieldB_iff.2 ⟨by omega, by omega, by omega⟩
theorem has_nat {m : BM} {n : Nat} (h1 : 2 ≤ n) (h2 : n ≤ 128) (h3 : n ≠ 65) : hasB m (n : Int) = bitB m n := by
  unfold hasB
  rw [field_nat h1 h2 h3, Bool.true_and, Int.toNat_natCast]
theorem right_ext {a b : BM} (ga : goodB a) (gb : goodB b) (ra : rightB a = true) (rb : rightB b = true) (h : ∀ x, hasB a x = hasB b x) : a = b := by
  obtain ⟨a1, a2⟩ := rightB_iff.1 ra
  obtain ⟨b1, b2⟩ := rightB_iff.1 rb
  have hbit : ∀ n : Nat, 2 ≤ n → n ≤ 128 → bitB a n = bitB b n := by
    intro n h1 h2
    by_cases c : n = 65
    · subst c; rw [a1, b1]
    · rw [← has_nat h1 h2 c, ← has_nat h1 h2 c, h]
  refine bit_ext ga gb fun n h1 h2 => ?_
  by_cases c : n = 1
  · subst c
    have key : a.2.1 ≠ 0 ↔ b.2.1 ≠ 0 := by
      rw [low_bits ga, low_bits gb]
      exact ⟨fun ⟨n, h1, h2, h3⟩ => ⟨n, h1, h2, by rw [← hbit n (by omega) h2]; exact h3⟩, fun ⟨n, h1, h2, h3⟩ => ⟨n, h1, h2, by rw [hbit n (by omega) h2]; exact h3⟩⟩
    have : bitB a 1 = true ↔ bitB b 1 = true := by rw [a2, b2]; exact key
    cases ha : bitB a 1 <;> cases hb : bitB b 1 <;> simp [ha, hb] at this ⊢
  · exact hbit n (by omega) h2
theorem hasB_set {m : BM} {n : Nat} (h1 : 2 ≤ n) (h2 : n ≤ 128) (h3 : n ≠ 65) (x : Int) : hasB (setB m n) x = (hasB m x || decide (x = n)) := by
  by_cases hf : fieldB x = true
  · obtain ⟨f1, f2, f3⟩ := fieldB_iff.1 hf
    obtain ⟨x, rfl⟩ : ∃ y : Nat, x = y := ⟨x.toNat, by omega⟩
    rw [has_nat (by omega) (by omega) (by omega), has_nat (by omega) (by omega) (by omega), setB_bit (by omega) h2 (by omega) (by omega), decide_eq_false (show ¬ (64 < n ∧ x = 1) by omega), Bool.or_false]
    congr 1
    exact decide_eq_decide.2 (by omega)
  · have hx : ¬ x = n := fun e => hf (by rw [e]; exact field_nat h1 h2 h3)
    unfold hasB
    rw [Bool.eq_false_iff.2 hf, decide_eq_false hx]; rfl
theorem ofB_ok : ∀ (l : List Int) (m : BM), goodB m → rightB m = true → (∀ x ∈ l, fieldB x = true) → (ofB m l).2 = 0 ∧ goodB (ofB m l).1 ∧ rightB (ofB m l).1 = true ∧ ∀ x, hasB (ofB m l).1 x = (hasB m x || decide (x ∈ l)) := by
  intro l
  induction l with
  | nil => intro m gm rm _; exact ⟨rfl, gm, rm, fun x => by simp [ofB]⟩
  | cons n l ih =>
    intro m gm rm hf
    have hn := hf n (List.mem_cons_self ..)
    obtain ⟨f1, f2, f3⟩ := fieldB_iff.1 hn
    obtain ⟨n, rfl⟩ : ∃ m : Nat, n = m := ⟨n.toNat, by omega⟩
    have hp : putB m (n : Int) = (setB m n, 0) := by unfold putB; rw [if_pos ⟨rm, hn⟩]; rfl
    have ho : ofB m ((n : Int) :: l) = ofB (setB m n) l := by
      show (if (putB m (n : Int)).2 = 0 then ofB (putB m (n : Int)).1 l else _) = _
      rw [hp]; rfl
    rw [ho]
    obtain ⟨h1, h2, h3, h4⟩ := ih (setB m n) (setB_good gm (by omega) (by omega)) (setB_right rm (by omega) (by omega) (by omega)) fun x hx => hf x (List.mem_cons_of_mem _ hx)
    refine ⟨h1, h2, h3, fun x => ?_⟩
    rw [h4, hasB_set (by omega) (by omega) (by omega), Bool.or_assoc]
    congr 1
    by_cases c : x = n
    · simp [c]
    · simp [c]
def zeroB : BM := (0, 0, ())
theorem zeroB_good : goodB zeroB := ⟨⟨by decide, by decide⟩, by decide, by decide⟩
theorem zeroB_right : rightB zeroB = true := by rfl
theorem zeroB_has (x : Int) : hasB zeroB x = false := by
  unfold hasB
  have : bitB zeroB x.toNat = false := by unfold bitB zeroB; split <;> simp
  rw [this, Bool.and_false]
theorem hasB_field {m : BM} {x : Int} (h : hasB m x = true) : fieldB x = true := by unfold hasB at h; simp only [Bool.and_eq_true] at h; exact h.1
theorem of_fields {m : BM} (gm : goodB m) (rm : rightB m = true) : ofB zeroB (fieldsB m) = (m, 0) := by
  obtain ⟨h1, h2, h3, h4⟩ := ofB_ok (fieldsB m) zeroB zeroB_good zeroB_right fun x hx => hasB_field ((fieldsB_mem m x).1 hx)
  have : (ofB zeroB (fieldsB m)).1 = m := by
    refine right_ext h2 gm h3 rm fun x => ?_
    rw [h4, zeroB_has, Bool.false_or]
    cases hx : hasB m x with
    | true => exact decide_eq_true ((fieldsB_mem m x).2 hx)
    | false => exact decide_eq_false fun h => by rw [(fieldsB_mem m x).1 h] at hx; cases hx
  exact Prod.ext this h1
theorem fields_of {l : List Int} (hs : l.Pairwise (· < ·)) (hf : ∀ x ∈ l, fieldB x = true) : fieldsB (ofB zeroB l).1 = l := by
  obtain ⟨h1, h2, h3, h4⟩ := ofB_ok l zeroB zeroB_good zeroB_right hf
  refine sorted_ext _ _ (fieldsFrom_sorted _ _ _) hs fun x => ?_
  rw [fieldsB_mem, h4, zeroB_has, Bool.false_or, decide_eq_true_eq]
theorem bytesB_len (m : BM) : (bytesB m).length = if m.2.1 = 0 then 8 else 16 := by unfold bytesB; split <;> simp [be8]
theorem bytesB_bytes (m : BM) : ∀ c ∈ bytesB m, byteOK c := by
  unfold bytesB
  split
  · exact be8_bytes _
  · intro c hc
    rcases List.mem_append.1 hc with h | h
    · exact be8_bytes _ c h
    · exact be8_bytes _ c h
theorem bit_one (hi lo : Nat) : bitB ((hi : Int), (lo : Int), ()) 1 = hi.testBit 63 := by simp [bitB]
theorem take8 (w : Nat) (t : List Int) : (be8 w ++ t).take 8 = be8 w := rfl
theorem read_bytes {m : BM} (gm : goodB m) (rm : rightB m = true) (t : List Int) : readB (bytesB m ++ t) = (m, ((bytesB m).length : Int), 0) := by
  obtain ⟨r1, r2⟩ := rightB_iff.1 rm
  obtain ⟨hi, lo, ⟨⟩⟩ := m
  obtain ⟨hi, rfl, hh⟩ := nat_of gm.1
  obtain ⟨lo, rfl, hl⟩ := nat_of gm.2
  rw [bit_one] at r2
  have r2 : hi.testBit 63 = true ↔ ¬ (lo : Int) = 0 := r2
  have hlen := bytesB_len ((hi : Int), (lo : Int), ())
  unfold readB
  by_cases hz : (lo : Int) = 0
  · have hb : bytesB ((hi : Int), (lo : Int), ()) = be8 hi := if_pos hz
    have ht : (be8 hi ++ t).take 8 = be8 hi := take8 _ _
    have h63 : ¬ hi.testBit 63 = true := fun h => r2.1 h hz
    rw [hb, ht, num8_be8 hh, if_neg (by rw [List.length_append, be8_len]; omega), if_neg h63]
    have e0 : lo = 0 := by omega
    subst e0
    have rm' : rightB ((hi : Int), 0, ()) = true := rm
    rw [if_pos rm']; rfl
  · have hb : bytesB ((hi : Int), (lo : Int), ()) = be8 hi ++ be8 lo := if_neg hz
    have ht : ((be8 hi ++ be8 lo) ++ t).take 8 = be8 hi := by rw [List.append_assoc, take8]
    have hd : (((be8 hi ++ be8 lo) ++ t).drop 8).take 8 = be8 lo := by
      rw [List.append_assoc, show (be8 hi ++ (be8 lo ++ t)).drop 8 = be8 lo ++ t from rfl, take8]
    rw [hb, ht, hd, num8_be8 hh, num8_be8 hl, if_neg (by simp only [List.length_append, be8_len]; omega), if_pos (r2.2 hz), if_neg (by simp only [List.length_append, be8_len]; omega), if_pos rm]
    rfl
theorem bytes_read {b : List Int} (hb : ∀ c ∈ b, byteOK c) (h : (readB b).2.2 = 0) : ∃ n : Nat, (readB b).2.1 = n ∧ n ≤ b.length ∧ 8 ≤ n ∧ goodB (readB b).1 ∧ rightB (readB b).1 = true ∧ bytesB (readB b).1 = b.take n := by
  unfold readB at h ⊢
  by_cases c8 : b.length < 8
  · rw [if_pos c8] at h; exact absurd h (by decide)
  rw [if_neg c8] at h ⊢
  have n1 := num8_good (l := b) (by omega) hb
  have hbt : ∀ c ∈ b.take 8, byteOK c := fun c hc => hb c (List.mem_of_mem_take hc)
  have hl1 : (b.take 8).length = 8 := by rw [List.length_take]; omega
  by_cases ht : (num8 (b.take 8)).testBit 63 = true
  · rw [if_pos ht] at h ⊢
    by_cases c16 : b.length < 16
    · rw [if_pos c16] at h; exact absurd h (by decide)
    rw [if_neg c16] at h ⊢
    by_cases hr : rightB (((num8 (b.take 8) : Nat) : Int), ((num8 ((b.drop 8).take 8) : Nat) : Int), ()) = true
    · rw [if_pos hr]
      have hb2 : ∀ c ∈ b.drop 8, byteOK c := fun c hc => hb c (List.mem_of_mem_drop hc)
      have hl2 : 8 ≤ (b.drop 8).length := by rw [List.length_drop]; omega
      have n2 := num8_good hl2 hb2
      refine ⟨16, rfl, by omega, by omega, ⟨⟨by (try simp only []); omega, by (try simp only []); omega⟩, by (try simp only []); omega, by (try simp only []); omega⟩, hr, ?_⟩
      have hz := (rightB_iff.1 hr).2.1 (by rw [bit_one]; exact ht)
      unfold bytesB
      rw [if_neg hz]
      simp only [Int.toNat_natCast]
      rw [be8_num8 hl1 hbt, be8_num8 (by rw [List.length_take]; omega) (fun c hc => hb2 c (List.mem_of_mem_take hc)), ← List.take_add]
    · rw [if_neg hr] at h; exact absurd h (by decide)
  · rw [if_neg ht] at h ⊢
    by_cases hr : rightB (((num8 (b.take 8) : Nat) : Int), 0, ()) = true
    · rw [if_pos hr]
      refine ⟨8, rfl, by omega, by omega, ⟨⟨by (try simp only []); omega, by (try simp only []); omega⟩, Int.le_refl 0, by show (0 : Int) < _; decide⟩, hr, ?_⟩
      unfold bytesB
      rw [if_pos rfl]
      simp only [Int.toNat_natCast]
      exact be8_num8 hl1 hbt
    · rw [if_neg hr] at h; exact absurd h (by decide)
end Go.Proofs.YtjgnpmdbkgeakaaGreatDoor.G
end
section
set_option linter.unusedVariables false
set_option linter.unusedSimpArgs false
set_option maxRecDepth 100000
namespace Go.Proofs.YtjgnpmdbkgeakaaGreatDoor.G
open Go Go.Proofs.YtjgnpmdbkgeakaaGreatDoor Th Bits
def fieldW (x : Item) : List UInt8 := match defOf x.1 with
  | some d => writeF d x.2.1
  | none => []
def tailM : List Item → List UInt8
  | [] => []
  | x :: l => fieldW x ++ tailM l
def bmM (l : List Item) : BM := (ofB zeroB (l.map (·.1))).1
def writeM (m : Msg) : List Int := toBytes m.1 ++ (bytesB (bmM m.2.1) ++ toBytes (tailM m.2.1))
theorem right_def {n : Int} {s : Txt} (h : rightF n s = true) : ∃ d, defOf n = some d ∧ sized d s.length = true ∧ signs d s = true := by
  cases hd : defOf n with
  | none => unfold rightF at h; rw [hd] at h; cases h
  | some d => rw [rightF_some hd] at h; simp only [Bool.and_eq_true] at h; exact ⟨d, rfl, h⟩
theorem def_field {n : Int} {d : Def} (h : defOf n = some d) : fieldB n = true := by
  obtain ⟨hm, he⟩ := defOf_mem h
  have h1 := D_all d hm
  have h2 : ∀ d ∈ D, d.1 ≠ 65 := by decide
  exact fieldB_iff.2 ⟨by omega, by omega, fun e => h2 d hm (by omega)⟩
theorem fieldW_some {x : Item} {d : Def} (h : defOf x.1 = some d) : fieldW x = writeF d x.2.1 := by unfold fieldW; rw [h]
theorem fieldW_len {x : Item} (h : rightF x.1 x.2.1 = true) : 1 ≤ (fieldW x).length ∧ (fieldW x).length ≤ 1002 := by
  obtain ⟨d, hd, hs, _⟩ := right_def h
  rw [fieldW_some hd, writeF_len]
  have := sized_le (defOf_mem hd).1 hs
  rcases ahead_cases (kind := d.2.1) with e | e | e <;> omega
theorem items_ok : ∀ (l : List Item) (last : Int), itemsOK last l = true → (∀ x ∈ l, rightF x.1 x.2.1 = true) ∧ (l.map (·.1)).Pairwise (· < ·) ∧ ∀ x ∈ l, last < x.1 := by
  intro l
  induction l with
  | nil => intro last _; exact ⟨fun x hx => absurd hx (by simp), by simp, fun x hx => absurd hx (by simp)⟩
  | cons y l ih =>
    intro last h
    simp only [itemsOK, Bool.and_eq_true, decide_eq_true_eq] at h
    obtain ⟨⟨h1, h2⟩, h3⟩ := h
    obtain ⟨i1, i2, i3⟩ := ih y.1 h3
    refine ⟨fun x hx => ?_, ?_, fun x hx => ?_⟩
    · rcases List.mem_cons.1 hx with rfl | hx
      · exact h2
      · exact i1 x hx
    · rw [List.map_cons, List.pairwise_cons]
      refine ⟨fun a ha => ?_, i2⟩
      obtain ⟨x, hx, rfl⟩ := List.mem_map.1 ha
      exact i3 x hx
    · rcases List.mem_cons.1 hx with rfl | hx
      · exact h1
      · have := i3 x hx; omega
theorem items_back : ∀ (l : List Item) (last : Int), (∀ x ∈ l, rightF x.1 x.2.1 = true) → (l.map (·.1)).Pairwise (· < ·) → (∀ x ∈ l, last < x.1) → itemsOK last l = true := by
  intro l
  induction l with
  | nil => intro last _ _ _; rfl
  | cons y l ih =>
    intro last h1 h2 h3
    rw [List.map_cons, List.pairwise_cons] at h2
    simp only [itemsOK, Bool.and_eq_true, decide_eq_true_eq]
    exact ⟨⟨h3 y (List.mem_cons_self ..), h1 y (List.mem_cons_self ..)⟩, ih y.1 (fun x hx => h1 x (List.mem_cons_of_mem _ hx)) h2.2 fun x hx => h2.1 x.1 (List.mem_map.2 ⟨x, hx, rfl⟩)⟩
theorem msg_parts {m : Msg} : msgRight m = true ↔ itemsOK 0 m.2.1 = true ∧ knownT m.1 = true ∧ 0 < m.2.1.length := by
  unfold msgRight; simp [and_assoc]
theorem known_len {s : Txt} (h : knownT s = true) : s.length = 4 := by
  unfold knownT KT at h
  simp only [List.contains_cons, List.contains_nil, Bool.or_false, Bool.or_eq_true, beq_iff_eq] at h
  rcases h with h | h | h | h | h | h | h <;> rw [h] <;> rfl
theorem tailM_len : ∀ (l : List Item), (∀ x ∈ l, rightF x.1 x.2.1 = true) → (tailM l).length ≤ l.length * 1002 := by
  intro l
  induction l with
  | nil => intro _; simp [tailM]
  | cons y l ih =>
    intro h
    have := ih fun x hx => h x (List.mem_cons_of_mem _ hx)
    have := fieldW_len (h y (List.mem_cons_self ..))
    simp only [tailM, List.length_append, List.length_cons]; omega
theorem G17_6_is (k : Nat) (hk : 1200 < k) (typ : Txt) (l0 l : List Item) (hl : l.length ≤ 1000) (hr : ∀ x ∈ l, rightF x.1 x.2.1 = true) : ∀ (j i : Nat), i + j = l.length → ∀ (fs tl : List Int), fs.length ≤ i → tl.length ≤ i * 1002 → ∀ n, j < n →
    G17_6 k n (fs, tl, l, (l.length : Int), (i : Int), typ, l0, ()) = some (fs ++ (l.drop i).map (·.1), tl ++ toBytes (tailM (l.drop i)), typ, l0, ()) := by
  intro j
  induction j with
  | zero =>
    intro i hij fs tl h1 h2 n hn
    obtain ⟨n, rfl⟩ : ∃ m, n = m + 1 := ⟨n - 1, by omega⟩
    rw [G17_6_eq, sel_neg (by omega), List.drop_eq_nil_of_le (by omega)]
    simp [tailM, toBytes]
  | succ j ih =>
    intro i hij fs tl h1 h2 n hn
    obtain ⟨n, rfl⟩ : ∃ m, n = m + 1 := ⟨n - 1, by omega⟩
    have hlt : i < l.length := by omega
    have hx := hr l[i] (List.getElem_mem _)
    obtain ⟨d, hd, hs, _⟩ := right_def hx
    have hz := sized_le (defOf_mem hd).1 hs
    have hw := fieldW_len hx
    have next := fun fs tl a b => ih (i + 1) (by omega) fs tl a b n (by omega)
    rw [G17_6_eq, sel_pos (by omega), sel_pos (by omega), sel_pos (by simp only [ofNat_len]; omega)]
    simp only [Int.toNat_natCast, getD_of hlt]
    rw [G37_is k (by omega) l[i].1 d hd l[i].2.1 (by omega) (by omega), if_pos hx, ocall_some, ← fieldW_some hd]
    simp only [toBytes_len]
    rw [sel_pos (by omega), sel_pos (by omega), wrap64 (by omega) (by omega), show (i : Int) + 1 = ((i + 1 : Nat) : Int) by omega,
      next _ _ (by simp only [List.length_append, List.length_cons, List.length_nil]; omega) (by simp only [List.length_append, toBytes_len]; omega), List.drop_eq_getElem_cons hlt]
    simp only [List.map_cons, tailM, toBytes, List.map_append, List.append_assoc, List.cons_append, List.nil_append]
theorem bm_ok {l : List Item} (h : itemsOK 0 l = true) : ofB zeroB (l.map (·.1)) = (bmM l, 0) ∧ goodB (bmM l) ∧ rightB (bmM l) = true ∧ fieldsB (bmM l) = l.map (·.1) := by
  obtain ⟨h1, h2, _⟩ := items_ok l 0 h
  have hf : ∀ x ∈ l.map (·.1), fieldB x = true := by
    intro a ha
    obtain ⟨x, hx, rfl⟩ := List.mem_map.1 ha
    obtain ⟨d, hd, _⟩ := right_def (h1 x hx)
    exact def_field hd
  obtain ⟨o1, o2, o3, _⟩ := ofB_ok (l.map (·.1)) zeroB zeroB_good zeroB_right hf
  exact ⟨Prod.ext rfl o1, o2, o3, fields_of h2 hf⟩
theorem bytesB_le (m : BM) : (bytesB m).length ≤ 16 := by rw [bytesB_len]; split <;> omega
theorem G17_is (k : Nat) (hk : 1200 < k) (typ : Txt) (l : List Item) (hl : l.length ≤ 1000) (hx : ∀ x ∈ l, x.2.1.length ≤ maxLen ∧ x.2.1.length < k) :
    G17 k ((typ, l, ()), ()) = some (if msgRight (typ, l, ()) = true then (writeM (typ, l, ()), 0, ()) else ([], 1, ())) := by
  rw [G17_eq, G36_is k (by omega) typ l (by omega) (by omega) hx, ocall_some]
  by_cases hr : msgRight (typ, l, ()) = true
  case neg => rw [if_neg hr, Bool.eq_false_iff.2 hr]; rfl
  rw [if_pos hr, hr]
  simp only [Bool.not_true, sel_false, ofNat_len]
  obtain ⟨h1, h2, h3⟩ := msg_parts.1 hr
  obtain ⟨i1, _, _⟩ := items_ok l 0 h1
  obtain ⟨o1, o2, o3, _⟩ := bm_ok h1
  have hw := G17_6_is k hk typ l l hl i1 l.length 0 (by omega) [] [] (by simp) (by simp) k (by omega)
  rw [List.drop_zero, Int.natCast_zero, List.nil_append, List.nil_append] at hw
  rw [hw, ocall_some]
  (try simp only [])
  have hO := G38_is k (l.map (·.1)) (by simp; omega) (by simp; omega)
  have ez : ((0, 0, ()) : BM) = zeroB := rfl
  rw [ez, o1] at hO
  rw [hO, ocall_some]
  (try simp only [])
  have hB := G39_is k (by omega) (bmM l) o2
  rw [if_pos o3] at hB
  have eb : (((bmM l).1, (bmM l).2.1, ()) : BM) = bmM l := rfl
  rw [eb, hB, ocall_some]
  (try simp only [])
  have ht := tailM_len l i1
  have hk4 : typ.length = 4 := known_len h2
  rw [G40_is k _ (by simp) (by simp; omega) (by
    simp only [lenSum, toBytes_len]
    have := bytesB_le (bmM l)
    omega), ocall_some]
  simp [writeM]
theorem G23_4_is (k : Nat) (hk : 1200 < k) (typ : Txt) (l : List Item) (hl : l.length ≤ 1000) (hr : ∀ x ∈ l, rightF x.1 x.2.1 = true) : ∀ (j i : Nat), i + j = l.length → ∀ (m : BM) (tl : List Int), goodB m → rightB m = true → tl.length ≤ i * 1002 → ∀ n, j < n →
    G23_4 k n (tl, (i : Int), typ, l, m.1, m.2.1, ()) = some (tl ++ toBytes (tailM (l.drop i)), typ, l, (ofB m ((l.drop i).map (·.1))).1.1, (ofB m ((l.drop i).map (·.1))).1.2.1, ()) := by
  intro j
  induction j with
  | zero =>
    intro i hij m tl gm rm h2 n hn
    obtain ⟨n, rfl⟩ : ∃ m, n = m + 1 := ⟨n - 1, by omega⟩
    rw [G23_4_eq, sel_neg (by simp only [ofNat_len]; omega), List.drop_eq_nil_of_le (by omega)]
    simp [tailM, toBytes, ofB]
  | succ j ih =>
    intro i hij m tl gm rm h2 n hn
    obtain ⟨n, rfl⟩ : ∃ m, n = m + 1 := ⟨n - 1, by omega⟩
    have hlt : i < l.length := by omega
    have hx := hr l[i] (List.getElem_mem _)
    obtain ⟨d, hd, hs, _⟩ := right_def hx
    have hw := fieldW_len hx
    have hf := def_field hd
    have hp2 : (putB m l[i].1).2 = 0 := by unfold putB; rw [if_pos ⟨rm, hf⟩]
    have hp3 : rightB (putB m l[i].1).1 = true := by
      obtain ⟨f1, f2, f3⟩ := fieldB_iff.1 hf
      unfold putB; rw [if_pos ⟨rm, hf⟩]; exact setB_right rm (by omega) (by omega) (by omega)
    have hof : ofB m ((l.drop i).map (·.1)) = ofB (putB m l[i].1).1 ((l.drop (i + 1)).map (·.1)) := by
      rw [List.drop_eq_getElem_cons hlt, List.map_cons]; exact if_pos hp2
    have next := fun tl b => ih (i + 1) (by omega) (putB m l[i].1).1 tl (putB_good gm _) hp3 b n (by omega)
    have hpt : (0 : Int) ≤ (i : Int) := by omega
    have hpl : (i : Int) < Int.ofNat l.length := by simp only [ofNat_len]; omega
    have hP := G44_is k (by omega) m gm l[i].1
    obtain ⟨hi, lo, ⟨⟩⟩ := m
    rw [G23_4_eq, sel_pos hpl, sel_pos hpt, sel_pos hpl]
    simp only [Int.toNat_natCast, getD_of hlt]
    rw [hP, ocall_some, sel_pos hpt, sel_pos hpl, sel_pos hpt, sel_pos hpl, G45_is k (by omega) l[i].1 d hd l[i].2.1 hx, ocall_some, ← fieldW_some hd]
    simp only [toBytes_len]
    rw [sel_pos (by omega), wrap64 (by omega) (by omega), show (i : Int) + 1 = ((i + 1 : Nat) : Int) by omega, next _ (by simp only [List.length_append, toBytes_len]; omega), hof, List.drop_eq_getElem_cons hlt]
    simp only [List.map_cons, tailM, toBytes, List.map_append, List.append_assoc, List.cons_append, List.nil_append]
theorem G23_is (k : Nat) (hk : 1200 < k) (typ : Txt) (l : List Item) (hl : l.length ≤ 1000) (hr : msgRight (typ, l, ()) = true) : G23 k ((typ, l, ()), ()) = some (writeM (typ, l, ()), ()) := by
  obtain ⟨h1, h2, h3⟩ := msg_parts.1 hr
  obtain ⟨i1, _, _⟩ := items_ok l 0 h1
  obtain ⟨o1, o2, o3, _⟩ := bm_ok h1
  have hw := G23_4_is k hk typ l hl i1 l.length 0 (by omega) zeroB [] zeroB_good zeroB_right (by simp) k (by omega)
  rw [List.drop_zero, Int.natCast_zero, List.nil_append, o1] at hw
  have ez1 : zeroB.1 = 0 := rfl
  have ez2 : zeroB.2.1 = 0 := rfl
  rw [ez1, ez2] at hw
  rw [G23_eq, hw, ocall_some]
  (try simp only [])
  have eb : (((bmM l).1, (bmM l).2.1, ()) : BM) = bmM l := rfl
  have ht := tailM_len l i1
  have hk4 : typ.length = 4 := known_len h2
  have hb := bytesB_le (bmM l)
  rw [eb, G46_is k (by omega) (bmM l) o2, ocall_some]
  simp only [List.length_append, toBytes_len]
  rw [sel_pos (by omega), sel_pos (by omega)]
  simp [writeM]
end Go.Proofs.YtjgnpmdbkgeakaaGreatDoor.G
end
section
set_option linter.unusedVariables false
set_option linter.unusedSimpArgs false
set_option maxRecDepth 100000
namespace Go.Proofs.YtjgnpmdbkgeakaaGreatDoor.G
open Go Go.Proofs.YtjgnpmdbkgeakaaGreatDoor Th Bits
def zeroM : Msg := ([], [], ())
def rdF (n : Int) (b : List Int) : List UInt8 × Int × Int := match defOf n with
  | some d => readF d (ofBytes b)
  | none => ([], 0, 5)
def readI : List Int → List Int → List Item × List Int × Int
  | [], b => ([], b, 0)
  | n :: l, b => if (rdF n b).2.2 = 0 then
      (if (readI l (b.drop (rdF n b).2.1.toNat)).2.2 = 0 then ((n, (rdF n b).1, ()) :: (readI l (b.drop (rdF n b).2.1.toNat)).1, (readI l (b.drop (rdF n b).2.1.toNat)).2.1, 0) else ([], [], (readI l (b.drop (rdF n b).2.1.toNat)).2.2))
    else ([], [], (rdF n b).2.2)
def readM (b : List Int) : Msg × Int :=
  if b.length < 4 then (zeroM, 2)
  else if knownT (ofBytes (b.take 4)) = true then
    (if (readB (b.drop 4)).2.2 = 0 then
      (if fieldsB (readB (b.drop 4)).1 = [] then (zeroM, 3)
       else if (readI (fieldsB (readB (b.drop 4)).1) (b.drop (4 + (readB (b.drop 4)).2.1.toNat))).2.2 = 0 then
         (if (readI (fieldsB (readB (b.drop 4)).1) (b.drop (4 + (readB (b.drop 4)).2.1.toNat))).2.1 = [] then ((ofBytes (b.take 4), (readI (fieldsB (readB (b.drop 4)).1) (b.drop (4 + (readB (b.drop 4)).2.1.toNat))).1, ()), 0) else (zeroM, 4))
       else (zeroM, (readI (fieldsB (readB (b.drop 4)).1) (b.drop (4 + (readB (b.drop 4)).2.1.toNat))).2.2))
     else (zeroM, (readB (b.drop 4)).2.2))
  else (zeroM, 3)
theorem G54_rd (k : Nat) (hk : 1100 < k) (n : Int) (b : List Int) (hb : b.length ≤ 9223372036854775807) : G54 k (n, b, ()) = some ((rdF n b).1, (rdF n b).2.1, (rdF n b).2.2, ()) := by
  unfold rdF
  cases hd : defOf n with
  | none => exact G54_none k (by omega) n b hd
  | some d => exact G54_is k hk n d hd b hb
theorem G65_rd (k : Nat) (hk : 1100 < k) (n : Int) (b : List Int) (hb : b.length ≤ 9223372036854775807) : G65 k (n, b, ()) = some ((rdF n b).1, (rdF n b).2.1, (rdF n b).2.2, ()) := by
  unfold rdF
  cases hd : defOf n with
  | none => exact G65_none k (by omega) n b hd
  | some d => exact G65_is k hk n d hd b hb
theorem rd_ok {n : Int} {b : List Int} (h : (rdF n b).2.2 = 0) : ∃ (d : Def) (j : Nat), defOf n = some d ∧ (rdF n b).2.1 = j ∧ 0 < j ∧ j ≤ b.length ∧ rightF n (rdF n b).1 = true ∧ fieldW (n, (rdF n b).1, ()) = (ofBytes b).take j := by
  unfold rdF at h ⊢
  cases hd : defOf n with
  | none => rw [hd] at h; exact absurd h (by simp)
  | some d =>
    rw [hd] at h
    obtain ⟨j, e1, e2, e3, e4, e5, e6⟩ := read_back (defOf_mem hd).1 (ofBytes b) h
    refine ⟨d, j, rfl, e1, e2, by rw [ofBytes_len] at e3; exact e3, by rw [rightF_some hd]; simp [e4, e5], ?_⟩
    exact (fieldW_some (x := (n, _, ())) hd).trans e6
theorem G26_8_is (k : Nat) (hk : 1200 < k) (a : Txt) (b0 : List Item) (typ : Txt) (fs : List Int) (hf : fs.length ≤ 200) : ∀ (j i : Nat), i + j = fs.length → ∀ (b : List Int) (acc : List Item), b.length ≤ 1000000000 → acc.length ≤ i → ∀ n, j < n →
    G26_8 k n (b, fs, (fs.length : Int), (i : Int), a, b0, typ, acc, ()) =
      some (if (readI (fs.drop i) b).2.2 = 0 then .inl ((readI (fs.drop i) b).2.1, a, b0, typ, acc ++ (readI (fs.drop i) b).1, ()) else .inr ((readI (fs.drop i) b).2.2, [], [], ())) := by
  intro j
  induction j with
  | zero =>
    intro i hij b acc hb ha n hn
    obtain ⟨n, rfl⟩ : ∃ m, n = m + 1 := ⟨n - 1, by omega⟩
    rw [G26_8_eq, sel_neg (by omega), List.drop_eq_nil_of_le (by omega)]
    simp [readI]
  | succ j ih =>
    intro i hij b acc hb ha n hn
    obtain ⟨n, rfl⟩ : ∃ m, n = m + 1 := ⟨n - 1, by omega⟩
    have hlt : i < fs.length := by omega
    rw [G26_8_eq, sel_pos (by omega), sel_pos (by omega), sel_pos (by simp only [ofNat_len]; omega)]
    simp only [Int.toNat_natCast, getD_of hlt]
    rw [sel_pos hlt, G54_rd k (by omega) _ _ (by omega), ocall_some]
    have hcons := List.drop_eq_getElem_cons hlt
    by_cases he : (rdF fs[i] b).2.2 = 0
    · rw [sel_not, sel_pos he]
      obtain ⟨d, j', e1, e2, e3, e4, _⟩ := rd_ok he
      simp only [ofNat_len, Int.toNat_natCast, List.take_length]
      rw [sel_pos (by omega), sel_pos (by omega), sel_pos (by omega), sel_pos (Int.le_refl _), sel_pos (Int.le_refl _), wrap64 (by omega) (by omega), show (i : Int) + 1 = ((i + 1 : Nat) : Int) by omega,
        ih (i + 1) (by omega) (b.drop (rdF fs[i] b).2.1.toNat) (acc ++ [(fs[i], (rdF fs[i] b).1, ())]) (by rw [List.length_drop]; omega) (by simp; omega) n (by omega)]
      by_cases h2 : (readI (fs.drop (i + 1)) (b.drop (rdF fs[i] b).2.1.toNat)).2.2 = 0
      · have hv : readI (fs.drop i) b = ((fs[i], (rdF fs[i] b).1, ()) :: (readI (fs.drop (i + 1)) (b.drop (rdF fs[i] b).2.1.toNat)).1, (readI (fs.drop (i + 1)) (b.drop (rdF fs[i] b).2.1.toNat)).2.1, 0) := by
          rw [hcons]; show (if _ then _ else _) = _; rw [if_pos he, if_pos h2]
        rw [hv, if_pos h2, if_pos rfl]; simp
      · have hv : readI (fs.drop i) b = ([], [], (readI (fs.drop (i + 1)) (b.drop (rdF fs[i] b).2.1.toNat)).2.2) := by
          rw [hcons]; show (if _ then _ else _) = _; rw [if_pos he, if_neg h2]
        rw [hv, if_neg h2, if_neg h2]
    · have hv : readI (fs.drop i) b = ([], [], (rdF fs[i] b).2.2) := by
        rw [hcons]; show (if _ then _ else _) = _; rw [if_neg he]
      rw [sel_not, sel_neg he, hv, if_neg he]
theorem readB_size (b : List Int) : (readB b).2.1 = 0 ∨ ((readB b).2.1 = 8 ∧ 8 ≤ b.length) ∨ ((readB b).2.1 = 16 ∧ 16 ≤ b.length) := by
  unfold readB
  by_cases c8 : b.length < 8
  · rw [if_pos c8]; exact .inl rfl
  rw [if_neg c8]
  split
  · by_cases c16 : b.length < 16
    · rw [if_pos c16]; exact .inl rfl
    rw [if_neg c16]
    split
    · exact .inr (.inr ⟨rfl, by omega⟩)
    · exact .inl rfl
  · split
    · exact .inr (.inl ⟨rfl, by omega⟩)
    · exact .inl rfl
theorem readB_bad {b : List Int} (h : (readB b).2.2 ≠ 0) : (readB b).1 = zeroB := by
  unfold readB at h ⊢
  split
  · rfl
  rename_i c8
  rw [if_neg c8] at h
  split
  · rename_i c1
    rw [if_pos c1] at h
    split
    · rfl
    rename_i c16
    rw [if_neg c16] at h
    split
    · rename_i c2; rw [if_pos c2] at h; exact absurd rfl h
    · rfl
  · rename_i c1
    rw [if_neg c1] at h
    split
    · rename_i c2; rw [if_pos c2] at h; exact absurd rfl h
    · rfl
theorem readB_good {b : List Int} (hb : ∀ c ∈ b, byteOK c) : goodB (readB b).1 := by
  by_cases h : (readB b).2.2 = 0
  · obtain ⟨n, _, _, _, hg, _⟩ := bytes_read hb h; exact hg
  · rw [readB_bad h]; exact zeroB_good
theorem fieldsB_len (m : BM) : (fieldsB m).length ≤ 127 := fieldsFrom_len m 127 2
theorem start4 (b : List Int) : List.drop (Int.ofNat 0).toNat (List.take (Int.toNat 4) b) = b.take 4 := rfl
theorem all_of_b (b : List Int) : List.take (Int.ofNat b.length).toNat b = b := by rw [show (Int.ofNat b.length).toNat = b.length from rfl, List.take_of_length_le (Nat.le_refl _)]
theorem G53_is (k : Nat) (hk : 1200 < k) (b : List Int) (hb : ∀ c ∈ b, byteOK c) (hl : b.length ≤ 1000000000) : G53 k (b, ()) =
    some (if b.length < 4 then ([], [], [], 2, ()) else if knownT (ofBytes (b.take 4)) = true then (ofBytes (b.take 4), fieldsB (readB (b.drop 4)).1, b.drop (4 + (readB (b.drop 4)).2.1.toNat), (readB (b.drop 4)).2.2, ()) else ([], [], [], 3, ())) := by
  rw [G53_eq]
  by_cases c4 : b.length < 4
  · rw [sel_pos (by simp only [ofNat_len]; omega), if_pos c4]
  rw [sel_neg (by simp only [ofNat_len]; omega), if_neg c4]
  have p4 : (4 : Int) ≤ Int.ofNat b.length := by simp only [ofNat_len]; omega
  rw [sel_pos p4, sel_pos (Int.le_refl _), start4, G74_is, ocall_some]
  cases hkn : knownT (ofBytes (b.take 4)) with
  | false => rw [if_neg (by simp)]; rfl
  | true =>
  rw [if_pos rfl]
  simp only [Bool.not_true, sel_false]
  have hb4 : ∀ c ∈ b.drop 4, byteOK c := fun c hc => hb c (List.mem_of_mem_drop hc)
  rw [sel_pos p4, sel_pos (Int.le_refl _), sel_pos (Int.le_refl _), all_of_b, show Int.toNat 4 = 4 from rfl, G89_is k (by omega) _ hb4, ocall_some, sel_pos p4, sel_pos (Int.le_refl _)]
  have hF := G90_is k (by omega) (readB (b.drop 4)).1 (readB_good hb4)
  have er : (((readB (b.drop 4)).1.1, (readB (b.drop 4)).1.2.1, ()) : BM) = (readB (b.drop 4)).1 := rfl
  (try simp only [])
  rw [er, hF, ocall_some]
  have hs := readB_size (b.drop 4)
  rw [List.length_drop] at hs
  have hw : IntKind.i64.wrap (4 + (readB (b.drop 4)).2.1) = 4 + (readB (b.drop 4)).2.1 := wrap64 (by omega) (by omega)
  have ht : (4 + (readB (b.drop 4)).2.1).toNat = 4 + (readB (b.drop 4)).2.1.toNat := by omega
  rw [hw, ht, sel_pos (by omega), sel_pos (by simp only [ofNat_len]; omega), sel_pos (Int.le_refl _), sel_pos (Int.le_refl _)]
theorem G26_is (k : Nat) (hk : 1200 < k) (b : List Int) (hb : ∀ c ∈ b, byteOK c) (hl : b.length ≤ 1000000000) : G26 k (b, ()) = some ((readM b).1, (readM b).2, ()) := by
  rw [G26_eq, G53_is k hk b hb hl, ocall_some]
  unfold readM
  by_cases c4 : b.length < 4
  · rw [if_pos c4, if_pos c4]; rfl
  rw [if_neg c4, if_neg c4]
  cases hkn : knownT (ofBytes (b.take 4)) with
  | false => rw [if_neg (by simp), if_neg (by simp)]; rfl
  | true =>
  rw [if_pos rfl, if_pos rfl]
  (try simp only [])
  by_cases he : (readB (b.drop 4)).2.2 = 0
  case neg => rw [if_neg he, sel_not, sel_neg he]; rfl
  rw [if_pos he, sel_not, sel_pos he]
  have hfl := fieldsB_len (readB (b.drop 4)).1
  generalize fieldsB (readB (b.drop 4)).1 = fs at hfl
  by_cases hz : fs = []
  · rw [if_pos hz, sel_pos (by rw [hz]; rfl)]; rfl
  have hpos : 0 < fs.length := List.length_pos_iff.2 hz
  rw [if_neg hz, sel_neg (by simp only [ofNat_len]; omega)]
  have h8 := G26_8_is k hk [] [] (ofBytes (b.take 4)) fs (by omega) fs.length 0 (by omega) (b.drop (4 + (readB (b.drop 4)).2.1.toNat)) [] (by rw [List.length_drop]; omega) (by simp) k (by omega)
  rw [List.drop_zero, Int.natCast_zero, List.nil_append] at h8
  simp only [ofNat_len]
  rw [h8, ocall_some]
  generalize readI fs (b.drop (4 + (readB (b.drop 4)).2.1.toNat)) = r
  obtain ⟨its, rest, e⟩ := r
  (try simp only [])
  by_cases hr : e = 0
  · rw [if_pos hr, if_pos hr, esel_inl]
    by_cases hz2 : rest = []
    · rw [if_pos hz2, sel_neg (by rw [hz2]; simp)]
    · have : 0 < rest.length := List.length_pos_iff.2 hz2
      rw [if_neg hz2, sel_pos (show (0 : Int) < rest.length by omega)]; rfl
  · rw [if_neg hr, if_neg hr, esel_inr]; rfl
end Go.Proofs.YtjgnpmdbkgeakaaGreatDoor.G
end
section
set_option linter.unusedVariables false
set_option linter.unusedSimpArgs false
set_option maxRecDepth 100000
namespace Go.Proofs.YtjgnpmdbkgeakaaGreatDoor.G
open Go Go.Proofs.YtjgnpmdbkgeakaaGreatDoor Th Bits
theorem readI_rest : ∀ (fs : List Int) (b : List Int), (readI fs b).2.2 = 0 → ∃ t, t ≤ b.length ∧ (readI fs b).2.1 = b.drop t := by
  intro fs
  induction fs with
  | nil => intro b _; exact ⟨0, Nat.zero_le _, rfl⟩
  | cons n fs ih =>
    intro b h
    unfold readI at h ⊢
    by_cases he : (rdF n b).2.2 = 0
    · rw [if_pos he] at h ⊢
      obtain ⟨d, j, _, e2, _, e4, _⟩ := rd_ok he
      by_cases h2 : (readI fs (b.drop (rdF n b).2.1.toNat)).2.2 = 0
      · rw [if_pos h2]
        obtain ⟨t, ht, hr⟩ := ih _ h2
        rw [List.length_drop] at ht
        refine ⟨(rdF n b).2.1.toNat + t, by omega, ?_⟩
        (try simp only [])
        rw [hr, List.drop_drop]
      · rw [if_neg h2] at h; exact absurd h h2
    · rw [if_neg he] at h; exact absurd h he
theorem readI_cons (n : Int) (l : List Int) (b : List Int) : readI (n :: l) b = if (rdF n b).2.2 = 0 then
      (if (readI l (b.drop (rdF n b).2.1.toNat)).2.2 = 0 then ((n, (rdF n b).1, ()) :: (readI l (b.drop (rdF n b).2.1.toNat)).1, (readI l (b.drop (rdF n b).2.1.toNat)).2.1, 0) else ([], [], (readI l (b.drop (rdF n b).2.1.toNat)).2.2))
    else ([], [], (rdF n b).2.2) := rfl
theorem G28_11_is (k : Nat) (hk : 1200 < k) (a : Txt) (a2 : List Item) (typ : Txt) (m : BM) (gm : goodB m) (b : List Int) (hb : b.length ≤ 1000000000) : ∀ (j f : Nat), f + j = 129 → ∀ (at_ : Nat) (acc : List Item), at_ ≤ b.length → acc.length ≤ f → ∀ n, j < n →
    G28_11 k n (b, (at_ : Int), (f : Int), a, a2, m.1, m.2.1, typ, acc, ()) =
      some (if (readI (fieldsFrom m f j) (b.drop at_)).2.2 = 0 then .inl (b, ((b.length - (readI (fieldsFrom m f j) (b.drop at_)).2.1.length : Nat) : Int), a, a2, typ, acc ++ (readI (fieldsFrom m f j) (b.drop at_)).1, ()) else .inr ((readI (fieldsFrom m f j) (b.drop at_)).2.2, [], [], ())) := by
  intro j
  induction j with
  | zero =>
    intro f hf at_ acc h1 h2 n hn
    obtain ⟨n, rfl⟩ : ∃ m, n = m + 1 := ⟨n - 1, by omega⟩
    rw [G28_11_eq, sel_neg (by omega)]
    have hv : readI (fieldsFrom m f 0) (b.drop at_) = ([], b.drop at_, 0) := rfl
    rw [hv, if_pos rfl, List.length_drop, show b.length - (b.length - at_) = at_ by omega, List.append_nil]
  | succ j ih =>
    intro f hf at_ acc h1 h2 n hn
    obtain ⟨n, rfl⟩ : ∃ m, n = m + 1 := ⟨n - 1, by omega⟩
    have hH := G64_is k (by omega) m gm f
    have ih' := ih (f + 1) (by omega)
    have hff : fieldsFrom m f (j + 1) = (if hasB m f = true then [(f : Int)] else []) ++ fieldsFrom m (f + 1) j := rfl
    obtain ⟨hi, lo, ⟨⟩⟩ := m
    rw [G28_11_eq, sel_pos (by omega), hH, ocall_some]
    have hw : IntKind.i64.wrap ((f : Int) + 1) = ((f + 1 : Nat) : Int) := by rw [wrap64 (by omega) (by omega)]; omega
    rw [hw]
    cases hh : hasB (hi, lo, ()) (f : Int) with
    | false =>
      simp only [Bool.not_false, sel_true]
      rw [ih' at_ acc h1 (by omega) n (by omega)]
      have hv : fieldsFrom (hi, lo, ()) f (j + 1) = fieldsFrom (hi, lo, ()) (f + 1) j := by rw [hff, hh]; rfl
      rw [hv]
    | true =>
      simp only [Bool.not_true, sel_false]
      have hv : fieldsFrom (hi, lo, ()) f (j + 1) = (f : Int) :: fieldsFrom (hi, lo, ()) (f + 1) j := by rw [hff, hh]; rfl
      rw [hv, sel_pos (by omega), sel_pos (by simp only [ofNat_len]; omega), sel_pos (Int.le_refl _), sel_pos (Int.le_refl _), all_of_b, Int.toNat_natCast, G65_rd k (by omega) _ _ (by rw [List.length_drop]; omega), ocall_some]
      (try simp only [])
      by_cases he : (rdF (f : Int) (b.drop at_)).2.2 = 0
      · obtain ⟨d, j', _, e2, e3, e4, _⟩ := rd_ok he
        rw [List.length_drop] at e4
        rw [sel_not, sel_pos he, sel_pos (by omega), wrap64 (by omega) (by omega), show (at_ : Int) + (rdF (f : Int) (b.drop at_)).2.1 = ((at_ + (rdF (f : Int) (b.drop at_)).2.1.toNat : Nat) : Int) by omega]
        rw [ih' _ _ (by omega) (by simp; omega) n (by omega)]
        have hd2 : b.drop (at_ + (rdF (f : Int) (b.drop at_)).2.1.toNat) = (b.drop at_).drop (rdF (f : Int) (b.drop at_)).2.1.toNat := by rw [List.drop_drop]
        rw [hd2]
        by_cases h3 : (readI (fieldsFrom (hi, lo, ()) (f + 1) j) ((b.drop at_).drop (rdF (f : Int) (b.drop at_)).2.1.toNat)).2.2 = 0
        · have hr : readI ((f : Int) :: fieldsFrom (hi, lo, ()) (f + 1) j) (b.drop at_) = (((f : Int), (rdF (f : Int) (b.drop at_)).1, ()) :: (readI (fieldsFrom (hi, lo, ()) (f + 1) j) ((b.drop at_).drop (rdF (f : Int) (b.drop at_)).2.1.toNat)).1, (readI (fieldsFrom (hi, lo, ()) (f + 1) j) ((b.drop at_).drop (rdF (f : Int) (b.drop at_)).2.1.toNat)).2.1, 0) := by
            rw [readI_cons, if_pos he, if_pos h3]
          rw [hr, if_pos h3, if_pos rfl]; simp
        · have hr : readI ((f : Int) :: fieldsFrom (hi, lo, ()) (f + 1) j) (b.drop at_) = ([], [], (readI (fieldsFrom (hi, lo, ()) (f + 1) j) ((b.drop at_).drop (rdF (f : Int) (b.drop at_)).2.1.toNat)).2.2) := by
            rw [readI_cons, if_pos he, if_neg h3]
          rw [hr, if_neg h3, if_neg h3]
      · have hr : readI ((f : Int) :: fieldsFrom (hi, lo, ()) (f + 1) j) (b.drop at_) = ([], [], (rdF (f : Int) (b.drop at_)).2.2) := by rw [readI_cons, if_neg he]
        rw [sel_not, sel_neg he, hr, if_neg he]
theorem readI_nil {fs b : List Int} (h : (readI fs b).2.2 = 0) : (readI fs b).1 = [] ↔ fs = [] := by
  cases fs with
  | nil => exact ⟨fun _ => rfl, fun _ => rfl⟩
  | cons n l =>
    rw [readI_cons] at h ⊢
    by_cases he : (rdF n b).2.2 = 0
    · rw [if_pos he] at h ⊢
      by_cases h2 : (readI l (b.drop (rdF n b).2.1.toNat)).2.2 = 0
      · rw [if_pos h2]; simp
      · rw [if_neg h2] at h; exact absurd h h2
    · rw [if_neg he] at h; exact absurd h he
theorem G28_is (k : Nat) (hk : 1200 < k) (b : List Int) (hb : ∀ c ∈ b, byteOK c) (hl : b.length ≤ 1000000000) : G28 k (b, ()) = some ((readM b).1, (readM b).2, ()) := by
  rw [G28_eq]
  unfold readM
  by_cases c4 : b.length < 4
  · rw [sel_pos (by simp only [ofNat_len]; omega), if_pos c4]; rfl
  rw [sel_neg (by simp only [ofNat_len]; omega), if_neg c4]
  have p4 : (4 : Int) ≤ Int.ofNat b.length := by simp only [ofNat_len]; omega
  rw [sel_pos p4, sel_pos (Int.le_refl _), start4, G62_is k (by omega), ocall_some]
  cases hkn : knownT (ofBytes (b.take 4)) with
  | false => rw [if_neg (by simp)]; rfl
  | true =>
  rw [if_pos rfl]
  simp only [Bool.not_true, sel_false]
  have hb4 : ∀ c ∈ b.drop 4, byteOK c := fun c hc => hb c (List.mem_of_mem_drop hc)
  rw [sel_pos p4, sel_pos (Int.le_refl _), sel_pos (Int.le_refl _), all_of_b, show Int.toNat 4 = 4 from rfl, G63_is k (by omega) _ hb4, ocall_some]
  (try simp only [])
  by_cases he : (readB (b.drop 4)).2.2 = 0
  case neg => rw [if_neg he, sel_not, sel_neg he]; rfl
  rw [if_pos he, sel_not, sel_pos he, sel_pos p4, sel_pos (Int.le_refl _)]
  have hs := readB_size (b.drop 4)
  rw [List.length_drop] at hs
  have hw : IntKind.i64.wrap (4 + (readB (b.drop 4)).2.1) = ((4 + (readB (b.drop 4)).2.1.toNat : Nat) : Int) := by rw [wrap64 (by omega) (by omega)]; omega
  have h11 := G28_11_is k hk [] [] (ofBytes (b.take 4)) (readB (b.drop 4)).1 (readB_good hb4) b hl 127 2 (by omega) (4 + (readB (b.drop 4)).2.1.toNat) [] (by omega) (by simp) k (by omega)
  have e2 : ((2 : Nat) : Int) = 2 := rfl
  rw [e2] at h11
  rw [hw, h11, ocall_some]
  have ef : fieldsFrom (readB (b.drop 4)).1 2 127 = fieldsB (readB (b.drop 4)).1 := rfl
  rw [ef, List.nil_append]
  have hrest := readI_rest (fieldsB (readB (b.drop 4)).1) (b.drop (4 + (readB (b.drop 4)).2.1.toNat))
  have hnil := @readI_nil (fieldsB (readB (b.drop 4)).1) (b.drop (4 + (readB (b.drop 4)).2.1.toNat))
  have hz0 : fieldsB (readB (b.drop 4)).1 = [] → (readI (fieldsB (readB (b.drop 4)).1) (b.drop (4 + (readB (b.drop 4)).2.1.toNat))).2.2 = 0 := fun e0 => by rw [e0]; rfl
  generalize readI (fieldsB (readB (b.drop 4)).1) (b.drop (4 + (readB (b.drop 4)).2.1.toNat)) = r at hrest hnil hz0
  obtain ⟨its, rest, e⟩ := r
  (try simp only [] at hrest hnil hz0 ⊢)
  by_cases hr : e = 0
  · rw [if_pos hr, esel_inl, if_pos hr]
    simp only [ofNat_len]
    obtain ⟨t, ht, hre⟩ := hrest hr
    by_cases hz : fieldsB (readB (b.drop 4)).1 = []
    · rw [if_pos hz, sel_pos (by rw [(hnil hr).2 hz]; rfl)]; rfl
    · have hi : its ≠ [] := fun e => hz ((hnil hr).1 e)
      have hpos : 0 < its.length := List.length_pos_iff.2 hi
      have hrl : rest.length ≤ b.length := by rw [hre, List.length_drop, List.length_drop]; omega
      rw [if_neg hz, sel_neg (show ¬ ((its.length : Nat) : Int) = 0 by omega)]
      by_cases hz2 : rest = []
      · rw [if_pos hz2, hz2, sel_neg (show ¬ ((b.length - ([] : List Int).length : Nat) : Int) < ((b.length : Nat) : Int) by simp)]
      · have : 0 < rest.length := List.length_pos_iff.2 hz2
        rw [if_neg hz2, sel_pos (show ((b.length - rest.length : Nat) : Int) < ((b.length : Nat) : Int) by omega)]; rfl
  · rw [if_neg hr, esel_inr, if_neg hr]
    have hz : fieldsB (readB (b.drop 4)).1 ≠ [] := fun e0 => hr (hz0 e0)
    rw [if_neg hz]; rfl
end Go.Proofs.YtjgnpmdbkgeakaaGreatDoor.G
end
section
set_option linter.unusedVariables false
set_option linter.unusedSimpArgs false
set_option maxRecDepth 100000
namespace Go.Proofs.YtjgnpmdbkgeakaaGreatDoor.G
open Go Go.Proofs.YtjgnpmdbkgeakaaGreatDoor Th Bits
end Go.Proofs.YtjgnpmdbkgeakaaGreatDoor.G
end
