/- THE CLAIM'S TEXTS, part 4: what its proof needs of the theory, the functions, their equations and the laws. No condition. -/
import Derived.Test.YtcgnmecbdleehaaDoorQTraceOthers3
import Derived.Test.YtcgnmecbdleehaaDoorRows
import Derived.JoinedOf
import Derived.LaidMore
import Derived.FnData
import Derived.ChangeBears2
import Derived.Stop.Joined
import Derived.Carry
import Derived.Test.YtcgnmecbdleehaaDoorCards
import Derived.Test.YtcgnmecbdleehaaDoorTie
import Derived.SevenTiedAt
section
set_option maxRecDepth 1000000
set_option linter.unusedVariables false
set_option linter.unusedSimpArgs false
namespace Go.Proofs.YtcgnmecbdleehaaDoor.G
open Go Go.Proofs.YtcgnmecbdleehaaDoor Th
theorem G80_eq (k : Nat) (v0 : List Int) : G80 k (v0, ()) = ocall (G107 k (([], false, ()), v0, ())) fun r => sel (!decide (r.2.2.1 = 0)) (some ((0, [], 0, 0, [], [], ()), 3, ())) (sel (!decide (Int.ofNat r.2.1.length = 1)) (some ((0, [], 0, 0, [], [],
 ()), 3, ())) (sel (decide (0 < Int.ofNat r.1.1.length)) (some ((0, [], 0, 0, [], [], ()), 3, ())) (sel (decide (0 < Int.ofNat r.2.1.length)) (sel (decide (Int.toNat 0 < r.2.1.length)) (ocall (G108 k (r.2.1.getD (Int.toNat 0) [], ())) fun r => sel (!decide
 (r.2.1 = 0)) (some ((0, [], 0, 0, [], [], ()), r.2.1, ())) (ocall (G109 k ((r.1.1, r.1.2.1, ()), ())) fun r => some ((r.1.1, r.1.2.1, r.1.2.2.1, r.1.2.2.2.1, r.1.2.2.2.2.1, r.1.2.2.2.2.2.1, ()), r.2.1, ()))) none) none))) := by kernel_rfl
noncomputable def G27 (k : Nat) (v : (Int × List UInt8 × Int × Int × List UInt8 × List UInt8 × Unit) × Unit) : Option ((Int × List UInt8 × Unit) × Unit) := F27 k v
theorem G27_eq (k : Nat) (v0 : Int) (v1 : List UInt8) (v2 v3 : Int) (v4 v5 : List UInt8) : G27 k ((v0, v1, v2, v3, v4, v5, ()), ()) = some ((v3, v4, ()), ()) := by kernel_rfl
end Go.Proofs.YtcgnmecbdleehaaDoor.G
end
section
set_option maxRecDepth 1000000
set_option linter.unusedVariables false
set_option linter.unusedSimpArgs false
namespace Go.Proofs.YtcgnmecbdleehaaDoor.G
open Go Go.Proofs.YtcgnmecbdleehaaDoor Th
noncomputable def G81 (k : Nat) (v : ((Int × List UInt8 × Unit) × Unit) × (Int × List UInt8 × Int × Int × List UInt8 × List UInt8 × Unit) × Unit) : Option (Bool × Unit) := F81 k v
theorem G81_eq (k : Nat) (v0 : Int) (v1 : List UInt8) (v2 : Int) (v3 : List UInt8) (v4 v5 : Int) (v6 v7 : List UInt8) : G81 k (((v0, v1, ()), ()), (v2, v3, v4, v5, v6, v7, ()), ()) = ocall (G27 k ((v2, v3, v4, v5, v6, v7, ()), ())) fun r => some
 (!(sameI r.1.1 v0 && (sameS r.1.2.1 v1 && true)), ()) := by kernel_rfl
noncomputable def G7000001_2 (k : Nat) (j : Nat) (v : List (Int × List UInt8 × Int × Int × List UInt8 × List UInt8 × Unit) × (Int × List UInt8 × Unit) × Int × Int × Unit) : Option (Unit ⊕ Int × Unit) := F7000001_2 k j v
theorem G7000001_2_eq (k : Nat) (j : Nat) (v0 : List (Int × List UInt8 × Int × Int × List UInt8 × List UInt8 × Unit)) (v1 : Int) (v2 : List UInt8) (v3 v4 : Int) : G7000001_2 k (j + 1) (v0, (v1, v2, ()), v3, v4, ()) = sel (decide (v4 < v3)) (sel (decide (0 ≤ v4)) (sel (decide (v4 <
 Int.ofNat v0.length)) (ocall (G81 k (((v1, v2, ()), ()), ((v0.getD v4.toNat (0, [], 0, 0, [], [], ())).1, (v0.getD v4.toNat (0, [], 0, 0, [], [], ())).2.1, (v0.getD v4.toNat (0, [], 0, 0, [], [], ())).2.2.1, (v0.getD v4.toNat (0, [], 0, 0, [], [],
 ())).2.2.2.1, (v0.getD v4.toNat (0, [], 0, 0, [], [], ())).2.2.2.2.1, (v0.getD v4.toNat (0, [], 0, 0, [], [], ())).2.2.2.2.2.1, ()), ())) fun r => sel r.1 (some (Sum.inr (v4, ()))) (G7000001_2 k j (v0, (v1, v2, ()), v3, IntKind.i64.wrap (v4 +
 1), ()))) none) none) (some (Sum.inl ())) := by kernel_rfl
noncomputable def G7000001 (k : Nat) (v : List (Int × List UInt8 × Int × Int × List UInt8 × List UInt8 × Unit) × (Int × List UInt8 × Unit) × Unit) : Option (Int × Unit) := F7000001 k v
theorem G7000001_eq (k : Nat) (v0 : List (Int × List UInt8 × Int × Int × List UInt8 × List UInt8 × Unit)) (v1 : Int) (v2 : List UInt8) : G7000001 k (v0, (v1, v2, ()), ()) = ocall (G7000001_2 k k (v0, (v1, v2, ()), Int.ofNat v0.length, 0, ())) fun e => esel e (fun v
 => some ((-1 : Int), ())) fun e => some (e.1, ()) := by kernel_rfl
noncomputable def G7000002_5 (k : Nat) (j : Nat) (v : List (Int × List UInt8 × Int × Int × List UInt8 × List UInt8 × Unit) × (Int × List UInt8 × Unit) × Int × Int × Unit) : Option (List (Int × List UInt8 × Int × Int × List UInt8 × List UInt8 × Unit) × Int × Unit) := F7000002_5 k j v
theorem G7000002_5_eq (k : Nat) (j : Nat) (v0 : List (Int × List UInt8 × Int × Int × List UInt8 × List UInt8 × Unit)) (v1 : Int) (v2 : List UInt8) (v3 v4 : Int) : G7000002_5 k (j + 1) (v0, (v1, v2, ()), v3, v4, ()) = sel (decide (v4 < Int.ofNat v0.length)) (sel (decide (0 ≤ v4))
 (sel (decide (v4 < Int.ofNat v0.length)) (sel (decide (v4.toNat < v0.length)) (ocall (G81 k (((v1, v2, ()), ()), ((v0.getD v4.toNat (0, [], 0, 0, [], [], ())).1, (v0.getD v4.toNat (0, [], 0, 0, [], [], ())).2.1, (v0.getD v4.toNat (0, [], 0, 0, [], [],
 ())).2.2.1, (v0.getD v4.toNat (0, [], 0, 0, [], [], ())).2.2.2.1, (v0.getD v4.toNat (0, [], 0, 0, [], [], ())).2.2.2.2.1, (v0.getD v4.toNat (0, [], 0, 0, [], [], ())).2.2.2.2.2.1, ()), ())) fun r => sel (!r.1) (sel (decide (0 ≤ v3)) (sel (decide (v3 <
 Int.ofNat v0.length)) (sel (decide (v3.toNat < v0.length)) (G7000002_5 k j (v0.set v3.toNat ((v0.getD v4.toNat (0, [], 0, 0, [], [], ())).1, (v0.getD v4.toNat (0, [], 0, 0, [], [], ())).2.1, (v0.getD v4.toNat (0, [], 0, 0, [], [], ())).2.2.1, (v0.getD v4.toNat (0, [], 0, 0,
 [], [], ())).2.2.2.1, (v0.getD v4.toNat (0, [], 0, 0, [], [], ())).2.2.2.2.1, (v0.getD v4.toNat (0, [], 0, 0, [], [], ())).2.2.2.2.2.1, ()), (v1, v2, ()), IntKind.i64.wrap (v3 + 1), IntKind.i64.wrap (v4 + 1), ())) none) none) none) (G7000002_5 k j (v0,
 (v1, v2, ()), v3, IntKind.i64.wrap (v4 + 1), ()))) none) none) none) (some (v0, v3, ())) := by kernel_rfl
noncomputable def G7000002 (k : Nat) (v : List (Int × List UInt8 × Int × Int × List UInt8 × List UInt8 × Unit) × (Int × List UInt8 × Unit) × Unit) : Option (List (Int × List UInt8 × Int × Int × List UInt8 × List UInt8 × Unit) × Unit) := F7000002 k v
theorem G7000002_eq (k : Nat) (v0 : List (Int × List UInt8 × Int × Int × List UInt8 × List UInt8 × Unit)) (v1 : Int) (v2 : List UInt8) : G7000002 k (v0, (v1, v2, ()), ()) = ocall (G7000001 k (v0, (v1, v2, ()), ())) fun r => sel (decide (r.1 = (-1 : Int))) (some (v0,
 ())) (ocall (G7000002_5 k k (v0, (v1, v2, ()), r.1, IntKind.i64.wrap (r.1 + 1), ())) fun e => sel (decide (0 ≤ e.2.1)) (sel (decide (e.2.1 ≤ Int.ofNat e.1.length)) (sel (decide (e.2.1.toNat ≤ e.1.length)) (sel (decide (Int.ofNat 0 ≤ e.2.1)) (sel (decide (e.2.1 ≤ Int.ofNat
 (List.take e.2.1.toNat e.1 ++ List.replicate (e.1.length - e.2.1.toNat) (0, [], 0, 0, [], [], ())).length)) (sel (decide (Int.ofNat (List.take e.2.1.toNat e.1 ++ List.replicate (e.1.length - e.2.1.toNat) (0, [], 0, 0, [], [], ())).length ≤ Int.ofNat (List.take e.2.1.toNat e.1 ++
 List.replicate (e.1.length - e.2.1.toNat) (0, [], 0, 0, [], [], ())).length)) (some (List.drop (Int.ofNat 0).toNat (List.take e.2.1.toNat (List.take e.2.1.toNat e.1 ++ List.replicate (e.1.length - e.2.1.toNat) (0, [], 0, 0, [], [], ()))), ())) none) none) none) none) none)
 none) := by kernel_rfl
noncomputable def G48_3 (k : Nat) (j : Nat) (v : List (Int × List UInt8 × Int × Int × List UInt8 × List UInt8 × Unit) × List (List Int) × Int × Int × Int × List UInt8 × Unit) : Option (List (Int × List UInt8 × Int × Int × List UInt8 × List UInt8 × Unit) × Int × List UInt8 × Unit) := F48_3 k j v
theorem G48_3_eq (k : Nat) (j : Nat) (v0 : List (Int × List UInt8 × Int × Int × List UInt8 × List UInt8 × Unit)) (v1 : List (List Int)) (v2 v3 v4 : Int) (v5 : List UInt8) : G48_3 k (j + 1) (v0, v1, v2, v3, v4, v5, ()) = sel (decide (v3 < v2)) (sel (decide (0 ≤ v3)) (sel (decide (v3 <
 Int.ofNat v1.length)) (ocall (G80 k (v1.getD v3.toNat [], ())) fun r => sel (decide (r.2.1 = 0)) (sel (decide ((v0.length + 1) * 72 ≤ 140737488355328)) (G48_3 k j (v0 ++ [(r.1.1, r.1.2.1, r.1.2.2.1, r.1.2.2.2.1, r.1.2.2.2.2.1, r.1.2.2.2.2.2.1, ())], v1, v2, IntKind.i64.wrap (v3 + 1),
 v4, v5, ())) none) (G48_3 k j (v0, v1, v2, IntKind.i64.wrap (v3 + 1), v4, v5, ()))) none) none) (some (v0, v4, v5, ())) := by kernel_rfl
noncomputable def G48 (k : Nat) (v : List (List Int) × (Int × List UInt8 × Unit) × Unit) : Option (List (Int × List UInt8 × Int × Int × List UInt8 × List UInt8 × Unit) × Unit) := F48 k v
theorem G48_eq (k : Nat) (v0 : List (List Int)) (v1 : Int) (v2 : List UInt8) : G48 k (v0, (v1, v2, ()), ()) = ocall (G48_3 k k ([], v0, Int.ofNat v0.length, 0, v1, v2, ())) fun e => ocall (G7000002 k (e.1, (e.2.1, e.2.2.1, ()), ())) fun r => some (r.1,
 ()) := by kernel_rfl
noncomputable def G51 (k : Nat) (v : List (Int × List UInt8 × Int × Int × List UInt8 × List UInt8 × Unit)) : Option (List (Int × List UInt8 × Int × Int × List UInt8 × List UInt8 × Unit) × Unit) := F51 k v
theorem G51_eq (k : Nat) (v0 : List (Int × List UInt8 × Int × Int × List UInt8 × List UInt8 × Unit)) : G51 k v0 = sel (decide ((0 + v0.length) * 72 ≤ 140737488355328)) (some (v0, ())) none := by kernel_rfl
noncomputable def G52_g0 (k : Nat) (j : Nat) (v : List (Int × List UInt8 × Int × Int × List UInt8 × List UInt8 × Unit) × Int × Int × Int × Unit) : Option (Int × Unit) := F52_g0 k j v
theorem G52_g0_eq (k : Nat) (j : Nat) (v0 : List (Int × List UInt8 × Int × Int × List UInt8 × List UInt8 × Unit)) (v1 v2 v3 : Int) : G52_g0 k (j + 1) (v0, v1, v2, v3, ()) = sel (decide (v3 = Int.ofNat v0.length)) (some (v2, ())) (sel (decide (0 ≤ v3)) (sel (decide (v3 < Int.ofNat
 v0.length)) (sel (decide ((v0.getD v3.toNat (0, [], 0, 0, [], [], ())).1 = v1)) (G52_g0 k j (v0, v1, IntKind.i64.wrap (v2 + 1), IntKind.i64.wrap (v3 + 1), ())) (G52_g0 k j (v0, v1, v2, IntKind.i64.wrap (v3 + 1), ()))) none) none) := by kernel_rfl
noncomputable def G52 (k : Nat) (v : List (Int × List UInt8 × Int × Int × List UInt8 × List UInt8 × Unit) × Int × Unit) : Option (Int × Unit) := F52 k v
theorem G52_eq (k : Nat) (v0 : List (Int × List UInt8 × Int × Int × List UInt8 × List UInt8 × Unit)) (v1 : Int) : G52 k (v0, v1, ()) = sel (decide (0 = Int.ofNat v0.length)) (some (0, ())) (sel (decide (0 < Int.ofNat v0.length)) (sel (decide ((v0.getD (Int.toNat 0) (0, [], 0, 0, [],
 [], ())).1 = v1)) (ocall (G52_g0 k k (v0, v1, IntKind.i64.wrap (0 + 1), IntKind.i64.wrap (0 + 1), ())) fun e => some (e.1, ())) (ocall (G52_g0 k k (v0, v1, 0, IntKind.i64.wrap (0 + 1), ())) fun e => some (e.1, ()))) none) := by kernel_rfl
noncomputable def G49 (k : Nat) (v : (Int × List UInt8 × Int × Int × List UInt8 × List UInt8 × Unit) × Unit) : Option (Bool × Unit) := F49 k v
theorem G49_eq (k : Nat) (v0 : Int) (v1 : List UInt8) (v2 v3 : Int) (v4 v5 : List UInt8) : G49 k ((v0, v1, v2, v3, v4, v5, ()), ()) = some (!decide (v0 = 2), ()) := by kernel_rfl
noncomputable def G7000003_2 (k : Nat) (j : Nat) (v : List (Int × List UInt8 × Int × Int × List UInt8 × List UInt8 × Unit) × Unit × Int × Int × Unit) : Option (Unit ⊕ Int × Unit) := F7000003_2 k j v
theorem G7000003_2_eq (k : Nat) (j : Nat) (v0 : List (Int × List UInt8 × Int × Int × List UInt8 × List UInt8 × Unit)) (v1 v2 : Int) : G7000003_2 k (j + 1) (v0, (), v1, v2, ()) = sel (decide (v2 < v1)) (sel (decide (0 ≤ v2)) (sel (decide (v2 < Int.ofNat v0.length)) (ocall (G49 k
 (((v0.getD v2.toNat (0, [], 0, 0, [], [], ())).1, (v0.getD v2.toNat (0, [], 0, 0, [], [], ())).2.1, (v0.getD v2.toNat (0, [], 0, 0, [], [], ())).2.2.1, (v0.getD v2.toNat (0, [], 0, 0, [], [], ())).2.2.2.1, (v0.getD v2.toNat (0, [], 0, 0, [], [],
 ())).2.2.2.2.1, (v0.getD v2.toNat (0, [], 0, 0, [], [], ())).2.2.2.2.2.1, ()), ())) fun r => sel r.1 (some (Sum.inr (v2, ()))) (G7000003_2 k j (v0, (), v1, IntKind.i64.wrap (v2 + 1), ()))) none) none) (some (Sum.inl ())) := by
 kernel_rfl
noncomputable def G7000003 (k : Nat) (v : List (Int × List UInt8 × Int × Int × List UInt8 × List UInt8 × Unit) × Unit × Unit) : Option (Int × Unit) := F7000003 k v
theorem G7000003_eq (k : Nat) (v0 : List (Int × List UInt8 × Int × Int × List UInt8 × List UInt8 × Unit)) : G7000003 k (v0, (), ()) = ocall (G7000003_2 k k (v0, (), Int.ofNat v0.length, 0, ())) fun e => esel e (fun v => some ((-1 : Int), ())) fun e => some
 (e.1, ()) := by kernel_rfl
noncomputable def G7000004_5 (k : Nat) (j : Nat) (v : List (Int × List UInt8 × Int × Int × List UInt8 × List UInt8 × Unit) × Unit × Int × Int × Unit) : Option (List (Int × List UInt8 × Int × Int × List UInt8 × List UInt8 × Unit) × Int × Unit) := F7000004_5 k j v
theorem G7000004_5_eq (k : Nat) (j : Nat) (v0 : List (Int × List UInt8 × Int × Int × List UInt8 × List UInt8 × Unit)) (v1 v2 : Int) : G7000004_5 k (j + 1) (v0, (), v1, v2, ()) = sel (decide (v2 < Int.ofNat v0.length)) (sel (decide (0 ≤ v2)) (sel (decide (v2 < Int.ofNat v0.length))
 (sel (decide (v2.toNat < v0.length)) (ocall (G49 k (((v0.getD v2.toNat (0, [], 0, 0, [], [], ())).1, (v0.getD v2.toNat (0, [], 0, 0, [], [], ())).2.1, (v0.getD v2.toNat (0, [], 0, 0, [], [], ())).2.2.1, (v0.getD v2.toNat (0, [], 0, 0, [], [], ())).2.2.2.1, (v0.getD
 v2.toNat (0, [], 0, 0, [], [], ())).2.2.2.2.1, (v0.getD v2.toNat (0, [], 0, 0, [], [], ())).2.2.2.2.2.1, ()), ())) fun r => sel (!r.1) (sel (decide (0 ≤ v1)) (sel (decide (v1 < Int.ofNat v0.length)) (sel (decide (v1.toNat < v0.length)) (G7000004_5 k j (v0.set v1.toNat
 ((v0.getD v2.toNat (0, [], 0, 0, [], [], ())).1, (v0.getD v2.toNat (0, [], 0, 0, [], [], ())).2.1, (v0.getD v2.toNat (0, [], 0, 0, [], [], ())).2.2.1, (v0.getD v2.toNat (0, [], 0, 0, [], [], ())).2.2.2.1, (v0.getD v2.toNat (0, [], 0, 0, [], [], ())).2.2.2.2.1,
 (v0.getD v2.toNat (0, [], 0, 0, [], [], ())).2.2.2.2.2.1, ()), (), IntKind.i64.wrap (v1 + 1), IntKind.i64.wrap (v2 + 1), ())) none) none) none) (G7000004_5 k j (v0, (), v1, IntKind.i64.wrap (v2 + 1), ()))) none) none) none) (some (v0, v1, ()))
 := by kernel_rfl
noncomputable def G7000004 (k : Nat) (v : List (Int × List UInt8 × Int × Int × List UInt8 × List UInt8 × Unit) × Unit × Unit) : Option (List (Int × List UInt8 × Int × Int × List UInt8 × List UInt8 × Unit) × Unit) := F7000004 k v
theorem G7000004_eq (k : Nat) (v0 : List (Int × List UInt8 × Int × Int × List UInt8 × List UInt8 × Unit)) : G7000004 k (v0, (), ()) = ocall (G7000003 k (v0, (), ())) fun r => sel (decide (r.1 = (-1 : Int))) (some (v0, ())) (ocall (G7000004_5 k k (v0,
 (), r.1, IntKind.i64.wrap (r.1 + 1), ())) fun e => sel (decide (0 ≤ e.2.1)) (sel (decide (e.2.1 ≤ Int.ofNat e.1.length)) (sel (decide (e.2.1.toNat ≤ e.1.length)) (sel (decide (Int.ofNat 0 ≤ e.2.1)) (sel (decide (e.2.1 ≤ Int.ofNat (List.take e.2.1.toNat e.1 ++ List.replicate
 (e.1.length - e.2.1.toNat) (0, [], 0, 0, [], [], ())).length)) (sel (decide (Int.ofNat (List.take e.2.1.toNat e.1 ++ List.replicate (e.1.length - e.2.1.toNat) (0, [], 0, 0, [], [], ())).length ≤ Int.ofNat (List.take e.2.1.toNat e.1 ++ List.replicate (e.1.length - e.2.1.toNat) (0, [],
 0, 0, [], [], ())).length)) (some (List.drop (Int.ofNat 0).toNat (List.take e.2.1.toNat (List.take e.2.1.toNat e.1 ++ List.replicate (e.1.length - e.2.1.toNat) (0, [], 0, 0, [], [], ()))), ())) none) none) none) none) none) none) := by kernel_rfl
noncomputable def G24 (k : Nat) (v : List (List Int) × List (List Int) × (Int × List UInt8 × Unit) × Unit) : Option ((List (Int × List UInt8 × Int × Int × List UInt8 × List UInt8 × Unit) × Int × Int × Int × Int × Unit) × Unit) := F24 k v
theorem G24_eq (k : Nat) (v0 v1 : List (List Int)) (v2 : Int) (v3 : List UInt8) : G24 k (v0, v1, (v2, v3, ()), ()) = ocall (G48 k (v0, (v2, v3, ()), ())) fun r => ocall (G48 k (v1, (v2, v3, ()), ())) fun r_1 => ocall (G51 k r.1) fun r_2 => ocall
 (G7000004 k (r_2.1, (), ())) fun r_3 => ocall (G52 k (r.1, 4, ())) fun r => ocall (G52 k (r_1.1, 1, ())) fun r_4 => ocall (G52 k (r_1.1, 5, ())) fun r_5 => ocall (G52 k (r_1.1, 6, ())) fun r_6 => some ((r_3.1, r_4.1, r_5.1, r_6.1, r.1, ()),
 ()) := by kernel_rfl
noncomputable def G56 (k : Nat) (v : (Int × List UInt8 × Int × Int × List UInt8 × List UInt8 × Unit) × Unit) : Option (Bool × Unit) := F56 k v
theorem G56_eq (k : Nat) (v0 : Int) (v1 : List UInt8) (v2 v3 : Int) (v4 v5 : List UInt8) : G56 k ((v0, v1, v2, v3, v4, v5, ()), ()) = sel (!decide (v5 = [57, 52])) (some (!decide (v5 = [57, 54]), ())) (some (false, ())) := by kernel_rfl
noncomputable def G7000005_2 (k : Nat) (j : Nat) (v : List (Int × List UInt8 × Int × Int × List UInt8 × List UInt8 × Unit) × Unit × Int × Int × Unit) : Option (Unit ⊕ Int × Unit) := F7000005_2 k j v
theorem G7000005_2_eq (k : Nat) (j : Nat) (v0 : List (Int × List UInt8 × Int × Int × List UInt8 × List UInt8 × Unit)) (v1 v2 : Int) : G7000005_2 k (j + 1) (v0, (), v1, v2, ()) = sel (decide (v2 < v1)) (sel (decide (0 ≤ v2)) (sel (decide (v2 < Int.ofNat v0.length)) (ocall (G56 k
 (((v0.getD v2.toNat (0, [], 0, 0, [], [], ())).1, (v0.getD v2.toNat (0, [], 0, 0, [], [], ())).2.1, (v0.getD v2.toNat (0, [], 0, 0, [], [], ())).2.2.1, (v0.getD v2.toNat (0, [], 0, 0, [], [], ())).2.2.2.1, (v0.getD v2.toNat (0, [], 0, 0, [], [],
 ())).2.2.2.2.1, (v0.getD v2.toNat (0, [], 0, 0, [], [], ())).2.2.2.2.2.1, ()), ())) fun r => sel r.1 (some (Sum.inr (v2, ()))) (G7000005_2 k j (v0, (), v1, IntKind.i64.wrap (v2 + 1), ()))) none) none) (some (Sum.inl ())) := by
 kernel_rfl
noncomputable def G7000005 (k : Nat) (v : List (Int × List UInt8 × Int × Int × List UInt8 × List UInt8 × Unit) × Unit × Unit) : Option (Int × Unit) := F7000005 k v
theorem G7000005_eq (k : Nat) (v0 : List (Int × List UInt8 × Int × Int × List UInt8 × List UInt8 × Unit)) : G7000005 k (v0, (), ()) = ocall (G7000005_2 k k (v0, (), Int.ofNat v0.length, 0, ())) fun e => esel e (fun v => some ((-1 : Int), ())) fun e => some
 (e.1, ()) := by kernel_rfl
noncomputable def G59 (k : Nat) (v : (Int × List UInt8 × Int × Int × List UInt8 × List UInt8 × Unit) × (Unit × Unit) × (List (Int × List UInt8 × Int × Int × List UInt8 × List UInt8 × Unit) × Int × Int × Int × Int × Unit) × (Int × Unit) × Unit) : Option (Bool × Unit) := F59 k v
theorem G59_eq (k : Nat) (v0 : Int) (v1 : List UInt8) (v2 v3 : Int) (v4 v5 : List UInt8) (v6 : List (Int × List UInt8 × Int × Int × List UInt8 × List UInt8 × Unit)) (v7 v8 v9 v10 v11 : Int) : G59 k ((v0, v1, v2, v3, v4, v5, ()), ((), ()), (v6, v7, v8, v9, v10, ()),
 (v11, ()), ()) = ocall (G56 k ((v0, v1, v2, v3, v4, v5, ()), ())) fun r => sel r.1 (sel (decide (0 ≤ v11)) (sel (decide (v11 < Int.ofNat v6.length)) (some (!(sameI v0 (v6.getD v11.toNat (0, [], 0, 0, [], [], ())).1 && (sameS v1 (v6.getD v11.toNat (0, [], 0, 0,
 [], [], ())).2.1 && (sameI v2 (v6.getD v11.toNat (0, [], 0, 0, [], [], ())).2.2.1 && (sameI v3 (v6.getD v11.toNat (0, [], 0, 0, [], [], ())).2.2.2.1 && (sameS v4 (v6.getD v11.toNat (0, [], 0, 0, [], [], ())).2.2.2.2.1 && (sameS v5 (v6.getD v11.toNat (0, [], 0, 0, [],
 [], ())).2.2.2.2.2.1 && true)))))), ())) none) none) (some (false, ())) := by kernel_rfl
noncomputable def G7000006_2 (k : Nat) (j : Nat) (v : List (Int × List UInt8 × Int × Int × List UInt8 × List UInt8 × Unit) × ((Unit × Unit) × (List (Int × List UInt8 × Int × Int × List UInt8 × List UInt8 × Unit) × Int × Int × Int × Int × Unit) × (Int × Unit) × Unit) × Int × Int × Unit) :
 Option (Unit ⊕ Int × Unit) := F7000006_2 k j v
theorem G7000006_2_eq (k : Nat) (j : Nat) (v0 v1 : List (Int × List UInt8 × Int × Int × List UInt8 × List UInt8 × Unit)) (v2 v3 v4 v5 v6 v7 v8 : Int) : G7000006_2 k (j + 1) (v0, (((), ()), (v1, v2, v3, v4, v5, ()), (v6, ()), ()), v7, v8, ()) = sel
 (decide (v8 < v7)) (sel (decide (0 ≤ v8)) (sel (decide (v8 < Int.ofNat v0.length)) (ocall (G59 k (((v0.getD v8.toNat (0, [], 0, 0, [], [], ())).1, (v0.getD v8.toNat (0, [], 0, 0, [], [], ())).2.1, (v0.getD v8.toNat (0, [], 0, 0, [], [], ())).2.2.1, (v0.getD v8.toNat (0, [],
 0, 0, [], [], ())).2.2.2.1, (v0.getD v8.toNat (0, [], 0, 0, [], [], ())).2.2.2.2.1, (v0.getD v8.toNat (0, [], 0, 0, [], [], ())).2.2.2.2.2.1, ()), ((), ()), (v1, v2, v3, v4, v5, ()), (v6, ()), ())) fun r => sel r.1 (some
 (Sum.inr (v8, ()))) (G7000006_2 k j (v0, (((), ()), (v1, v2, v3, v4, v5, ()), (v6, ()), ()), v7, IntKind.i64.wrap (v8 + 1), ()))) none) none) (some (Sum.inl ())) := by kernel_rfl
noncomputable def G7000006 (k : Nat) (v : List (Int × List UInt8 × Int × Int × List UInt8 × List UInt8 × Unit) × ((Unit × Unit) × (List (Int × List UInt8 × Int × Int × List UInt8 × List UInt8 × Unit) × Int × Int × Int × Int × Unit) × (Int × Unit) × Unit) × Unit) : Option (Int × Unit) :=
 F7000006 k v
theorem G7000006_eq (k : Nat) (v0 v1 : List (Int × List UInt8 × Int × Int × List UInt8 × List UInt8 × Unit)) (v2 v3 v4 v5 v6 : Int) : G7000006 k (v0, (((), ()), (v1, v2, v3, v4, v5, ()), (v6, ()), ()), ()) = ocall (G7000006_2 k k (v0, (((),
 ()), (v1, v2, v3, v4, v5, ()), (v6, ()), ()), Int.ofNat v0.length, 0, ())) fun e => esel e (fun v => some ((-1 : Int), ())) fun e => some (e.1, ()) := by kernel_rfl
noncomputable def G7000007 (k : Nat) (v : List (Int × List UInt8 × Int × Int × List UInt8 × List UInt8 × Unit) × ((Unit × Unit) × (List (Int × List UInt8 × Int × Int × List UInt8 × List UInt8 × Unit) × Int × Int × Int × Int × Unit) × (Int × Unit) × Unit) × Unit) : Option (Bool × Unit) :=
 F7000007 k v
theorem G7000007_eq (k : Nat) (v0 v1 : List (Int × List UInt8 × Int × Int × List UInt8 × List UInt8 × Unit)) (v2 v3 v4 v5 v6 : Int) : G7000007 k (v0, (((), ()), (v1, v2, v3, v4, v5, ()), (v6, ()), ()), ()) = ocall (G7000006 k (v0, (((),
 ()), (v1, v2, v3, v4, v5, ()), (v6, ()), ()), ())) fun r => some (decide (0 ≤ r.1), ()) := by kernel_rfl
noncomputable def G26 (k : Nat) (v : (List (Int × List UInt8 × Int × Int × List UInt8 × List UInt8 × Unit) × Int × Int × Int × Int × Unit) × Int × Unit) : Option (Bool × Unit) := F26 k v
theorem G26_eq (k : Nat) (v0 : List (Int × List UInt8 × Int × Int × List UInt8 × List UInt8 × Unit)) (v1 v2 v3 v4 v5 : Int) : G26 k ((v0, v1, v2, v3, v4, ()), v5, ()) = sel (decide (1 < v1)) (some (false, ())) (sel (decide (1 < v2)) (some (false, ())) (sel (decide
 (v5 < v3)) (some (false, ())) (sel (decide (v1 = 0)) (sel (!decide (v2 = 0)) (some (false, ())) (sel (!decide (v3 = 0)) (some (false, ())) (ocall (G7000005 k (v0, (), ())) fun r => ocall (G7000007 k (v0, (((), ()), (v0, v1, v2, v3, v4,
 ()), (r.1, ()), ()), ())) fun r => some (!r.1, ())))) (ocall (G7000005 k (v0, (), ())) fun r => ocall (G7000007 k (v0, (((), ()), (v0, v1, v2, v3, v4, ()), (r.1, ()), ()), ())) fun r => some
 (!r.1, ()))))) := by kernel_rfl
noncomputable def G21 (k : Nat) (v : Unit) : Option (Bool × Unit) := F21 k v
theorem G21_eq (k : Nat) : G21 k () = ocall (G25 k ((2, [], 0, 1, [82, 82, 78, 48, 48, 48, 48, 48, 48, 48, 48, 49], [48, 48], ()), ())) fun r => ocall (G25 k ((2, [], 0, 1, [82, 82, 78, 48, 48, 48, 48, 48, 48, 48, 48, 49], [54, 56], ()), ())) fun r_1 => ocall
 (G25 k ((1, [49, 56], 0, 1, [82, 82, 78, 48, 48, 48, 48, 48, 48, 48, 48, 49], [], ()), ())) fun r_2 => ocall (G24 k ([r.1, r.1], [r_2.1], (1, [82, 82, 78, 48, 48, 48, 48, 48, 48, 48, 48, 49], ()), ())) fun r_3 => ocall (G24 k ([r.1, r_1.1], [r_2.1], (1, [82, 82, 78,
 48, 48, 48, 48, 48, 48, 48, 48, 49], ()), ())) fun r_4 => sel (decide (r.2.1 = 0)) (sel (decide (r_1.2.1 = 0)) (sel (decide (r_2.2.1 = 0)) (sel (decide (Int.ofNat r_3.1.1.length = 2)) (sel (decide (r_3.1.2.1 = 1)) (ocall (G26 k ((r_3.1.1, r_3.1.2.1, r_3.1.2.2.1, r_3.1.2.2.2.1,
 r_3.1.2.2.2.2.1, ()), 0, ())) fun r_5 => sel r_5.1 (ocall (G26 k ((r_4.1.1, r_4.1.2.1, r_4.1.2.2.1, r_4.1.2.2.2.1, r_4.1.2.2.2.2.1, ()), 0, ())) fun r_6 => sel (!r_6.1) (ocall (G24 k ([r.1], [], (2, [82, 82, 78, 48, 48, 48, 48, 48, 48, 48, 48, 49], ()),
 ())) fun r => some (decide (Int.ofNat r.1.1.length = 0), ())) (some (false, ()))) (some (false, ()))) (some (false, ()))) (some (false, ()))) (some (false, ()))) (some (false, ()))) (some (false, ())) := by kernel_rfl
noncomputable def G22_2 (k : Nat) (j : Nat) (v : List (List Int) × Int × Unit) : Option (List (List Int) × Unit ⊕ Bool × Unit) := F22_2 k j v
theorem G22_2_eq (k : Nat) (j : Nat) (v0 : List (List Int)) (v1 : Int) : G22_2 k (j + 1) (v0, v1, ()) = sel (decide (v1 < Int.ofNat v0.length)) (sel (decide (v1 < 300)) (sel (decide (0 ≤ v1)) (sel (decide (v1 < Int.ofNat v0.length)) (sel (decide (3000 < Int.ofNat (List.length (v0.getD
 v1.toNat [])))) (some (Sum.inr (false, ()))) (G22_2 k j (v0, IntKind.i64.wrap (v1 + 1), ()))) none) none) (some (Sum.inl (v0, ())))) (some (Sum.inl (v0, ()))) := by kernel_rfl
noncomputable def G22 (k : Nat) (v : List (List Int) × Unit) : Option (Bool × Unit) := F22 k v
theorem G22_eq (k : Nat) (v0 : List (List Int)) : G22 k (v0, ()) = ocall (G22_2 k k (v0, 0, ())) fun e => esel e (fun v => some (decide (Int.ofNat v.1.length ≤ 300), ())) fun e => some (e.1, ()) := by kernel_rfl
noncomputable def G17 (k : Nat) (v : (Int × List UInt8 × Unit) × Unit) : Option (Bool × Unit) := F17 k v
theorem G17_eq (k : Nat) (v0 : Int) (v1 : List UInt8) : G17 k ((v0, v1, ()), ()) = some (decide (Int.ofNat v1.length ≤ 300), ()) := by kernel_rfl
noncomputable def G23 (k : Nat) (v : (Int × List UInt8 × Int × Int × List UInt8 × List UInt8 × Unit) × Unit) : Option (Bool × Unit) := F23 k v
theorem G23_eq (k : Nat) (v0 : Int) (v1 : List UInt8) (v2 v3 : Int) (v4 v5 : List UInt8) : G23 k ((v0, v1, v2, v3, v4, v5, ()), ()) = sel (decide (Int.ofNat v1.length ≤ 300)) (sel (decide (Int.ofNat v4.length ≤ 300)) (some (decide (Int.ofNat v5.length ≤ 300), ())) (some
 (false, ()))) (some (false, ())) := by kernel_rfl
noncomputable def G60_4 (k : Nat) (j : Nat) (v : List (Int × List UInt8 × Int × Int × List UInt8 × List UInt8 × Unit) × List (Int × List UInt8 × Int × Int × List UInt8 × List UInt8 × Unit) × Int × Unit) : Option (Unit ⊕ Bool × Unit) := F60_4 k j v
theorem G60_4_eq (k : Nat) (j : Nat) (v0 v1 : List (Int × List UInt8 × Int × Int × List UInt8 × List UInt8 × Unit)) (v2 : Int) : G60_4 k (j + 1) (v0, v1, v2, ()) = sel (decide (v2 < Int.ofNat v0.length)) (sel (decide (0 ≤ v2)) (sel (decide (v2 < Int.ofNat v0.length)) (sel (decide (0 ≤ v2))
 (sel (decide (v2 < Int.ofNat v1.length)) (sel (!(sameI (v0.getD v2.toNat (0, [], 0, 0, [], [], ())).1 (v1.getD v2.toNat (0, [], 0, 0, [], [], ())).1 && (sameS (v0.getD v2.toNat (0, [], 0, 0, [], [], ())).2.1 (v1.getD v2.toNat (0, [], 0, 0, [], [], ())).2.1 && (sameI
 (v0.getD v2.toNat (0, [], 0, 0, [], [], ())).2.2.1 (v1.getD v2.toNat (0, [], 0, 0, [], [], ())).2.2.1 && (sameI (v0.getD v2.toNat (0, [], 0, 0, [], [], ())).2.2.2.1 (v1.getD v2.toNat (0, [], 0, 0, [], [], ())).2.2.2.1 && (sameS (v0.getD v2.toNat (0, [], 0, 0, [], [],
 ())).2.2.2.2.1 (v1.getD v2.toNat (0, [], 0, 0, [], [], ())).2.2.2.2.1 && (sameS (v0.getD v2.toNat (0, [], 0, 0, [], [], ())).2.2.2.2.2.1 (v1.getD v2.toNat (0, [], 0, 0, [], [], ())).2.2.2.2.2.1 && true))))))) (some (Sum.inr (false, ()))) (G60_4 k j (v0, v1,
 IntKind.i64.wrap (v2 + 1), ()))) none) none) none) none) (some (Sum.inl ())) := by kernel_rfl
noncomputable def G60 (k : Nat) (v : List (Int × List UInt8 × Int × Int × List UInt8 × List UInt8 × Unit) × List (Int × List UInt8 × Int × Int × List UInt8 × List UInt8 × Unit) × Unit) : Option (Bool × Unit) := F60 k v
theorem G60_eq (k : Nat) (v0 v1 : List (Int × List UInt8 × Int × Int × List UInt8 × List UInt8 × Unit)) : G60 k (v0, v1, ()) = sel (!decide (Int.ofNat v0.length = Int.ofNat v1.length)) (some (false, ())) (ocall (G60_4 k k (v0, v1, 0, ())) fun e => esel e (fun v => some
 (true, ())) fun e => some (e.1, ())) := by kernel_rfl
noncomputable def G28 (k : Nat) (v : (List (Int × List UInt8 × Int × Int × List UInt8 × List UInt8 × Unit) × Int × Int × Int × Int × Unit) × (List (Int × List UInt8 × Int × Int × List UInt8 × List UInt8 × Unit) × Int × Int × Int × Int × Unit) × Unit) : Option (Bool × Unit) := F28 k v
theorem G28_eq (k : Nat) (v0 : List (Int × List UInt8 × Int × Int × List UInt8 × List UInt8 × Unit)) (v1 v2 v3 v4 : Int) (v5 : List (Int × List UInt8 × Int × Int × List UInt8 × List UInt8 × Unit)) (v6 v7 v8 v9 : Int) : G28 k ((v0, v1, v2, v3, v4, ()), (v5, v6, v7, v8, v9, ()),
 ()) = ocall (G60 k (v0, v5, ())) fun r => sel r.1 (sel (decide (v1 = v6)) (sel (decide (v2 = v7)) (sel (decide (v3 = v8)) (some (decide (v4 = v9), ())) (some (false, ()))) (some (false, ()))) (some (false, ()))) (some (false, ())) := by
 kernel_rfl
noncomputable def G5 (k : Nat) (v : List (List Int) × List (List Int) × (Int × List UInt8 × Unit) × (Int × List UInt8 × Int × Int × List UInt8 × List UInt8 × Unit) × Int × Unit) : Option (Bool × Unit) := F5 k v
theorem G5_eq (k : Nat) (v0 v1 : List (List Int)) (v2 : Int) (v3 : List UInt8) (v4 : Int) (v5 : List UInt8) (v6 v7 : Int) (v8 v9 : List UInt8) (v10 : Int) : G5 k (v0, v1, (v2, v3, ()), (v4, v5, v6, v7, v8, v9, ()), v10, ()) = ocall (G21 k ()) fun r => sel (!r.1) (some
 (false, ())) (ocall (G22 k (v0, ())) fun r => sel (!r.1) (some (true, ())) (ocall (G22 k (v1, ())) fun r => sel (!r.1) (some (true, ())) (ocall (G17 k ((v2, v3, ()), ())) fun r => sel (!r.1) (some (true, ())) (ocall (G23 k ((v4, v5, v6,
 v7, v8, v9, ()), ())) fun r => sel (!r.1) (some (true, ())) (ocall (G24 k (v0, v1, (v2, v3, ()), ())) fun r => ocall (G25 k ((v4, v5, v6, v7, v8, v9, ()), ())) fun r_1 => sel (!decide (r_1.2.1 = 0)) (some (true, ())) (sel (decide ((0 +
 v0.length) * 24 ≤ 140737488355328)) (sel (decide ((v0.length + 1) * 24 ≤ 140737488355328)) (ocall (G24 k (v0 ++ [r_1.1], v1, (v2, v3, ()), ())) fun r_2 => sel (decide ((1 + v1.length) * 24 ≤ 140737488355328)) (ocall (G24 k (v0, r_1.1 :: v1, (v2, v3, ()), ())) fun r_3
 => ocall (G26 k ((r.1.1, r.1.2.1, r.1.2.2.1, r.1.2.2.2.1, r.1.2.2.2.2.1, ()), IntKind.i64.wrap v10, ())) fun r_4 => sel r_4.1 (ocall (G26 k ((r.1.1, r.1.2.1, r.1.2.2.1, r.1.2.2.2.1, r.1.2.2.2.2.1, ()), IntKind.i64.wrap (IntKind.i64.wrap v10 + 1), ())) fun r_5 => sel
 (!r_5.1) (some (false, ())) (ocall (G27 k ((v4, v5, v6, v7, v8, v9, ()), ())) fun r_6 => sel (!(sameI r_6.1.1 v2 && (sameS r_6.1.2.1 v3 && true))) (ocall (G28 k ((r.1.1, r.1.2.1, r.1.2.2.1, r.1.2.2.2.1, r.1.2.2.2.2.1, ()), (r_2.1.1, r_2.1.2.1, r_2.1.2.2.1,
 r_2.1.2.2.2.1, r_2.1.2.2.2.2.1, ()), ())) fun r_7 => sel r_7.1 (ocall (G28 k ((r.1.1, r.1.2.1, r.1.2.2.1, r.1.2.2.2.1, r.1.2.2.2.2.1, ()), (r_3.1.1, r_3.1.2.1, r_3.1.2.2.1, r_3.1.2.2.2.1, r_3.1.2.2.2.2.1, ()), ())) fun r => some (r.1, ())) (some
 (false, ()))) (sel (decide (v4 = 2)) (sel (decide (Int.ofNat r_2.1.1.length = IntKind.i64.wrap (Int.ofNat r.1.1.length + 1))) (sel (decide (0 ≤ Int.ofNat r.1.1.length)) (sel (decide (Int.ofNat r.1.1.length < Int.ofNat r_2.1.1.length)) (sel (sameI (r_2.1.1.getD (Int.ofNat r.1.1.length).toNat
 (0, [], 0, 0, [], [], ())).1 v4 && (sameS (r_2.1.1.getD (Int.ofNat r.1.1.length).toNat (0, [], 0, 0, [], [], ())).2.1 v5 && (sameI (r_2.1.1.getD (Int.ofNat r.1.1.length).toNat (0, [], 0, 0, [], [], ())).2.2.1 v6 && (sameI (r_2.1.1.getD (Int.ofNat r.1.1.length).toNat (0, [],
 0, 0, [], [], ())).2.2.2.1 v7 && (sameS (r_2.1.1.getD (Int.ofNat r.1.1.length).toNat (0, [], 0, 0, [], [], ())).2.2.2.2.1 v8 && (sameS (r_2.1.1.getD (Int.ofNat r.1.1.length).toNat (0, [], 0, 0, [], [], ())).2.2.2.2.2.1 v9 && true)))))) (some (decide (Int.ofNat r_3.1.1.length
 = Int.ofNat r.1.1.length), ())) (some (false, ()))) none) none) (some (false, ()))) (sel (decide (Int.ofNat r_2.1.1.length = Int.ofNat r.1.1.length)) (sel (decide (r_2.1.2.2.2.2.1 = IntKind.i64.wrap (r.1.2.2.2.2.1 + 1)) == decide (v4 = 4)) (sel (decide (r_3.1.2.1 =
 IntKind.i64.wrap (r.1.2.1 + 1)) == decide (v4 = 1)) (sel (decide (r_3.1.2.2.1 = IntKind.i64.wrap (r.1.2.2.1 + 1)) == decide (v4 = 5)) (some (decide (r_3.1.2.2.2.1 = IntKind.i64.wrap (r.1.2.2.2.1 + 1)) == decide (v4 = 6), ())) (some (false, ()))) (some (false, ()))) (some
 (false, ()))) (some (false, ())))))) (ocall (G27 k ((v4, v5, v6, v7, v8, v9, ()), ())) fun r_5 => sel (!(sameI r_5.1.1 v2 && (sameS r_5.1.2.1 v3 && true))) (ocall (G28 k ((r.1.1, r.1.2.1, r.1.2.2.1, r.1.2.2.2.1, r.1.2.2.2.2.1, ()), (r_2.1.1, r_2.1.2.1,
 r_2.1.2.2.1, r_2.1.2.2.2.1, r_2.1.2.2.2.2.1, ()), ())) fun r_6 => sel r_6.1 (ocall (G28 k ((r.1.1, r.1.2.1, r.1.2.2.1, r.1.2.2.2.1, r.1.2.2.2.2.1, ()), (r_3.1.1, r_3.1.2.1, r_3.1.2.2.1, r_3.1.2.2.2.1, r_3.1.2.2.2.2.1, ()), ())) fun r => some (r.1, ()))
 (some (false, ()))) (sel (decide (v4 = 2)) (sel (decide (Int.ofNat r_2.1.1.length = IntKind.i64.wrap (Int.ofNat r.1.1.length + 1))) (sel (decide (0 ≤ Int.ofNat r.1.1.length)) (sel (decide (Int.ofNat r.1.1.length < Int.ofNat r_2.1.1.length)) (sel (sameI (r_2.1.1.getD (Int.ofNat
 r.1.1.length).toNat (0, [], 0, 0, [], [], ())).1 v4 && (sameS (r_2.1.1.getD (Int.ofNat r.1.1.length).toNat (0, [], 0, 0, [], [], ())).2.1 v5 && (sameI (r_2.1.1.getD (Int.ofNat r.1.1.length).toNat (0, [], 0, 0, [], [], ())).2.2.1 v6 && (sameI (r_2.1.1.getD (Int.ofNat
 r.1.1.length).toNat (0, [], 0, 0, [], [], ())).2.2.2.1 v7 && (sameS (r_2.1.1.getD (Int.ofNat r.1.1.length).toNat (0, [], 0, 0, [], [], ())).2.2.2.2.1 v8 && (sameS (r_2.1.1.getD (Int.ofNat r.1.1.length).toNat (0, [], 0, 0, [], [], ())).2.2.2.2.2.1 v9 && true)))))) (some
 (decide (Int.ofNat r_3.1.1.length = Int.ofNat r.1.1.length), ())) (some (false, ()))) none) none) (some (false, ()))) (sel (decide (Int.ofNat r_2.1.1.length = Int.ofNat r.1.1.length)) (sel (decide (r_2.1.2.2.2.2.1 = IntKind.i64.wrap (r.1.2.2.2.2.1 + 1)) == decide (v4 = 4))
 (sel (decide (r_3.1.2.1 = IntKind.i64.wrap (r.1.2.1 + 1)) == decide (v4 = 1)) (sel (decide (r_3.1.2.2.1 = IntKind.i64.wrap (r.1.2.2.1 + 1)) == decide (v4 = 5)) (some (decide (r_3.1.2.2.2.1 = IntKind.i64.wrap (r.1.2.2.2.1 + 1)) == decide (v4 = 6), ())) (some (false, ()))) (some
 (false, ()))) (some (false, ()))) (some (false, ())))))) none) none) none)))))) := by kernel_rfl
end Go.Proofs.YtcgnmecbdleehaaDoor.G
end
section
set_option linter.unusedVariables false
set_option linter.unusedSimpArgs false
namespace Go.Proofs.YtcgnmecbdleehaaDoor.G
open Go Go.Proofs.YtcgnmecbdleehaaDoor Th
def dgt (c : UInt8) : Bool := decide (48 ≤ c.toNat) && decide (c.toNat ≤ 57)
def isDig (s : List UInt8) : Bool := decide (0 < s.length) && s.all dgt
theorem dgt_iff {c : UInt8} : dgt c = true ↔ 48 ≤ c.toNat ∧ c.toNat ≤ 57 := by simp [dgt]
theorem drop_at {α : Type} {s : List α} {i : Nat} (h : i < s.length) : s.drop i = s[i] :: s.drop (i + 1) := List.drop_eq_getElem_cons h
theorem G72_g0_is (k : Nat) (s : List UInt8) (hs : s.length ≤ maxLen) : ∀ (j i : Nat), i + j = s.length → ∀ n, j < n → G72_g0 k n (s, (i : Int), ()) = some (decide (0 < s.length) && (s.drop i).all dgt, ()) := by
  rw [maxLen_eq] at hs
  intro j
  induction j with
  | zero =>
    intro i hij n hn
    obtain ⟨n, rfl⟩ : ∃ m, n = m + 1 := ⟨n - 1, by omega⟩
    rw [G72_g0_eq, sel_pos (by simp only [ofNat_len]; omega)]
    rw [List.drop_eq_nil_of_le (by omega)]
    have : decide ((0 : Int) < (i : Int)) = decide (0 < s.length) := decide_eq_decide.2 (by omega)
    simp only [this, List.all_nil, Bool.and_true]
  | succ j ih =>
    intro i hij n hn
    obtain ⟨n, rfl⟩ : ∃ m, n = m + 1 := ⟨n - 1, by omega⟩
    have hlt : i < s.length := by omega
    rw [G72_g0_eq]
    simp only [ofNat_len, Int.toNat_natCast, getD_of hlt, Int.ofNat_eq_natCast]
    rw [sel_neg (by omega), sel_pos (by omega), sel_pos (by omega)]
    rw [drop_at hlt, List.all_cons]
    have hp : decide (0 < s.length) = true := by simp; omega
    by_cases c1 : ((s[i]).toNat : Int) < 48
    · rw [sel_pos c1]
      have : dgt s[i] = false := by rw [Bool.eq_false_iff, Ne, dgt_iff]; omega
      simp [this]
    · rw [sel_neg c1, sel_pos (by omega), sel_pos (by omega)]
      by_cases c2 : (57 : Int) < ((s[i]).toNat : Int)
      · rw [sel_pos c2]
        have : dgt s[i] = false := by rw [Bool.eq_false_iff, Ne, dgt_iff]; omega
        simp [this]
      · rw [sel_neg c2]
        have : dgt s[i] = true := by rw [dgt_iff]; omega
        rw [this, wrap64 (by omega) (by omega)]
        have := ih (i + 1) (by omega) n (by omega)
        simpa using this
theorem G72_is (k : Nat) (s : List UInt8) (hs : s.length ≤ maxLen) (hk : s.length < k) : G72 k (s, ()) = some (isDig s, ()) := by
  have hs' := hs
  rw [maxLen_eq] at hs'
  rw [G72_eq]
  simp only [ofNat_len, isDig]
  cases hs0 : s with
  | nil => rfl
  | cons c t =>
    rw [← hs0]
    have hlt : 0 < s.length := by rw [hs0]; simp
    simp only [Int.ofNat_eq_natCast, show Int.toNat (0 : Int) = 0 from rfl, getD_of hlt]
    rw [sel_neg (by omega), sel_pos (by omega)]
    have hp : decide (0 < s.length) = true := by simp; omega
    have hd := drop_at hlt
    rw [List.drop_zero] at hd
    rw [hp, Bool.true_and]
    have e0 : s.all dgt = (dgt s[0] && (s.drop 1).all dgt) := by
      conv => lhs; rw [hd]
      rw [List.all_cons]
    rw [e0]
    by_cases c1 : ((s[0]).toNat : Int) < 48
    · rw [sel_pos c1]
      have : dgt s[0] = false := by rw [Bool.eq_false_iff, Ne, dgt_iff]; omega
      rw [this]; rfl
    · rw [sel_neg c1, sel_pos (by omega)]
      by_cases c2 : (57 : Int) < ((s[0]).toNat : Int)
      · rw [sel_pos c2]
        have : dgt s[0] = false := by rw [Bool.eq_false_iff, Ne, dgt_iff]; omega
        rw [this]; rfl
      · rw [sel_neg c2]
        have : dgt s[0] = true := by rw [dgt_iff]; omega
        rw [this, wrap64 (by omega) (by omega)]
        have := G72_g0_is k s hs (s.length - 1) 1 (by omega) k (by omega)
        rw [show ((0 : Int) + 1) = ((1 : Nat) : Int) from rfl, this, hp]
        simp
def digs (v : Nat) : Nat → List UInt8
  | 0 => []
  | n + 1 => digs (v / 10) n ++ [UInt8.ofNat (48 + v % 10)]
theorem digs_len (n : Nat) : ∀ v, (digs v n).length = n := by
  induction n with
  | zero => intro v; rfl
  | succ n ih => intro v; simp [digs, ih]
theorem chr_toNat {n : Nat} (h : n < 256) : (UInt8.ofNat n).toNat = n := by rw [UInt8.toNat_ofNat']; omega
theorem ofBytes_append (a b : List Int) : ofBytes (a ++ b) = ofBytes a ++ ofBytes b := by simp [ofBytes]
theorem G77_5_is (k : Nat) : ∀ (i : Nat) (v : Nat) (pre post : List Int), v < 18446744073709551616 → pre.length = i → i ≤ 19 → ∀ n, i < n →
    ∃ mid, mid.length = i ∧ G77_5 k n ((v : Int), pre ++ post, (i : Int) - 1, ()) = some (((v / 10 ^ i : Nat) : Int), mid ++ post, ()) ∧ ofBytes mid = digs v i := by
  intro i
  induction i with
  | zero =>
    intro v pre post hv hp hi n hn
    obtain ⟨n, rfl⟩ : ∃ m, n = m + 1 := ⟨n - 1, by omega⟩
    have : pre = [] := List.length_eq_zero_iff.1 hp
    subst this
    refine ⟨[], rfl, ?_, rfl⟩
    rw [G77_5_eq, sel_neg (by (try simp only []); omega)]
    simp
  | succ i ih =>
    intro v pre post hv hp hi n hn
    obtain ⟨n, rfl⟩ : ∃ m, n = m + 1 := ⟨n - 1, by omega⟩
    obtain ⟨pre', x, rfl⟩ : ∃ p x, pre = p ++ [x] := ⟨pre.dropLast, pre.getLast (by intro h; rw [h] at hp; simp at hp), (List.dropLast_concat_getLast _).symm⟩
    have hp' : pre'.length = i := by simpa using hp
    have hd : v % 10 < 10 := Nat.mod_lt _ (by omega)
    have e1 : ((v : Int)).tdiv 10 = ((v / 10 : Nat) : Int) := by simp [Int.tdiv_eq_ediv_of_nonneg]
    have e2 : ((v : Int)).tmod 10 = ((v % 10 : Nat) : Int) := by simp [Int.tmod_eq_emod_of_nonneg]
    have e3 : (((i + 1 : Nat) : Int) - 1) = (i : Int) := by omega
    rw [G77_5_eq]
    simp only [e1, e2, e3, ofNat_len, Int.toNat_natCast]
    rw [sel_pos (by omega), sel_pos (by omega), sel_pos (by simp; omega), sel_pos (by simp; omega)]
    have w1 : IntKind.u64.wrap ((v / 10 : Nat) : Int) = ((v / 10 : Nat) : Int) := wrapu64 (by omega) (by omega)
    have w2 : IntKind.u8.wrap ((v % 10 : Nat) : Int) = ((v % 10 : Nat) : Int) := wrapu8 (by omega) (by omega)
    have w3 : IntKind.u8.wrap (48 + ((v % 10 : Nat) : Int)) = 48 + ((v % 10 : Nat) : Int) := wrapu8 (by omega) (by omega)
    have w4 : IntKind.i64.wrap ((i : Int) - 1) = (i : Int) - 1 := wrap64 (by omega) (by omega)
    rw [w1, w2, w3, w4]
    have hset : (pre' ++ [x] ++ post).set i (48 + ((v % 10 : Nat) : Int)) = pre' ++ ((48 + ((v % 10 : Nat) : Int)) :: post) := by
      rw [List.append_assoc, List.set_append_right _ _ (by omega)]
      simp [hp']
    rw [hset]
    obtain ⟨mid, m1, m2, m3⟩ := ih (v / 10) pre' ((48 + ((v % 10 : Nat) : Int)) :: post) (by omega) hp' (by omega) n (by omega)
    refine ⟨mid ++ [48 + ((v % 10 : Nat) : Int)], by simp [m1], ?_, ?_⟩
    · rw [m2, Nat.div_div_eq_div_mul, Nat.pow_succ, Nat.mul_comm (10 ^ i) 10]
      simp
    · rw [ofBytes_append, m3, digs]
      have : (48 + ((v % 10 : Nat) : Int)).toNat = 48 + v % 10 := by omega
      show _ ++ [UInt8.ofNat (48 + ((v % 10 : Nat) : Int)).toNat] = _
      rw [this]
def putOK (v : Nat) (n : Int) : List UInt8 × Int :=
  if n < 1 ∨ 19 < n then ([], 1) else if v / 10 ^ n.toNat = 0 then (digs v n.toNat, 0) else ([], 10)
theorem G77_is (k : Nat) (hk : 20 < k) (v : Nat) (n : Int) (hv : v < 18446744073709551616) : G77 k ((v : Int), n, ()) = some ((putOK v n).1, (putOK v n).2, ()) := by
  rw [G77_eq]
  unfold putOK
  by_cases c1 : n < 1
  · rw [sel_pos c1, if_pos (.inl c1)]
  rw [sel_neg c1]
  by_cases c2 : 19 < n
  · rw [sel_pos c2, if_pos (.inr c2)]
  rw [sel_neg c2, if_neg (by omega)]
  obtain ⟨m, rfl⟩ : ∃ m : Nat, n = (m : Int) := ⟨n.toNat, by omega⟩
  simp only [Int.toNat_natCast]
  rw [sel_pos (by omega), sel_pos (by omega), sel_pos (by omega), sel_pos (by simp only [Int.ofNat_eq_natCast]; omega)]
  obtain ⟨mid, m1, m2, m3⟩ := G77_5_is k m v (List.replicate m 0) [] hv (by simp) (by omega) k (by omega)
  rw [wrap64 (by omega) (by omega)]
  simp only [List.append_nil] at m2
  have m2' : G77_5 k k ((v : Int), List.replicate m (OfNat.ofNat (0 : Nat)), (m : Int) - 1, ()) = some (((v / 10 ^ m : Nat) : Int), mid, ()) := m2
  rw [m2', ocall_some]
  generalize v / 10 ^ m = q
  by_cases c3 : q = 0
  · rw [sel_neg (by simp only [c3]; omega), if_pos c3, m3]
  · rw [sel_pos (by (try simp only []); omega), if_neg c3]
def val (a : Nat) (s : List UInt8) : Nat := s.foldl (fun a c => 10 * a + (c.toNat - 48)) a
theorem val_cons (a : Nat) (c : UInt8) (s : List UInt8) : val a (c :: s) = val (10 * a + (c.toNat - 48)) s := by unfold val; rw [List.foldl_cons]
theorem pow_le19 {i : Nat} (h : i ≤ 19) : 10 ^ i ≤ 10 ^ 19 := Nat.pow_le_pow_right (by omega) h
theorem G139_9_is (k : Nat) (s : List UInt8) (hs : s.length ≤ 19) (hd : s.all dgt = true) : ∀ (j i a : Nat), i + j = s.length → a < 10 ^ i → ∀ n, j < n →
    G139_9 k n ((a : Int), toBytes s, ((toBytes s).length : Int), (i : Int), ()) = some ((val a (s.drop i) : Int), ()) := by
  have hl : (toBytes s).length = s.length := by simp [toBytes]
  intro j
  induction j with
  | zero =>
    intro i a hij ha n hn
    obtain ⟨n, rfl⟩ : ∃ m, n = m + 1 := ⟨n - 1, by omega⟩
    rw [G139_9_eq, sel_neg (by simp only [hl]; omega), List.drop_eq_nil_of_le (by omega)]
    rfl
  | succ j ih =>
    intro i a hij ha n hn
    obtain ⟨n, rfl⟩ : ∃ m, n = m + 1 := ⟨n - 1, by omega⟩
    have hlt : i < s.length := by omega
    have hc := List.all_eq_true.1 hd s[i] (List.getElem_mem _)
    rw [dgt_iff] at hc
    have hg : (toBytes s).getD i (OfNat.ofNat 0) = ((s[i]).toNat : Int) := by rw [getD_of (by omega)]; simp [toBytes]
    have hp : 10 ^ i * 10 ≤ 10 ^ 19 := by rw [← Nat.pow_succ]; exact pow_le19 (by omega)
    have hp' : a + 1 ≤ 10 ^ i := ha
    have hp2 : (a + 1) * 10 ≤ 10 ^ i * 10 := Nat.mul_le_mul_right _ hp'
    rw [G139_9_eq]
    simp only [Int.toNat_natCast, hg, ofNat_len, hl]
    have w1 : IntKind.u8.wrap (((s[i]).toNat : Int) - 48) = (((s[i]).toNat - 48 : Nat) : Int) := by rw [wrapu8 (by omega) (by omega)]; omega
    have w2 : IntKind.u64.wrap (((s[i]).toNat - 48 : Nat) : Int) = (((s[i]).toNat - 48 : Nat) : Int) := wrapu64 (by omega) (by omega)
    have w3 : IntKind.u64.wrap (10 * (a : Int)) = 10 * (a : Int) := wrapu64 (by omega) (by omega)
    have w4 : IntKind.u64.wrap (10 * (a : Int) + (((s[i]).toNat - 48 : Nat) : Int)) = ((10 * a + ((s[i]).toNat - 48) : Nat) : Int) := by rw [wrapu64 (by omega) (by omega)]; omega
    rw [sel_pos (by omega), sel_pos (by omega), sel_pos (by omega), sel_pos (by omega), w1, w2, w3, w4, wrap64 (by omega) (by omega), drop_at hlt, val_cons]
    have := ih (i + 1) (10 * a + ((s[i]).toNat - 48)) (by omega) (by rw [Nat.pow_succ]; omega) n (by omega)
    rw [hl] at this
    exact this
def getOK (s : List UInt8) : Nat × Int := if s.length = 0 then (0, 2) else if 19 < s.length then (0, 4) else if isDig s = true then (val 0 s, 0) else (0, 3)
theorem G139_is (k : Nat) (s : List UInt8) (hk : 20 < k) : G139 k (s, ()) = some (((getOK s).1 : Int), (getOK s).2, ()) := by
  rw [G139_eq]
  unfold getOK
  by_cases c1 : s.length = 0
  · rw [if_pos c1, sel_pos (List.length_eq_zero_iff.1 c1)]; rfl
  rw [if_neg c1, sel_neg (fun h => c1 (List.length_eq_zero_iff.2 h))]
  simp only [ofNat_len]
  by_cases c2 : 19 < s.length
  · rw [if_pos c2, sel_pos (by omega)]; rfl
  rw [if_neg c2, sel_neg (by omega), G72_is k s (by rw [maxLen_eq]; omega) (by omega)]
  simp only [ocall_some, sel_not]
  cases hd : isDig s with
  | false => rfl
  | true =>
    rw [sel_true, if_pos rfl]
    have hd' : s.all dgt = true := by simp [isDig] at hd; simpa using hd.2
    have := G139_9_is k s (by omega) hd' s.length 0 0 (by omega) (by simp) k (by omega)
    simp only [Int.natCast_zero, List.drop_zero] at this
    rw [this]; rfl
end Go.Proofs.YtcgnmecbdleehaaDoor.G
end
section
set_option linter.unusedVariables false
set_option linter.unusedSimpArgs false
set_option maxRecDepth 100000
namespace Go.Proofs.YtcgnmecbdleehaaDoor.G
open Go Go.Proofs.YtcgnmecbdleehaaDoor Th
abbrev Def := Int × Int × Int × Unit
def D : List Def := [(2, 3, 19, ()), (3, 1, 6, ()), (4, 1, 12, ()), (7, 1, 10, ()), (11, 1, 6, ()), (12, 1, 6, ()), (37, 2, 12, ()), (38, 2, 6, ()), (39, 2, 2, ()), (41, 2, 8, ()), (44, 4, 25, ()), (48, 5, 999, ()), (49, 1, 3, ()), (90, 1, 42, ()), (120, 5, 999, ())]
def defOf (n : Int) : Option Def := D.find? fun d => decide (d.1 = n)
theorem G74_2_is (k : Nat) (n a b c : Int) (l : List Def) (hl : l.length ≤ 1000) : ∀ (j i : Nat), i + j = l.length → ∀ m, j < m →
    G74_2 k m (n, l, (l.length : Int), (i : Int), a, b, c, ()) = some (match (l.drop i).find? (fun d => decide (d.1 = n)) with
      | some d => .inr (true, d)
      | none => .inl (a, b, c, ())) := by
  intro j
  induction j with
  | zero =>
    intro i hij m hm
    obtain ⟨m, rfl⟩ : ∃ q, m = q + 1 := ⟨m - 1, by omega⟩
    rw [G74_2_eq, sel_neg (by (try simp only []); omega), List.drop_eq_nil_of_le (by omega)]
    rfl
  | succ j ih =>
    intro i hij m hm
    obtain ⟨m, rfl⟩ : ∃ q, m = q + 1 := ⟨m - 1, by omega⟩
    have hlt : i < l.length := by omega
    rw [G74_2_eq]
    simp only [ofNat_len, Int.toNat_natCast, getD_of hlt]
    rw [sel_pos (by omega), sel_pos (by omega), sel_pos (by omega), sel_pos (by omega), drop_at hlt, List.find?_cons]
    by_cases h : l[i].1 = n
    · rw [sel_pos h]
      simp only [h, decide_true]
      rw [← h]
    · rw [sel_neg h, wrap64 (by omega) (by omega)]
      simp only [h, decide_false]
      exact ih (i + 1) (by omega) m (by omega)
def defR (n : Int) : Def × Bool := match defOf n with
  | some d => (d, true)
  | none => ((0, 0, 0, ()), false)
theorem G74_is (k : Nat) (hk : 20 < k) (n : Int) : G74 k (n, ()) = some ((defR n).1, (defR n).2, ()) := by
  rw [G74_eq]
  have := G74_2_is k n 0 0 0 D (by decide) 15 0 (by decide) k (by omega)
  rw [show ((D.length : Nat) : Int) = Int.ofNat 15 from rfl, show (((0 : Nat) : Int)) = 0 from rfl, List.drop_zero, show (D.find? fun d => decide (d.1 = n)) = defOf n from rfl] at this
  show (ocall (G74_2 k k (n, D, Int.ofNat 15, 0, 0, 0, 0, ())) _) = _
  rw [this, ocall_some]
  unfold defR
  cases defOf n <;> rfl
def flat : List Def → List Int
  | [] => []
  | d :: l => d.1 :: d.2.1 :: d.2.2.1 :: flat l
theorem defOf_mem {n : Int} {d : Def} (h : defOf n = some d) : d ∈ D ∧ d.1 = n := by
  refine ⟨List.mem_of_find?_eq_some h, ?_⟩
  have := List.find?_some h
  simpa using this
theorem D_all : ∀ d ∈ D, 2 ≤ d.1 ∧ d.1 ≤ 128 ∧ 1 ≤ d.2.1 ∧ d.2.1 ≤ 5 ∧ 1 ≤ d.2.2.1 ∧ d.2.2.1 ≤ 999 ∧ ((d.2.1 = 3 ∨ d.2.1 = 4) → d.2.2.1 ≤ 99) := by
  decide
def ahead (kind : Int) : Nat := if kind = 3 ∨ kind = 4 then 2 else if kind = 5 then 3 else 0
def sized (d : Def) (n : Nat) : Bool := if ahead d.2.1 = 0 then decide ((n : Int) = d.2.2.1) else decide (1 ≤ n) && decide ((n : Int) ≤ d.2.2.1)
def signs (d : Def) (s : List UInt8) : Bool := Signs.signsOf d.2.1 (isDig s) s
def rightF (n : Int) (s : List UInt8) : Bool := match defOf n with
  | some d => sized d s.length && signs d s
  | none => false
theorem G76_is (k : Nat) (d : Def) (s : List UInt8) (hs : s.length ≤ maxLen) (hk : s.length < k) : G76 k ((d.1, d.2.1, d.2.2.1, ()), s, ()) = some (signs d s, ()) := by
  rw [G76_eq, sel_pos (by rw [maxLen_eq] at hs; (try simp only []); omega), G72_is k s hs hk, ocall_some]
  rfl
theorem G75_is (k : Nat) (d : Def) : G75 k ((d.1, d.2.1, d.2.2.1, ()), ()) = some (if ahead d.2.1 = 0 then .inr ((d.2.2.1, ()), ()) else .inl ((((ahead d.2.1 : Nat) : Int), d.2.2.1, ()), ())) := by
  rw [G75_eq]
  unfold ahead
  simp only [sel_dec]
  by_cases h3 : d.2.1 = 3
  · simp [h3]
  · by_cases h4 : d.2.1 = 4
    · simp [h4]
    · by_cases h5 : d.2.1 = 5
      · simp [h5]
      · simp [h3, h4, h5]
theorem G40_is (k : Nat) (hk : 20 < k) (n : Int) (s : List UInt8) (hs : s.length ≤ maxLen) (hks : s.length < k) : G40 k (n, s, ()) = some (rightF n s, ()) := by
  rw [G40_eq, G74_is k hk, ocall_some]
  unfold rightF defR
  cases defOf n with
  | none => rfl
  | some d =>
    simp only [sel_true, G75_is, ocall_some]
    unfold sized
    by_cases h : ahead d.2.1 = 0
    · rw [if_pos h, esel_inr, G162_eq, ocall_some, if_pos h, G76_is k d s hs hks]
      simp only [sel_dec, ofNat_len, ocall_some]
      by_cases c : (s.length : Int) = d.2.2.1 <;> simp [c]
    · rw [if_neg h, esel_inl, G160_eq, if_neg h, G76_is k d s hs hks]
      simp only [sel_dec, ofNat_len, ocall_some]
      by_cases c : (1 : Int) ≤ s.length
      · have c' : 1 ≤ s.length := by omega
        rw [if_pos c, ocall_some]
        by_cases c2 : (s.length : Int) ≤ d.2.2.1 <;> simp [c', c2]
      · have c' : ¬ 1 ≤ s.length := by omega
        rw [if_neg c, ocall_some]
        simp [c']
theorem G126_none (k : Nat) (hk : 20 < k) (n : Int) (l : List Int) (h : defOf n = none) : G126 k (n, l, ()) = some ([], 0, 5, ()) := by
  rw [G126_eq, G74_is k hk, ocall_some]
  unfold defR
  rw [h]; rfl
end Go.Proofs.YtcgnmecbdleehaaDoor.G
end
section
set_option linter.unusedVariables false
set_option linter.unusedSimpArgs false
namespace Go.Proofs.YtcgnmecbdleehaaDoor.G
open Go Go.Proofs.YtcgnmecbdleehaaDoor Th
theorem ahead_cases {kind : Int} : ahead kind = 0 ∨ ahead kind = 2 ∨ ahead kind = 3 := by unfold ahead; split <;> (try split) <;> simp
theorem ahead_two {kind : Int} (h : ahead kind = 2) : kind = 3 ∨ kind = 4 := by
  unfold ahead at h; split at h
  · assumption
  · split at h <;> cases h
def writeF (d : Def) (s : List UInt8) : List UInt8 := if ahead d.2.1 = 0 then s else digs s.length (ahead d.2.1) ++ s
theorem put_len {d : Def} (hd : d ∈ D) {n : Nat} (h : sized d n = true) (ha : ahead d.2.1 ≠ 0) : putOK n ((ahead d.2.1 : Nat) : Int) = (digs n (ahead d.2.1), 0) := by
  obtain ⟨_, _, _, _, h1, h2, h3⟩ := D_all d hd
  unfold sized at h
  rw [if_neg ha] at h
  simp only [Bool.and_eq_true, decide_eq_true_eq] at h
  rcases ahead_cases (kind := d.2.1) with e | e | e
  · exact absurd e ha
  · have := h3 (ahead_two e)
    rw [e]
    unfold putOK
    rw [if_neg (by omega), Int.toNat_natCast, if_pos (Nat.div_eq_of_lt (by omega))]
  · rw [e]
    unfold putOK
    rw [if_neg (by omega), Int.toNat_natCast, if_pos (Nat.div_eq_of_lt (by omega))]
theorem rightF_some {n : Int} {d : Def} (hd : defOf n = some d) (s : List UInt8) : rightF n s = (sized d s.length && signs d s) := by unfold rightF; rw [hd]
theorem sized_le {d : Def} (hd : d ∈ D) {n : Nat} (h : sized d n = true) : 1 ≤ n ∧ n ≤ 999 := by
  obtain ⟨_, _, _, _, h1, h2, h3⟩ := D_all d hd
  unfold sized at h
  split at h
  · simp only [decide_eq_true_eq] at h; omega
  · simp only [Bool.and_eq_true, decide_eq_true_eq] at h; omega
theorem G85_is (k : Nat) (hk : 20 < k) (n : Int) (d : Def) (hd : defOf n = some d) (s : List UInt8) (hs : s.length ≤ 140737488351232) (hks : s.length < k) :
    G85 k (n, s, ()) = some (if rightF n s = true then (toBytes (writeF d s), 0, ()) else ([], 1, ())) := by
  obtain ⟨hm, _⟩ := defOf_mem hd
  rw [G85_eq, G74_is k hk, ocall_some]
  have e : defR n = (d, true) := by unfold defR; rw [hd]
  rw [e]
  simp only [Bool.not_true, sel_false]
  rw [G40_is k hk n s (by rw [maxLen_eq]; omega) hks, ocall_some]
  cases hr : rightF n s with
  | false => rfl
  | true =>
    rw [rightF_some hd] at hr
    simp only [Bool.and_eq_true] at hr
    simp only [Bool.not_true, sel_false, G75_is, ocall_some]
    unfold writeF
    by_cases ha : ahead d.2.1 = 0
    · rw [if_pos ha, esel_inr, G161_eq, ocall_some, if_pos ha]
      rfl
    · have hsz := sized_le hm hr.1
      rw [if_neg ha, esel_inl, G159_eq, ocall_some, if_neg ha]
      simp only [ofNat_len]
      rw [sel_pos (by omega), wrapu64 (by omega) (by omega), G77_is k hk s.length _ (by omega), put_len hm hr.1 ha, ocall_some]
      (try simp only [])
      rw [sel_pos (by rw [digs_len]; rcases ahead_cases (kind := d.2.1) with e | e | e <;> omega)]
      rfl
theorem ofBytes_len (b : List Int) : (ofBytes b).length = b.length := by simp [ofBytes]
theorem ofBytes_take (b : List Int) (n : Nat) : ofBytes (b.take n) = (ofBytes b).take n := by simp [ofBytes, List.map_take]
theorem ofBytes_drop (b : List Int) (n : Nat) : ofBytes (b.drop n) = (ofBytes b).drop n := by simp [ofBytes, List.map_drop]
def lenF (d : Def) (b : List UInt8) : Int × Int :=
  if ahead d.2.1 = 0 then (d.2.2.1, 0) else if b.length < ahead d.2.1 then (0, 2)
  else if (getOK (b.take (ahead d.2.1))).2 = 0 ∧ (getOK (b.take (ahead d.2.1))).1 ≠ 0 then
    (if d.2.2.1 < ((getOK (b.take (ahead d.2.1))).1 : Int) then (0, 4) else (((getOK (b.take (ahead d.2.1))).1 : Int), 0)) else (0, 3)
theorem G138_is (k : Nat) (hk : 20 < k) (d : Def) (hm : d ∈ D) (b : List Int) (hb : b.length ≤ 9223372036854775807) : G138 k ((d.1, d.2.1, d.2.2.1, ()), b, ()) = some ((lenF d (ofBytes b)).1, (lenF d (ofBytes b)).2, ()) := by
  obtain ⟨_, _, _, _, h1, h2, h3⟩ := D_all d hm
  rw [G138_eq]
  simp only [G75_is, ocall_some]
  unfold lenF
  by_cases ha : ahead d.2.1 = 0
  · rw [if_pos ha, esel_inr, G161_eq, ocall_some, if_pos ha]
    rfl
  · rw [if_neg ha, esel_inl, G159_eq, ocall_some, if_neg ha, ofBytes_len]
    simp only [ofNat_len]
    rw [sel_neg (by omega)]
    by_cases hl : b.length < ahead d.2.1
    · rw [sel_pos (by omega), if_pos hl]
    · rw [sel_neg (by omega), if_neg hl, sel_pos (by simp only [Int.ofNat_eq_natCast]; omega), sel_pos (by omega), sel_pos (by omega)]
      simp only [Int.toNat_natCast]
      rw [show (Int.ofNat 0).toNat = 0 from rfl, List.drop_zero, ofBytes_take, G139_is k _ hk, ocall_some]
      generalize getOK ((ofBytes b).take (ahead d.2.1)) = g
      obtain ⟨g1, g2⟩ := g
      (try simp only [])
      have w1 : IntKind.u64.wrap d.2.2.1 = d.2.2.1 := wrapu64 (by omega) (by omega)
      simp only [w1]
      by_cases c1 : g2 = 0
      · subst c1
        simp only [decide_true, Bool.not_true, sel_false, true_and]
        by_cases c2 : g1 = 0
        · subst c2
          rw [if_neg (by simp)]
          rfl
        · rw [if_pos c2, sel_neg (by omega)]
          by_cases c3 : d.2.2.1 < (g1 : Int)
          · rw [sel_pos c3, if_pos c3]
          · rw [sel_neg c3, if_neg c3, wrap64 (by omega) (by omega)]
      · simp only [c1, decide_false, Bool.not_false, sel_true, false_and, if_false]
theorem lenF_le {d : Def} (hm : d ∈ D) {b : List UInt8} (h : (lenF d b).2 = 0) : 1 ≤ (lenF d b).1 ∧ (lenF d b).1 ≤ d.2.2.1 := by
  obtain ⟨_, _, _, _, h1, h2, h3⟩ := D_all d hm
  unfold lenF at h ⊢
  split
  · exact ⟨h1, Int.le_refl _⟩
  · rename_i ha
    rw [if_neg ha] at h
    split
    · rename_i hb; rw [if_pos hb] at h; cases h
    · rename_i hb
      rw [if_neg hb] at h
      split
      · rename_i hg
        rw [if_pos hg] at h
        split
        · rename_i hc; rw [if_pos hc] at h; cases h
        · rename_i hc
          have := hg.2
          (try simp only []); omega
      · rename_i hg; rw [if_neg hg] at h; cases h
def readF (d : Def) (b : List UInt8) : List UInt8 × Int × Int :=
  if (lenF d b).2 = 0 then
    (if (b.length : Int) < (ahead d.2.1 : Int) + (lenF d b).1 then ([], 0, 2)
     else if signs d ((b.take ((ahead d.2.1 : Int) + (lenF d b).1).toNat).drop (ahead d.2.1)) = true then ((b.take ((ahead d.2.1 : Int) + (lenF d b).1).toNat).drop (ahead d.2.1), (ahead d.2.1 : Int) + (lenF d b).1, 0)
     else ([], 0, 3))
  else ([], 0, (lenF d b).2)
theorem G126_is (k : Nat) (hk : 1100 < k) (n : Int) (d : Def) (hd : defOf n = some d) (b : List Int) (hb : b.length ≤ 9223372036854775807) :
    G126 k (n, b, ()) = some ((readF d (ofBytes b)).1, (readF d (ofBytes b)).2.1, (readF d (ofBytes b)).2.2, ()) := by
  obtain ⟨hm, _⟩ := defOf_mem hd
  obtain ⟨_, _, _, _, h1, h2, h3⟩ := D_all d hm
  have ha3 := ahead_cases (kind := d.2.1)
  rw [G126_eq, G74_is k (by omega), ocall_some]
  have e : defR n = (d, true) := by unfold defR; rw [hd]
  rw [e]
  simp only [Bool.not_true, sel_false]
  rw [G138_is k (by omega) d hm b hb, ocall_some]
  unfold readF
  by_cases c0 : (lenF d (ofBytes b)).2 = 0
  · obtain ⟨l1, l2⟩ := lenF_le hm c0
    rw [if_pos c0]
    simp only [c0, decide_true, Bool.not_true, sel_false]
    rw [ofBytes_len]
    have hin : ∀ (a : Int), a = ((ahead d.2.1 : Nat) : Int) →
        (sel (decide (Int.ofNat b.length < IntKind.i64.wrap (a + (lenF d (ofBytes b)).1))) (some (([] : List UInt8), (0 : Int), (2 : Int), ()))
          (sel (decide ((0 : Int) ≤ a)) (sel (decide (a ≤ IntKind.i64.wrap (a + (lenF d (ofBytes b)).1))) (sel (decide (IntKind.i64.wrap (a + (lenF d (ofBytes b)).1) ≤ Int.ofNat b.length))
            (sel (decide (Int.ofNat b.length ≤ Int.ofNat b.length))
              (ocall (G76 k ((d.1, d.2.1, d.2.2.1, ()), ofBytes (List.drop a.toNat (List.take (IntKind.i64.wrap (a + (lenF d (ofBytes b)).1)).toNat b)), ())) fun (r : Bool × Unit) =>
                sel (!r.fst) (some (([] : List UInt8), (0 : Int), (3 : Int), ()))
                  (some (ofBytes (List.drop a.toNat (List.take (IntKind.i64.wrap (a + (lenF d (ofBytes b)).1)).toNat b)), IntKind.i64.wrap (a + (lenF d (ofBytes b)).1), (0 : Int), ())))
              none) none) none) none)) =
        some ((if (b.length : Int) < (ahead d.2.1 : Int) + (lenF d (ofBytes b)).1 then (([], 0, 2) : List UInt8 × Int × Int)
         else if signs d (((ofBytes b).take ((ahead d.2.1 : Int) + (lenF d (ofBytes b)).1).toNat).drop (ahead d.2.1)) = true then (((ofBytes b).take ((ahead d.2.1 : Int) + (lenF d (ofBytes b)).1).toNat).drop (ahead d.2.1), (ahead d.2.1 : Int) + (lenF d (ofBytes b)).1, 0)
         else ([], 0, 3)).1, (if (b.length : Int) < (ahead d.2.1 : Int) + (lenF d (ofBytes b)).1 then (([], 0, 2) : List UInt8 × Int × Int)
         else if signs d (((ofBytes b).take ((ahead d.2.1 : Int) + (lenF d (ofBytes b)).1).toNat).drop (ahead d.2.1)) = true then (((ofBytes b).take ((ahead d.2.1 : Int) + (lenF d (ofBytes b)).1).toNat).drop (ahead d.2.1), (ahead d.2.1 : Int) + (lenF d (ofBytes b)).1, 0)
         else ([], 0, 3)).2.1, (if (b.length : Int) < (ahead d.2.1 : Int) + (lenF d (ofBytes b)).1 then (([], 0, 2) : List UInt8 × Int × Int)
         else if signs d (((ofBytes b).take ((ahead d.2.1 : Int) + (lenF d (ofBytes b)).1).toNat).drop (ahead d.2.1)) = true then (((ofBytes b).take ((ahead d.2.1 : Int) + (lenF d (ofBytes b)).1).toNat).drop (ahead d.2.1), (ahead d.2.1 : Int) + (lenF d (ofBytes b)).1, 0)
         else ([], 0, 3)).2.2, ()) := by
      rintro a rfl
      have w : IntKind.i64.wrap (((ahead d.2.1 : Nat) : Int) + (lenF d (ofBytes b)).1) = ((ahead d.2.1 : Nat) : Int) + (lenF d (ofBytes b)).1 := wrap64 (by omega) (by omega)
      simp only [w, Int.toNat_natCast, ofNat_len, ofBytes_drop, ofBytes_take]
      by_cases c1 : (b.length : Int) < (ahead d.2.1 : Int) + (lenF d (ofBytes b)).1
      · rw [sel_pos c1]; simp only [c1, if_true]
      · rw [sel_neg c1, sel_pos (by omega), sel_pos (by omega), sel_pos (by omega), sel_pos (by omega)]
        rw [G76_is k d _ (by rw [maxLen_eq]; simp; omega) (by simp; omega), ocall_some]
        simp only [c1, if_false]
        cases signs d (((ofBytes b).take ((ahead d.2.1 : Int) + (lenF d (ofBytes b)).1).toNat).drop (ahead d.2.1)) <;> rfl
    rw [G75_is, ocall_some]
    by_cases ha : ahead d.2.1 = 0
    · rw [if_pos ha, esel_inr, G161_eq, ocall_some]
      exact hin 0 (by rw [ha]; rfl)
    · rw [if_neg ha, esel_inl, G159_eq, ocall_some]
      exact hin _ rfl
  · rw [if_neg c0]
    simp only [c0, decide_false, Bool.not_false, sel_true]
end Go.Proofs.YtcgnmecbdleehaaDoor.G
end
section
set_option linter.unusedVariables false
set_option linter.unusedSimpArgs false
namespace Go.Proofs.YtcgnmecbdleehaaDoor.G
open Go Go.Proofs.YtcgnmecbdleehaaDoor Th
theorem val_lt : ∀ (s : List UInt8) (a : Nat), s.all dgt = true → val a s < (a + 1) * 10 ^ s.length
  | [], a, _ => by simp [val]
  | c :: t, a, h => by
    simp only [List.all_cons, Bool.and_eq_true, dgt_iff] at h
    have := val_lt t (10 * a + (c.toNat - 48)) h.2
    rw [val_cons]
    have h2 : (10 * a + (c.toNat - 48) + 1) * 10 ^ t.length ≤ ((a + 1) * 10) * 10 ^ t.length := Nat.mul_le_mul_right _ (by omega)
    rw [List.length_cons, Nat.pow_succ, Nat.mul_comm (10 ^ t.length) 10, ← Nat.mul_assoc]
    omega
end Go.Proofs.YtcgnmecbdleehaaDoor.G
end
section
set_option linter.unusedVariables false
set_option linter.unusedSimpArgs false
set_option maxRecDepth 100000
namespace Go.Proofs.YtcgnmecbdleehaaDoor.G
open Go Go.Proofs.YtcgnmecbdleehaaDoor Th
abbrev Txt := List UInt8
abbrev Item := Int × Txt × Unit
abbrev Msg := Txt × List Item × Unit
def KT : List Txt := [[48, 49, 48, 48], [48, 49, 49, 48], [48, 52, 48, 48], [48, 52, 49, 48], [48, 52, 50, 48], [48, 52, 50, 49], [48, 52, 51, 48]]
def knownT (s : Txt) : Bool := KT.contains s
theorem G110_is (k : Nat) (s : Txt) : G110 k (s, ()) = some (knownT s, ()) := by
  rw [G110_eq]
  unfold knownT KT
  simp only [sel_dec, List.contains_cons, List.contains_nil, Bool.or_false]
  by_cases h1 : s = [48, 49, 48, 48]
  · simp [h1]
  by_cases h2 : s = [48, 49, 49, 48]
  · simp [h2]
  by_cases h3 : s = [48, 52, 48, 48]
  · simp [h3]
  by_cases h4 : s = [48, 52, 49, 48]
  · simp [h4]
  by_cases h5 : s = [48, 52, 50, 48]
  · simp [h5]
  by_cases h6 : s = [48, 52, 50, 49]
  · simp [h6]
  by_cases h7 : s = [48, 52, 51, 48] <;> simp [h1, h2, h3, h4, h5, h6, h7]
def itemsOK : Int → List Item → Bool
  | _, [] => true
  | last, x :: l => decide (last < x.1) && rightF x.1 x.2.1 && itemsOK x.1 l
def msgRight (m : Msg) : Bool := itemsOK 0 m.2.1 && knownT m.1 && decide (0 < m.2.1.length)
theorem G84_3_is (k : Nat) (hk : 20 < k) (l l0 : List Item) (typ : Txt) (hl : l.length ≤ 1000000000) (hx : ∀ x ∈ l, x.2.1.length ≤ maxLen ∧ x.2.1.length < k) :
    ∀ (j i : Nat) (last : Int), i + j = l.length → ∀ n, j < n → G84_3 k n (last, l, (l.length : Int), (i : Int), typ, l0, ()) = some (sel (itemsOK last (l.drop i)) (.inl (typ, l0, ())) (.inr (false, ()))) := by
  intro j
  induction j with
  | zero =>
    intro i last hij n hn
    obtain ⟨n, rfl⟩ : ∃ m, n = m + 1 := ⟨n - 1, by omega⟩
    rw [G84_3_eq, sel_neg (by (try simp only []); omega), List.drop_eq_nil_of_le (by omega)]
    rfl
  | succ j ih =>
    intro i last hij n hn
    obtain ⟨n, rfl⟩ : ∃ m, n = m + 1 := ⟨n - 1, by omega⟩
    have hlt : i < l.length := by omega
    rw [G84_3_eq]
    simp only [ofNat_len, Int.toNat_natCast, getD_of hlt]
    rw [sel_pos (by omega), sel_pos (by omega), sel_pos (by omega), drop_at hlt]
    simp only [itemsOK]
    obtain ⟨h1, h2⟩ := hx l[i] (List.getElem_mem _)
    by_cases c : l[i].1 ≤ last
    · rw [sel_pos c, decide_eq_false (by omega)]; rfl
    · rw [sel_neg c, G40_is k hk _ _ h1 h2, ocall_some, decide_eq_true (by omega)]
      cases hr : rightF l[i].1 l[i].2.1 with
      | false => rfl
      | true =>
        simp only [Bool.not_true, sel_false, Bool.true_and]
        rw [wrap64 (by omega) (by omega)]
        exact ih (i + 1) l[i].1 (by omega) n (by omega)
theorem G84_is (k : Nat) (hk : 20 < k) (typ : Txt) (l : List Item) (hl : l.length ≤ 1000000000) (hlk : l.length < k) (hx : ∀ x ∈ l, x.2.1.length ≤ maxLen ∧ x.2.1.length < k) :
    G84 k ((typ, l, ()), ()) = some (msgRight (typ, l, ()), ()) := by
  rw [G84_eq]
  have := G84_3_is k hk l l typ hl hx l.length 0 0 (by omega) k hlk
  simp only [ofNat_len, List.drop_zero, Int.natCast_zero] at this ⊢
  rw [this, ocall_some]
  unfold msgRight
  (try simp only [])
  cases itemsOK 0 l with
  | false => rfl
  | true =>
    simp only [sel_true, esel_inl, G110_is, ocall_some, Bool.true_and]
    cases knownT typ with
    | false => rfl
    | true =>
      simp only [sel_true, Bool.true_and]
      have : decide ((0 : Int) < (l.length : Int)) = decide (0 < l.length) := decide_eq_decide.2 (by omega)
      rw [this]
def getM (n : Int) : List Item → Txt × Bool
  | [] => ([], false)
  | x :: l => if x.1 = n then (x.2.1, true) else getM n l
def idxM (n : Int) : List Item → Nat → Option Nat
  | [], _ => none
  | x :: l, i => if x.1 = n then some i else idxM n l (i + 1)
theorem idxM_some (n : Int) : ∀ (l : List Item) (i j : Nat), idxM n l i = some j → ∃ h : j - i < l.length, i ≤ j ∧ getM n l = (l[j - i].2.1, true)
  | [], i, j, h => by cases h
  | x :: l, i, j, h => by
    unfold idxM at h
    by_cases c : x.1 = n
    · rw [if_pos c] at h
      cases h
      refine ⟨by simp, Nat.le_refl _, ?_⟩
      simp [getM, c]
    · rw [if_neg c] at h
      obtain ⟨h1, h2, h3⟩ := idxM_some n l (i + 1) j h
      have e : j - i = (j - (i + 1)) + 1 := by omega
      refine ⟨by simp; omega, by omega, ?_⟩
      simp only [getM, if_neg c, h3, e, List.getElem_cons_succ]
theorem idxM_none (n : Int) : ∀ (l : List Item) (i : Nat), idxM n l i = none → getM n l = ([], false)
  | [], i, _ => rfl
  | x :: l, i, h => by
    unfold idxM at h
    by_cases c : x.1 = n
    · rw [if_pos c] at h; cases h
    · rw [if_neg c] at h
      simp only [getM, if_neg c, idxM_none n l (i + 1) h]
theorem G7000000_2_is (k : Nat) (n : Int) (l : List Item) (hl : l.length ≤ 1000000000) :
    ∀ (j i : Nat), i + j = l.length → ∀ m, j < m → G7000000_2 k m (l, ((n, ()), ()), (l.length : Int), (i : Int), ()) = some (match idxM n (l.drop i) i with | none => .inl () | some q => .inr ((q : Int), ())) := by
  intro j
  induction j with
  | zero =>
    intro i hij m hm
    obtain ⟨m, rfl⟩ : ∃ q, m = q + 1 := ⟨m - 1, by omega⟩
    rw [G7000000_2_eq, sel_neg (by (try simp only []); omega), List.drop_eq_nil_of_le (by omega)]
    rfl
  | succ j ih =>
    intro i hij m hm
    obtain ⟨m, rfl⟩ : ∃ q, m = q + 1 := ⟨m - 1, by omega⟩
    have hlt : i < l.length := by omega
    rw [G7000000_2_eq]
    simp only [ofNat_len, Int.toNat_natCast, getD_of hlt]
    rw [sel_pos (by omega), sel_pos (by omega), sel_pos (by omega), drop_at hlt, G141_eq, ocall_some]
    simp only [idxM]
    by_cases c : l[i].1 = n
    · rw [sel_pos c, if_pos c]
    · rw [sel_neg c, if_neg c, wrap64 (by omega) (by omega)]
      exact ih (i + 1) (by omega) m (by omega)
theorem G129_is (k : Nat) (n : Int) (typ : Txt) (l : List Item) (hl : l.length ≤ 1000000000) (hk : l.length < k) : G129 k ((typ, l, ()), n, ()) = some ((getM n l).1, (getM n l).2, ()) := by
  rw [G129_eq]
  (try simp only [])
  have := G7000000_2_is k n l hl l.length 0 (by omega) k hk
  simp only [List.drop_zero, Int.natCast_zero] at this
  rw [G7000000_eq]
  simp only [ofNat_len]
  rw [this, ocall_some]
  cases h : idxM n l 0 with
  | none =>
    rw [idxM_none n l 0 h]
    rfl
  | some q =>
    obtain ⟨h1, h2, h3⟩ := idxM_some n l 0 q h
    simp only [Nat.sub_zero] at h1 h3
    rw [h3]
    simp only [esel_inr, ocall_some, Int.toNat_natCast, getD_of h1]
    rw [sel_neg (by omega), sel_pos (by omega), sel_pos (by omega)]
theorem getM_len (n : Int) (L : Nat) : ∀ l : List Item, (∀ x ∈ l, x.2.1.length ≤ L) → (getM n l).1.length ≤ L
  | [], _ => Nat.zero_le _
  | x :: l, h => by
    unfold getM
    split
    · exact h x (List.mem_cons_self ..)
    · exact getM_len n L l fun y hy => h y (List.mem_cons_of_mem _ hy)
end Go.Proofs.YtcgnmecbdleehaaDoor.G
end
section
set_option linter.unusedVariables false
set_option linter.unusedSimpArgs false
namespace Go.Proofs.YtcgnmecbdleehaaDoor.G
open Go Go.Proofs.YtcgnmecbdleehaaDoor Th
def gd (tw : Bool) (d : Nat) : Nat := if tw = true then 2 * d - d / 5 * 9 else d
def fs (tw : Bool) : List UInt8 → Nat
  | [] => 0
  | c :: t => gd (tw != decide (t.length % 2 = 1)) (c.toNat - 48) + fs tw t
theorem gd_le {tw : Bool} {d : Nat} (h : d ≤ 9) : gd tw d ≤ 9 := by
  unfold gd; split <;> omega
theorem fs_le (tw : Bool) : ∀ (s : List UInt8), s.all dgt = true → fs tw s ≤ 9 * s.length
  | [], _ => by simp [fs]
  | c :: t, h => by
    simp only [List.all_cons, Bool.and_eq_true, dgt_iff] at h
    have := fs_le tw t h.2
    have := gd_le (tw := tw != decide (t.length % 2 = 1)) (d := c.toNat - 48) (by omega)
    simp only [fs, List.length_cons]; omega
theorem par_flip (tw : Bool) (n : Nat) : (tw != decide ((n + 1) % 2 = 1)) = ((!tw) != decide (n % 2 = 1)) := by
  rcases Nat.mod_two_eq_zero_or_one n with h | h
  · have : (n + 1) % 2 = 1 := by omega
    cases tw <;> simp [h, this]
  · have : (n + 1) % 2 = 0 := by omega
    cases tw <;> simp [h, this]
theorem sum_fold (l : List (Int × Int)) (tw : Bool) : Sum.sumOf l tw = (l.map (·.2)).foldl Sum.step (0, tw) := by
  unfold Sum.sumOf
  rw [List.foldl_map]
theorem backs_snd (l : List Int) : (Sum.backs l).map (·.2) = l.reverse := by
  unfold Sum.backs
  rw [List.map_reverse, List.map_map]
  congr 1
  apply List.ext_getElem
  · simp
  · intro i h1 h2
    simp at h1 h2
    simp [h2]
theorem toBytes_cons (c : UInt8) (t : List UInt8) : toBytes (c :: t) = (c.toNat : Int) :: toBytes t := rfl
theorem rwrap {n : Int} (h1 : -9223372036854775808 ≤ n) (h2 : n ≤ 9223372036854775807) : RowKit.wrap64 n = n := by
  unfold RowKit.wrap64; omega
theorem sum_is (tw : Bool) : ∀ (s : List UInt8), s.all dgt = true → s.length ≤ 1000000000 → (toBytes s).reverse.foldl Sum.step (0, tw) = ((fs tw s : Int), tw != decide (s.length % 2 = 1))
  | [], _, _ => by simp [toBytes, fs]
  | c :: t, h, hl => by
    have h' := h
    simp only [List.all_cons, Bool.and_eq_true, dgt_iff] at h
    simp only [List.length_cons] at hl
    have hle := fs_le tw t h.2
    rw [toBytes_cons, List.reverse_cons, List.foldl_append, sum_is tw t h.2 (by omega)]
    simp only [List.foldl_cons, List.foldl_nil, Sum.step, fs, List.length_cons]
    have e1 : ((c.toNat : Int) - 48) % 256 = ((c.toNat - 48 : Nat) : Int) := by omega
    have hg := gd_le (tw := tw != decide (t.length % 2 = 1)) (d := c.toNat - 48) (by omega)
    rw [e1]
    refine Prod.ext ?_ ?_
    · (try simp only [])
      have e2 : (bif (tw != decide (t.length % 2 = 1)) then ((c.toNat - 48 : Nat) : Int) * 2 - ((c.toNat - 48 : Nat) : Int) / 5 * 9 else ((c.toNat - 48 : Nat) : Int)) = ((gd (tw != decide (t.length % 2 = 1)) (c.toNat - 48) : Nat) : Int) := by
        unfold gd
        cases (tw != decide (t.length % 2 = 1))
        · simp
        · simp only [cond_true, if_true]; omega
      rw [e2, rwrap (by omega) (by omega)]
      omega
    · (try simp only [])
      rw [par_flip]
      cases tw <;> simp
theorem G73_is (k : Nat) (s : List UInt8) (tw : Bool) (h : s.all dgt = true) (hl : s.length ≤ 1000000000) : G73 k (s, tw, ()) = some ((fs tw s : Int), ()) := by
  rw [G73_eq, sel_pos (by (try simp only []); omega), sum_fold, backs_snd, sum_is tw s h hl]
def isFine (s : List UInt8) : Bool := isDig s && decide (fs false s % 10 = 0)
theorem all_of_isDig {s : List UInt8} (h : isDig s = true) : s.all dgt = true := by simp [isDig] at h; simpa using h.2
theorem tmod10 (n : Nat) : ((n : Int)).tmod 10 = ((n % 10 : Nat) : Int) := by simp [Int.tmod_eq_emod_of_nonneg]
theorem G39_is (k : Nat) (s : List UInt8) (hl : s.length ≤ 1000000000) (hk : s.length < k) : G39 k (s, ()) = some (isFine s, ()) := by
  rw [G39_eq, G72_is k s (by rw [maxLen_eq]; omega) hk, ocall_some]
  unfold isFine
  cases hd : isDig s with
  | false => rfl
  | true =>
    simp only [sel_true]
    rw [G73_is k s false (all_of_isDig hd) hl, ocall_some, tmod10]
    simp only [Bool.true_and]
    have : decide (((fs false s % 10 : Nat) : Int) = 0) = decide (fs false s % 10 = 0) := decide_eq_decide.2 (by omega)
    rw [this]
end Go.Proofs.YtcgnmecbdleehaaDoor.G
end
section
set_option linter.unusedVariables false
set_option linter.unusedSimpArgs false
set_option maxRecDepth 100000
namespace Go.Proofs.YtcgnmecbdleehaaDoor.G
open Go Go.Proofs.YtcgnmecbdleehaaDoor Th
abbrev Deal := Int × Txt × Int × Int × Txt × Txt × Unit
abbrev Key := Int × Txt × Unit
def TY : List Txt := [[], [48, 49, 48, 48], [48, 49, 49, 48], [48, 52, 48, 48], [48, 52, 49, 48], [48, 52, 50, 48], [48, 52, 50, 49], [48, 52, 51, 48]]
def typeK (kind : Int) : Txt := if kind < 0 ∨ 8 ≤ kind then [] else TY.getD kind.toNat []
theorem G82_is (k : Nat) (kind : Int) : G82 k (kind, ()) = some (typeK kind, ()) := by
  rw [G82_eq]
  unfold typeK
  by_cases c1 : kind < 0
  · rw [sel_pos c1, if_pos (.inl c1)]
  by_cases c2 : 8 ≤ kind
  · rw [sel_neg c1, sel_pos c2, if_pos (.inr c2)]
  rw [sel_neg c1, sel_neg c2, sel_pos (by omega), sel_pos (show (kind, ()).fst < Int.ofNat 8 by simp only [Int.ofNat_eq_natCast]; omega), if_neg (by omega)]
  rfl
def asksK (kind : Int) : Bool := decide (kind = 1 ∨ kind = 3 ∨ kind = 5 ∨ kind = 6)
theorem G105_is (k : Nat) (kind : Int) : G105 k (kind, ()) = some (asksK kind, ()) := by
  rw [G105_eq]
  unfold asksK
  simp only [sel_dec]
  by_cases h1 : kind = 1
  · simp [h1]
  by_cases h3 : kind = 3
  · simp [h3]
  by_cases h5 : kind = 5
  · simp [h5]
  by_cases h6 : kind = 6 <;> simp [h1, h3, h5, h6]
def zeros : Txt := List.replicate 32 48
def stanT (stan : Int) : Txt := (putOK stan.toNat 6).1
def amtT (amt : Int) : Txt := (putOK amt.toNat 12).1
def originT (stan : Int) : Txt := [48, 49, 48, 48] ++ stanT stan ++ zeros
def itemsK (d : Deal) : List Item :=
  if asksK d.1 = true then [(2, d.2.1, ()), (4, amtT d.2.2.1, ()), (11, stanT d.2.2.2.1, ()), (37, d.2.2.2.2.1, ())] ++ (if 5 ≤ d.1 then [(90, originT d.2.2.2.1, ())] else [])
  else [(11, stanT d.2.2.2.1, ()), (37, d.2.2.2.2.1, ()), (39, d.2.2.2.2.2.1, ())]
theorem putOK_le (v : Nat) (n : Int) : (putOK v n).1.length ≤ 19 := by
  unfold putOK
  split
  · simp
  · split
    · simp only [digs_len]; omega
    · simp
theorem put_is (k : Nat) (hk : 20 < k) (v n : Int) (h0 : 0 ≤ v) (h1 : v ≤ 18446744073709551615) : G77 k (v, n, ()) = some ((putOK v.toNat n).1, (putOK v.toNat n).2, ()) := by
  have := G77_is k hk v.toNat n (by omega)
  rwa [show ((v.toNat : Nat) : Int) = v by omega] at this
theorem G83_is (k : Nat) (hk : 20 < k) (kind : Int) (pan : Txt) (amt stan : Int) (rrn code : Txt) (ha : 0 ≤ amt ∧ amt ≤ 18446744073709551615) (hs : 0 ≤ stan ∧ stan ≤ 4294967295) :
    G83 k ((kind, pan, amt, stan, rrn, code, ()), ()) = some (itemsK (kind, pan, amt, stan, rrn, code, ()), ()) := by
  rw [G83_eq]
  (try simp only [])
  rw [wrapu64 (by omega) (by omega), put_is k hk stan 6 (by omega) (by omega), ocall_some, G105_is, ocall_some]
  unfold itemsK
  (try simp only [])
  cases asksK kind with
  | false => rfl
  | true =>
    simp only [Bool.not_true, sel_false, if_true]
    rw [put_is k hk amt 12 (by omega) (by omega), ocall_some, G82_is, ocall_some]
    have hl := putOK_le stan.toNat 6
    have ht : typeK 1 = [48, 49, 48, 48] := rfl
    rw [ht]
    by_cases c : 5 ≤ kind
    · rw [sel_pos c, sel_pos (by simp only [List.length_cons, List.length_nil]; omega), sel_pos (by simp only [List.length_append, List.length_cons, List.length_nil]; omega), if_pos c]
      rfl
    · rw [sel_neg c, if_neg c]
      rfl
def dealOK (d : Deal) : Bool := decide (1 ≤ d.1) && decide (d.1 ≤ 7) && decide (d.2.2.2.1 ≤ 999999) && rightF 37 d.2.2.2.2.1 &&
  (if asksK d.1 = true then isFine d.2.1 && decide (d.2.1.length < 20) && decide (d.2.2.1 < 1000000000000) && decide (d.2.2.2.2.2.1 = []) else rightF 39 d.2.2.2.2.2.1 && decide (d.2.1 = []) && decide (d.2.2.1 = 0))
theorem rf11 (s : Txt) : rightF 11 s = (decide (s.length = 6) && isDig s) := by
  have : defOf 11 = some (11, 1, 6, ()) := rfl
  unfold rightF; rw [this]
  simp [sized, ahead, signs, Signs.signsOf]
  by_cases h : s.length = 6 <;> simp [h]; omega
theorem rf4 (s : Txt) : rightF 4 s = (decide (s.length = 12) && isDig s) := by
  have : defOf 4 = some (4, 1, 12, ()) := rfl
  unfold rightF; rw [this]
  simp [sized, ahead, signs, Signs.signsOf]
  by_cases h : s.length = 12 <;> simp [h]; omega
theorem rf90 (s : Txt) : rightF 90 s = (decide (s.length = 42) && isDig s) := by
  have : defOf 90 = some (90, 1, 42, ()) := rfl
  unfold rightF; rw [this]
  simp [sized, ahead, signs, Signs.signsOf]
  by_cases h : s.length = 42 <;> simp [h]; omega
theorem rf2 (s : Txt) : rightF 2 s = (decide (1 ≤ s.length) && decide (s.length ≤ 19) && isDig s) := by
  have : defOf 2 = some (2, 3, 19, ()) := rfl
  unfold rightF; rw [this]
  simp [sized, ahead, signs, Signs.signsOf]
  have : decide ((s.length : Int) ≤ 19) = decide (s.length ≤ 19) := decide_eq_decide.2 (by omega)
  rw [this]
theorem stanT_of {stan : Int} (h0 : 0 ≤ stan) (h : stan ≤ 999999) : stanT stan = digs stan.toNat 6 := by
  unfold stanT putOK
  rw [if_neg (by omega), if_pos (show stan.toNat / 10 ^ (6 : Int).toNat = 0 from Nat.div_eq_of_lt (by show stan.toNat < 10 ^ 6; omega))]
  rfl
theorem stanT_no {stan : Int} (h : ¬ stan ≤ 999999) : stanT stan = [] := by
  unfold stanT putOK
  rw [if_neg (by omega), if_neg]
  show ¬ stan.toNat / 10 ^ 6 = 0
  intro e
  have := (Nat.div_eq_zero_iff).1 e
  omega
theorem amtT_of {amt : Int} (h0 : 0 ≤ amt) (h : amt < 1000000000000) : amtT amt = digs amt.toNat 12 := by
  unfold amtT putOK
  rw [if_neg (by omega), if_pos (show amt.toNat / 10 ^ (12 : Int).toNat = 0 from Nat.div_eq_of_lt (by show amt.toNat < 10 ^ 12; omega))]
  rfl
theorem amtT_no {amt : Int} (h : ¬ amt < 1000000000000) : amtT amt = [] := by
  unfold amtT putOK
  rw [if_neg (by omega), if_neg]
  show ¬ amt.toNat / 10 ^ 12 = 0
  intro e
  have := (Nat.div_eq_zero_iff).1 e
  omega
theorem digs_all : ∀ (n v : Nat), (digs v n).all dgt = true := by
  intro n
  induction n with
  | zero => intro v; rfl
  | succ n ih =>
    intro v
    simp only [digs, List.all_append, ih, List.all_cons, List.all_nil, Bool.and_true, Bool.true_and]
    rw [dgt_iff, chr_toNat (by omega)]
    omega
theorem isDig_of {n v : Nat} (h : 0 < n) : isDig (digs v n) = true := by
  unfold isDig
  rw [digs_all, digs_len, decide_eq_true h]; rfl
theorem rf11_stan {stan : Int} (h0 : 0 ≤ stan) : rightF 11 (stanT stan) = decide (stan ≤ 999999) := by
  by_cases h : stan ≤ 999999
  · rw [rf11, stanT_of h0 h, digs_len, isDig_of (by omega), decide_eq_true h]; rfl
  · rw [rf11, stanT_no h, decide_eq_false h]; rfl
theorem rf4_amt {amt : Int} (h0 : 0 ≤ amt) : rightF 4 (amtT amt) = decide (amt < 1000000000000) := by
  by_cases h : amt < 1000000000000
  · rw [rf4, amtT_of h0 h, digs_len, isDig_of (by omega), decide_eq_true h]; rfl
  · rw [rf4, amtT_no h, decide_eq_false h]; rfl
theorem rf90_origin {stan : Int} (h0 : 0 ≤ stan) (h : stan ≤ 999999) : rightF 90 (originT stan) = true := by
  rw [rf90]
  unfold originT zeros
  rw [stanT_of h0 h]
  have hl : ([48, 49, 48, 48] ++ digs stan.toNat 6 ++ List.replicate 32 (48 : UInt8)).length = 42 := by simp [digs_len]
  have ha : ([48, 49, 48, 48] ++ digs stan.toNat 6 ++ List.replicate 32 (48 : UInt8)).all dgt = true := by
    rw [List.all_append, List.all_append, digs_all]; rfl
  unfold isDig
  rw [hl, ha]; rfl
theorem rf2_fine {pan : Txt} (h : isFine pan = true) : rightF 2 pan = decide (pan.length < 20) := by
  have hd : isDig pan = true := by unfold isFine at h; simp at h; exact h.1
  have hp : 0 < pan.length := by unfold isDig at hd; simp at hd; exact hd.1
  rw [rf2, hd, decide_eq_true (show 1 ≤ pan.length by omega)]
  have : decide (pan.length ≤ 19) = decide (pan.length < 20) := decide_eq_decide.2 (by omega)
  rw [this]; simp
theorem known_type (kind : Int) : knownT (typeK kind) = (decide (1 ≤ kind) && decide (kind ≤ 7)) := by
  by_cases h : kind < 0 ∨ 8 ≤ kind
  · have : typeK kind = [] := by unfold typeK; rw [if_pos h]
    rw [this]
    rcases h with h | h
    · rw [decide_eq_false (show ¬ 1 ≤ kind by omega)]; rfl
    · rw [decide_eq_false (show ¬ kind ≤ 7 by omega), Bool.and_false]; rfl
  · have : kind = 0 ∨ kind = 1 ∨ kind = 2 ∨ kind = 3 ∨ kind = 4 ∨ kind = 5 ∨ kind = 6 ∨ kind = 7 := by omega
    rcases this with rfl | rfl | rfl | rfl | rfl | rfl | rfl | rfl <;> rfl
theorem asks_kind {kind : Int} (h : asksK kind = true) : 1 ≤ kind ∧ kind ≤ 7 := by
  simp [asksK] at h; omega
theorem right_eq (kind : Int) (pan : Txt) (amt stan : Int) (rrn code : Txt) (ha : 0 ≤ amt) (hs : 0 ≤ stan) :
    (if asksK kind = true then decide (code = []) && isFine pan && msgRight (typeK kind, itemsK (kind, pan, amt, stan, rrn, code, ()), ())
     else decide (pan = []) && decide (amt = 0) && msgRight (typeK kind, itemsK (kind, pan, amt, stan, rrn, code, ()), ())) = dealOK (kind, pan, amt, stan, rrn, code, ()) := by
  unfold dealOK msgRight itemsK
  (try simp only [])
  cases hk : asksK kind with
  | true =>
    obtain ⟨k1, k7⟩ := asks_kind hk
    simp only [if_true, known_type, decide_eq_true k1, decide_eq_true k7]
    by_cases hf : isFine pan = true
    · by_cases c : 5 ≤ kind
      · simp only [if_pos c, List.cons_append, List.nil_append, itemsOK, rf2_fine hf, rf4_amt ha, rf11_stan hs]
        by_cases hst : stan ≤ 999999
        · simp only [rf90_origin hs hst, decide_eq_true hst, hf]
          cases rightF 37 rrn <;> by_cases h1 : pan.length < 20 <;> by_cases h2 : amt < 1000000000000 <;> by_cases h3 : code = [] <;> simp [h1, h2, h3]
        · simp [hst]
      · simp only [if_neg c, List.append_nil, itemsOK, rf2_fine hf, rf4_amt ha, rf11_stan hs, hf]
        cases rightF 37 rrn <;> by_cases h0 : stan ≤ 999999 <;> by_cases h1 : pan.length < 20 <;> by_cases h2 : amt < 1000000000000 <;> by_cases h3 : code = [] <;> simp [h0, h1, h2, h3]
    · have hf : isFine pan = false := by simpa using hf
      simp [hf]
  | false =>
    simp only [Bool.false_eq_true, if_false, known_type, itemsOK, rf11_stan hs]
    cases rightF 37 rrn <;> cases rightF 39 code <;> by_cases h0 : stan ≤ 999999 <;> by_cases h1 : pan = [] <;> by_cases h2 : amt = 0 <;> by_cases h3 : 1 ≤ kind <;> by_cases h4 : kind ≤ 7 <;> simp [h0, h1, h2, h3, h4]
theorem itemsK_len (d : Deal) : (itemsK d).length ≤ 5 := by
  unfold itemsK; split
  · split <;> simp
  · simp
theorem itemsK_txt (d : Deal) (L : Nat) (h1 : d.2.1.length ≤ L) (h2 : d.2.2.2.2.1.length ≤ L) (h3 : d.2.2.2.2.2.1.length ≤ L) : ∀ x ∈ itemsK d, x.2.1.length ≤ L + 60 := by
  have a1 : (amtT d.2.2.1).length ≤ 19 := putOK_le _ _
  have a2 : (stanT d.2.2.2.1).length ≤ 19 := putOK_le _ _
  have a3 : (originT d.2.2.2.1).length ≤ 60 := by unfold originT zeros; simp; omega
  intro x hx
  unfold itemsK at hx
  split at hx
  · split at hx
    · simp at hx
      rcases hx with rfl | rfl | rfl | rfl | rfl <;> (try simp only []) <;> omega
    · simp at hx
      rcases hx with rfl | rfl | rfl | rfl <;> (try simp only []) <;> omega
  · simp at hx
    rcases hx with rfl | rfl | rfl <;> (try simp only []) <;> omega
def lens (L : Nat) (d : Deal) : Prop := d.2.1.length ≤ L ∧ d.2.2.2.2.1.length ≤ L ∧ d.2.2.2.2.2.1.length ≤ L
instance (L : Nat) (d : Deal) : Decidable (lens L d) := by unfold lens; infer_instance
def goodD (d : Deal) : Prop := (0 ≤ d.2.2.1 ∧ d.2.2.1 ≤ 18446744073709551615) ∧ 0 ≤ d.2.2.2.1 ∧ d.2.2.2.1 ≤ 4294967295
theorem G71_is (k L : Nat) (hL : L ≤ 1000000) (hk : L + 100 < k) (d : Deal) (hl : lens L d) (hg : goodD d) : G71 k (d, ()) = some (dealOK d, ()) := by
  obtain ⟨kind, pan, amt, stan, rrn, code, ⟨⟩⟩ := d
  obtain ⟨l1, l2, l3⟩ := hl
  obtain ⟨ha, hs⟩ := hg
  (try simp only [] at l1 l2 l3 ha hs)
  rw [← right_eq kind pan amt stan rrn code ha.1 hs.1, G71_eq]
  (try simp only [])
  have hm : G84 k ((typeK kind, itemsK (kind, pan, amt, stan, rrn, code, ()), ()), ()) = some (msgRight (typeK kind, itemsK (kind, pan, amt, stan, rrn, code, ()), ()), ()) := by
    have h5 := itemsK_len (kind, pan, amt, stan, rrn, code, ())
    refine G84_is k (by omega) _ _ (by omega) (by omega) fun x hx => ?_
    have := itemsK_txt (kind, pan, amt, stan, rrn, code, ()) L l1 l2 l3 x hx
    rw [maxLen_eq]; omega
  rw [G105_is, ocall_some, G39_is k pan (by omega) (by omega), ocall_some, G82_is, ocall_some, G83_is k (by omega) kind pan amt stan rrn code ha hs, ocall_some, hm, ocall_some]
  cases asksK kind with
  | true =>
    simp only [sel_true, if_true]
    by_cases c : code = []
    · cases isFine pan <;> simp [c]
    · rw [sel_eq]; simp [c]
  | false =>
    simp only [sel_false, Bool.false_eq_true, if_false]
    by_cases c : pan = []
    · by_cases c2 : amt = 0 <;> simp [c, c2]
    · rw [sel_eq]; simp [c]
end Go.Proofs.YtcgnmecbdleehaaDoor.G
end
section
set_option linter.unusedVariables false
set_option linter.unusedSimpArgs false
namespace Go.Proofs.YtcgnmecbdleehaaDoor.G
open Go Go.Proofs.YtcgnmecbdleehaaDoor Th
theorem chr_dig {e : Nat} (h : e ≤ 9) : (UInt8.ofNat (48 + e)).toNat = 48 + e := chr_toNat (by omega)
theorem chr_dgt {e : Nat} (h : e ≤ 9) : dgt (UInt8.ofNat (48 + e)) = true := by rw [dgt_iff, chr_dig h]; omega
theorem val_snoc (a : Nat) (s : List UInt8) (c : UInt8) : val a (s ++ [c]) = 10 * val a s + (c.toNat - 48) := by
  unfold val; rw [List.foldl_append, List.foldl_cons, List.foldl_nil]
theorem val_digs : ∀ (n v : Nat), val 0 (digs v n) = v % 10 ^ n
  | 0, v => by simp [digs, val, Nat.mod_one]
  | n + 1, v => by
    have h10 : v % 10 < 10 := Nat.mod_lt _ (by omega)
    rw [digs, val_snoc, val_digs n, chr_dig (by omega), Nat.pow_succ, Nat.mul_comm (10 ^ n) 10, Nat.mod_mul]
    omega
theorem digs_dig : ∀ (n v : Nat), (digs v n).all dgt = true
  | 0, _ => rfl
  | n + 1, v => by
    have h10 : v % 10 < 10 := Nat.mod_lt _ (by omega)
    rw [digs, List.all_append, digs_dig n]
    simp only [List.all_cons, List.all_nil, Bool.and_true, Bool.true_and]
    exact chr_dgt (by omega)
theorem isDig_digs (n v : Nat) (h : 0 < n) : isDig (digs v n) = true := by
  simp [isDig, digs_len, digs_dig, h]
theorem chr_back {c : UInt8} (h : dgt c = true) : UInt8.ofNat (48 + (c.toNat - 48)) = c := by
  rw [dgt_iff] at h
  rw [show 48 + (c.toNat - 48) = c.toNat from by omega]
  simp
theorem digs_val : ∀ (n : Nat) (s : List UInt8), s.length = n → s.all dgt = true → digs (val 0 s) n = s ∧ val 0 s < 10 ^ n := by
  intro n
  induction n with
  | zero => intro s hs _; have : s = [] := List.length_eq_zero_iff.1 hs; subst this; exact ⟨rfl, by simp [val]⟩
  | succ n ih =>
    intro s hs hd
    obtain ⟨t, c, rfl⟩ : ∃ t c, s = t ++ [c] := ⟨s.dropLast, s.getLast (by intro h; rw [h] at hs; simp at hs), (List.dropLast_concat_getLast _).symm⟩
    simp only [List.all_append, List.all_cons, List.all_nil, Bool.and_true, Bool.and_eq_true] at hd
    obtain ⟨h1, h2⟩ := ih t (by simpa using hs) hd.1
    have hc := hd.2
    rw [dgt_iff] at hc
    rw [val_snoc]
    have e1 : (10 * val 0 t + (c.toNat - 48)) / 10 = val 0 t := by omega
    have e2 : (10 * val 0 t + (c.toNat - 48)) % 10 = c.toNat - 48 := by omega
    refine ⟨by rw [digs, e1, e2, h1, chr_back hd.2], ?_⟩
    rw [Nat.pow_succ]; omega
theorem get_digs (n v : Nat) (h0 : 0 < n) (h19 : n ≤ 19) (hv : v < 10 ^ n) : getOK (digs v n) = (v, 0) := by
  unfold getOK
  rw [digs_len, if_neg (by omega), if_neg (by omega), isDig_digs n v h0, if_pos rfl, val_digs, Nat.mod_eq_of_lt hv]
theorem toBytes_len (s : List UInt8) : (toBytes s).length = s.length := by simp [toBytes]
theorem ofBytes_toBytes (s : List UInt8) : ofBytes (toBytes s) = s := by
  unfold ofBytes toBytes
  rw [List.map_map]
  conv => rhs; rw [← List.map_id s]
  apply List.map_congr_left
  intro c _
  simp
theorem toBytes_drop (s : List UInt8) (n : Nat) : (toBytes s).drop n = toBytes (s.drop n) := by simp [toBytes, List.map_drop]
theorem len_ok {d : Def} (hd : d ∈ D) {n : Nat} (h : sized d n = true) (ha : ahead d.2.1 ≠ 0) : 1 ≤ n ∧ n < 10 ^ ahead d.2.1 ∧ (n : Int) ≤ d.2.2.1 := by
  obtain ⟨_, _, _, _, h1, h2, h3⟩ := D_all d hd
  unfold sized at h
  rw [if_neg ha] at h
  simp only [Bool.and_eq_true, decide_eq_true_eq] at h
  rcases ahead_cases (kind := d.2.1) with e | e | e
  · exact absurd e ha
  · have := h3 (ahead_two e)
    rw [e]; refine ⟨h.1, ?_, h.2⟩; omega
  · rw [e]; refine ⟨h.1, ?_, h.2⟩; omega
theorem writeF_len (d : Def) (s : List UInt8) : (writeF d s).length = ahead d.2.1 + s.length := by
  unfold writeF
  split
  · rename_i h; rw [h]; omega
  · rw [List.length_append, digs_len]
theorem lenF_write {d : Def} (hd : d ∈ D) (s t : List UInt8) (h : sized d s.length = true) : lenF d (writeF d s ++ t) = ((s.length : Int), 0) := by
  unfold lenF writeF
  by_cases ha : ahead d.2.1 = 0
  · rw [if_pos ha]
    unfold sized at h
    rw [if_pos ha] at h
    simp only [decide_eq_true_eq] at h
    rw [h]
  · obtain ⟨l1, l2, l3⟩ := len_ok hd h ha
    have h19 : ahead d.2.1 ≤ 19 := by rcases ahead_cases (kind := d.2.1) with e | e | e <;> omega
    rw [if_neg ha, if_neg ha, if_neg (by simp [digs_len]), List.append_assoc, List.take_append_of_le_length (by rw [digs_len]; omega), List.take_of_length_le (by rw [digs_len]; omega),
      get_digs _ _ (by omega) h19 l2, if_pos ⟨rfl, by omega⟩, if_neg (by (try simp only []); omega)]
theorem read_write {d : Def} (hd : d ∈ D) (s t : List UInt8) (h : sized d s.length = true) (hs : signs d s = true) : readF d (writeF d s ++ t) = (s, ((writeF d s).length : Int), 0) := by
  have hl := lenF_write hd s t h
  have hw := writeF_len d s
  unfold readF
  rw [hl]
  simp only [if_true]
  have e : ((ahead d.2.1 : Int) + (s.length : Int)).toNat = (writeF d s).length := by omega
  rw [if_neg (by rw [List.length_append]; omega), e, List.take_append_of_le_length (Nat.le_refl _), List.take_of_length_le (Nat.le_refl _)]
  have e2 : (writeF d s).drop (ahead d.2.1) = s := by
    unfold writeF
    split
    · rename_i ha; rw [ha]; rfl
    · rw [List.drop_append_of_le_length (by rw [digs_len]; omega), List.drop_of_length_le (by rw [digs_len]; omega)]; rfl
  rw [e2, if_pos hs, hw]
  simp
theorem read_back {d : Def} (hd : d ∈ D) (b : List UInt8) (h : (readF d b).2.2 = 0) :
    ∃ k : Nat, (readF d b).2.1 = (k : Int) ∧ 0 < k ∧ k ≤ b.length ∧ sized d (readF d b).1.length = true ∧ signs d (readF d b).1 = true ∧ writeF d (readF d b).1 = b.take k := by
  obtain ⟨_, _, _, _, z1, z2, z3⟩ := D_all d hd
  unfold readF at h ⊢
  by_cases c0 : (lenF d b).2 = 0
  · rw [if_pos c0] at h ⊢
    obtain ⟨l1, l2⟩ := lenF_le hd c0
    by_cases c1 : (b.length : Int) < (ahead d.2.1 : Int) + (lenF d b).1
    · rw [if_pos c1] at h; cases h
    · rw [if_neg c1] at h ⊢
      obtain ⟨l, hl⟩ : ∃ l : Nat, (lenF d b).1 = (l : Int) := ⟨(lenF d b).1.toNat, by omega⟩
      rw [hl] at h ⊢ c1 l1 l2
      have e : ((ahead d.2.1 : Int) + (l : Int)).toNat = ahead d.2.1 + l := by omega
      rw [e] at h ⊢
      split at h
      · rename_i hs
        rw [if_pos hs]
        refine ⟨ahead d.2.1 + l, by simp, by omega, by omega, ?_⟩
        have el : ((b.take (ahead d.2.1 + l)).drop (ahead d.2.1)).length = l := by rw [List.length_drop, List.length_take]; omega
        (try simp only [])
        rw [el]
        refine ⟨?_, hs, ?_⟩
        · unfold sized
          unfold lenF at hl
          by_cases ha : ahead d.2.1 = 0
          · rw [if_pos ha] at hl ⊢
            (try simp only [] at hl)
            rw [hl]; simp
          · rw [if_neg ha]
            simp only [Bool.and_eq_true, decide_eq_true_eq]
            omega
        · unfold writeF
          by_cases ha : ahead d.2.1 = 0
          · rw [if_pos ha, ha]; rfl
          · rw [if_neg ha, el]
            have hd2 : digs l (ahead d.2.1) = b.take (ahead d.2.1) := by
              unfold lenF at hl c0
              rw [if_neg ha] at hl c0
              by_cases q : b.length < ahead d.2.1
              · rw [if_pos q] at c0; cases c0
              rw [if_neg q] at hl c0
              by_cases q2 : (getOK (b.take (ahead d.2.1))).2 = 0 ∧ (getOK (b.take (ahead d.2.1))).1 ≠ 0
              · rw [if_pos q2] at hl c0
                by_cases q3 : d.2.2.1 < ((getOK (b.take (ahead d.2.1))).1 : Int)
                · rw [if_pos q3] at c0; cases c0
                · rw [if_neg q3] at hl
                  have hv : (getOK (b.take (ahead d.2.1))).1 = l := by (try simp only [] at hl); omega
                  have hb : (b.take (ahead d.2.1)).length = ahead d.2.1 := by rw [List.length_take]; omega
                  have hg := q2.1
                  unfold getOK at hv hg
                  rw [hb, if_neg ha] at hv hg
                  by_cases q4 : 19 < ahead d.2.1
                  · rw [if_pos q4] at hg; cases hg
                  rw [if_neg q4] at hv hg
                  by_cases q5 : isDig (b.take (ahead d.2.1)) = true
                  · rw [if_pos q5] at hv
                    (try simp only [] at hv)
                    rw [← hv]
                    exact (digs_val _ _ hb (all_of_isDig q5)).1
                  · rw [if_neg q5] at hg; cases hg
              · rw [if_neg q2] at c0; cases c0
            rw [hd2]
            conv => rhs; rw [← List.take_append_drop (ahead d.2.1) (b.take (ahead d.2.1 + l))]
            rw [List.take_take, show min (ahead d.2.1) (ahead d.2.1 + l) = ahead d.2.1 from by omega]
      · cases h
  · rw [if_neg c0] at h; exact absurd h c0
end Go.Proofs.YtcgnmecbdleehaaDoor.G
end
section
set_option linter.unusedVariables false
set_option linter.unusedSimpArgs false
set_option maxRecDepth 100000
namespace Go.Proofs.YtcgnmecbdleehaaDoor.G
open Go Go.Proofs.YtcgnmecbdleehaaDoor Th
def kindT (s : Txt) : Int :=
  if s = [48, 49, 48, 48] then 1 else if s = [48, 49, 49, 48] then 2 else if s = [48, 52, 48, 48] then 3 else if s = [48, 52, 49, 48] then 4 else if s = [48, 52, 50, 48] then 5 else if s = [48, 52, 50, 49] then 6 else if s = [48, 52, 51, 48] then 7 else 0
theorem G127_2_step (k n : Nat) (s t : Txt) (i : Int) (h1 : 1 ≤ i) (h7 : i ≤ 7) (ht : typeK i = t) : G127_2 k (n + 1) (s, i, ()) = sel (decide (t = s)) (some (.inr (i, ()))) (G127_2 k n (s, i + 1, ())) := by
  rw [G127_2_eq, sel_pos h7, G82_is, ocall_some, wrap64 (show -9223372036854775808 ≤ i + 1 by omega) (show i + 1 ≤ 9223372036854775807 by omega), ht]
theorem G127_2_last (k n : Nat) (s : Txt) (i : Int) (h : ¬ i ≤ 7) : G127_2 k (n + 1) (s, i, ()) = some (.inl ()) := by
  rw [G127_2_eq, sel_neg h]
theorem G127_is (k : Nat) (hk : 20 < k) (s : Txt) : G127 k (s, ()) = some (kindT s, ()) := by
  obtain ⟨m, rfl⟩ : ∃ m, k = m + 8 := ⟨k - 8, by omega⟩
  rw [G127_eq]
  (try simp only [])
  rw [G127_2_step (m + 8) (m + 7) s [48, 49, 48, 48] 1 (by omega) (by omega) rfl, G127_2_step (m + 8) (m + 6) s [48, 49, 49, 48] (1 + 1) (by omega) (by omega) rfl, G127_2_step (m + 8) (m + 5) s [48, 52, 48, 48] (1 + 1 + 1) (by omega) (by omega) rfl,
    G127_2_step (m + 8) (m + 4) s [48, 52, 49, 48] (1 + 1 + 1 + 1) (by omega) (by omega) rfl, G127_2_step (m + 8) (m + 3) s [48, 52, 50, 48] (1 + 1 + 1 + 1 + 1) (by omega) (by omega) rfl,
    G127_2_step (m + 8) (m + 2) s [48, 52, 50, 49] (1 + 1 + 1 + 1 + 1 + 1) (by omega) (by omega) rfl, G127_2_step (m + 8) (m + 1) s [48, 52, 51, 48] (1 + 1 + 1 + 1 + 1 + 1 + 1) (by omega) (by omega) rfl,
    G127_2_last (m + 8) m s _ (by omega)]
  unfold kindT
  by_cases h1 : s = [48, 49, 48, 48]
  · rw [sel_pos h1.symm, if_pos h1]; rfl
  rw [sel_neg (fun e => h1 e.symm), if_neg h1]
  by_cases h2 : s = [48, 49, 49, 48]
  · rw [sel_pos h2.symm, if_pos h2]; rfl
  rw [sel_neg (fun e => h2 e.symm), if_neg h2]
  by_cases h3 : s = [48, 52, 48, 48]
  · rw [sel_pos h3.symm, if_pos h3]; rfl
  rw [sel_neg (fun e => h3 e.symm), if_neg h3]
  by_cases h4 : s = [48, 52, 49, 48]
  · rw [sel_pos h4.symm, if_pos h4]; rfl
  rw [sel_neg (fun e => h4 e.symm), if_neg h4]
  by_cases h5 : s = [48, 52, 50, 48]
  · rw [sel_pos h5.symm, if_pos h5]; rfl
  rw [sel_neg (fun e => h5 e.symm), if_neg h5]
  by_cases h6 : s = [48, 52, 50, 49]
  · rw [sel_pos h6.symm, if_pos h6]; rfl
  rw [sel_neg (fun e => h6 e.symm), if_neg h6]
  by_cases h7 : s = [48, 52, 51, 48]
  · rw [sel_pos h7.symm, if_pos h7]; rfl
  rw [sel_neg (fun e => h7 e.symm), if_neg h7]
  rfl
def numM (n : Int) (l : List Item) : Int := (((getOK (getM n l).1).1 : Nat) : Int)
theorem G128_is (k : Nat) (hk : 20 < k) (n : Int) (typ : Txt) (l : List Item) (hl : l.length ≤ 1000000000) (hlk : l.length < k) : G128 k ((typ, l, ()), n, ()) = some (numM n l, ()) := by
  rw [G128_eq, G129_is k n typ l hl hlk, ocall_some, G139_is k _ hk, ocall_some]
  rfl
theorem getOK_lt (s : Txt) : (getOK s).1 < 10 ^ 19 := by
  unfold getOK
  split
  · simp
  split
  · simp
  split
  · rename_i h1 h2 h3
    have := val_lt s 0 (all_of_isDig h3)
    have := pow_le19 (i := s.length) (by omega)
    simp only [Nat.zero_add, Nat.one_mul] at *
    omega
  · simp
theorem numM_good (n : Int) (l : List Item) : 0 ≤ numM n l ∧ numM n l ≤ 18446744073709551615 := by
  have := getOK_lt (getM n l).1
  unfold numM
  constructor
  · omega
  · have e : (10 : Nat) ^ 19 = 10000000000000000000 := rfl
    omega
def mustK (kind : Int) : List Int := if kind = 5 ∨ kind = 6 then [2, 4, 11, 37, 90] else if asksK kind = true then [2, 4, 11, 37] else [11, 37, 39]
theorem items_must (d : Deal) : (itemsK d).map (·.1) = mustK d.1 := by
  unfold itemsK mustK
  by_cases h : asksK d.1 = true
  · rw [if_pos h]
    have hh := h
    simp only [asksK, decide_eq_true_eq] at hh
    by_cases c : 5 ≤ d.1
    · rw [if_pos c, if_pos (by omega)]; rfl
    · rw [if_neg c, if_neg (by omega), if_pos h]; rfl
  · rw [if_neg h]
    have hh := h
    simp only [asksK, decide_eq_true_eq] at hh
    rw [if_neg (by omega), if_neg h]; rfl
def fitsM (l : List Item) (d : Deal) : Bool := decide ((itemsK d).map (·.1) = l.map (·.1))
theorem G130_5_is (k : Nat) (a b : List Item) (typ : Txt) (hab : a.length = b.length) (hl : a.length ≤ 1000000000) : ∀ (j i : Nat), i + j = a.length → ∀ m, j < m →
    G130_5 k m (a, (a.length : Int), (i : Int), typ, b, ()) = some (sel (decide ((a.drop i).map (·.1) = (b.drop i).map (·.1))) (.inl ()) (.inr (false, ()))) := by
  intro j
  induction j with
  | zero =>
    intro i hij m hm
    obtain ⟨m, rfl⟩ : ∃ q, m = q + 1 := ⟨m - 1, by omega⟩
    rw [G130_5_eq, sel_neg (by (try simp only []); omega), List.drop_eq_nil_of_le (by omega), List.drop_eq_nil_of_le (by omega)]
    rfl
  | succ j ih =>
    intro i hij m hm
    obtain ⟨m, rfl⟩ : ∃ q, m = q + 1 := ⟨m - 1, by omega⟩
    have hlt : i < a.length := by omega
    have hlt' : i < b.length := by omega
    rw [G130_5_eq]
    simp only [ofNat_len, Int.toNat_natCast, getD_of hlt, getD_of hlt']
    rw [sel_pos (by omega), sel_pos (by omega), sel_pos (by omega), sel_pos hlt, sel_pos (by omega), sel_pos (by omega), drop_at hlt, drop_at hlt']
    simp only [List.map_cons, List.cons.injEq]
    by_cases c : b[i].1 = a[i].1
    · rw [decide_eq_true c, Bool.not_true, sel_false, wrap64 (by omega) (by omega)]
      have := ih (i + 1) (by omega) m (by omega)
      simp only [Int.natCast_add, Int.natCast_one] at this
      rw [this]
      have e : decide (a[i].1 = b[i].1 ∧ (a.drop (i + 1)).map (·.1) = (b.drop (i + 1)).map (·.1)) = decide ((a.drop (i + 1)).map (·.1) = (b.drop (i + 1)).map (·.1)) := decide_eq_decide.2 ⟨fun h => h.2, fun h => ⟨c.symm, h⟩⟩
      rw [e]
    · rw [decide_eq_false c, Bool.not_false, sel_true, decide_eq_false (fun h => c h.1.symm)]
      rfl
theorem G130_is (k : Nat) (hk : 20 < k) (typ : Txt) (l : List Item) (kind : Int) (pan : Txt) (amt stan : Int) (rrn code : Txt) (ha : 0 ≤ amt ∧ amt ≤ 18446744073709551615) (hs : 0 ≤ stan ∧ stan ≤ 4294967295) :
    G130 k ((typ, l, ()), (kind, pan, amt, stan, rrn, code, ()), ()) = some (fitsM l (kind, pan, amt, stan, rrn, code, ()), ()) := by
  rw [G130_eq]
  (try simp only [])
  rw [G83_is k hk kind pan amt stan rrn code ha hs, ocall_some]
  have h5 := itemsK_len (kind, pan, amt, stan, rrn, code, ())
  unfold fitsM
  simp only [ofNat_len]
  by_cases c : (itemsK (kind, pan, amt, stan, rrn, code, ())).length = l.length
  · rw [decide_eq_true (show ((itemsK (kind, pan, amt, stan, rrn, code, ())).length : Int) = (l.length : Int) by omega), Bool.not_true, sel_false]
    have := G130_5_is k (itemsK (kind, pan, amt, stan, rrn, code, ())) l typ c (by omega) (itemsK (kind, pan, amt, stan, rrn, code, ())).length 0 (by omega) k (by omega)
    simp only [List.drop_zero, Int.natCast_zero] at this
    rw [this, ocall_some]
    cases decide ((itemsK (kind, pan, amt, stan, rrn, code, ())).map (·.1) = l.map (·.1)) <;> rfl
  · rw [decide_eq_false (show ¬ ((itemsK (kind, pan, amt, stan, rrn, code, ())).length : Int) = (l.length : Int) by omega), Bool.not_false, sel_true, decide_eq_false (fun h => c (by have := congrArg List.length h; simpa using this))]
def zeroD : Deal := (0, [], 0, 0, [], [], ())
def deM (m : Msg) : Deal := (kindT m.1, (getM 2 m.2.1).1, numM 4 m.2.1, IntKind.u32.wrap (numM 11 m.2.1), (getM 37 m.2.1).1, (getM 39 m.2.1).1, ())
def readD (m : Msg) : Deal × Int :=
  if msgRight m = true then
    if m.2.1.map (·.1) = mustK (kindT m.1) then
      if asksK (kindT m.1) = true ∧ isFine (getM 2 m.2.1).1 = false then (zeroD, 3)
      else if (kindT m.1 = 5 ∨ kindT m.1 = 6) ∧ (getM 90 m.2.1).1 ≠ [48, 49, 48, 48] ++ (getM 11 m.2.1).1 ++ zeros then (zeroD, 11)
      else (deM m, 0)
    else (zeroD, 3)
  else (zeroD, 1)
theorem wrap32_good (n : Int) : 0 ≤ IntKind.u32.wrap n ∧ IntKind.u32.wrap n ≤ 4294967295 := by
  have : IntKind.u32.wrap n = n % 4294967296 := rfl
  rw [this]; omega
theorem items3 {l : List Item} (h : l.map (·.1) = [11, 37, 39]) : ∃ a b c, l = [(11, a, ()), (37, b, ()), (39, c, ())] := by
  match l, h with
  | [(x, a, ⟨⟩), (y, b, ⟨⟩), (z, c, ⟨⟩)], h =>
    simp only [List.map_cons, List.map_nil, List.cons.injEq, and_true] at h
    obtain ⟨rfl, rfl, rfl⟩ := h
    exact ⟨a, b, c, rfl⟩
theorem items4 {l : List Item} (h : l.map (·.1) = [2, 4, 11, 37]) : ∃ a b c d, l = [(2, a, ()), (4, b, ()), (11, c, ()), (37, d, ())] := by
  match l, h with
  | [(x, a, ⟨⟩), (y, b, ⟨⟩), (z, c, ⟨⟩), (w, d, ⟨⟩)], h =>
    simp only [List.map_cons, List.map_nil, List.cons.injEq, and_true] at h
    obtain ⟨rfl, rfl, rfl, rfl⟩ := h
    exact ⟨a, b, c, d, rfl⟩
theorem items5 {l : List Item} (h : l.map (·.1) = [2, 4, 11, 37, 90]) : ∃ a b c d e, l = [(2, a, ()), (4, b, ()), (11, c, ()), (37, d, ()), (90, e, ())] := by
  match l, h with
  | [(x, a, ⟨⟩), (y, b, ⟨⟩), (z, c, ⟨⟩), (w, d, ⟨⟩), (v, e, ⟨⟩)], h =>
    simp only [List.map_cons, List.map_nil, List.cons.injEq, and_true] at h
    obtain ⟨rfl, rfl, rfl, rfl, rfl⟩ := h
    exact ⟨a, b, c, d, e, rfl⟩
theorem stan_back {s : Txt} (h : rightF 11 s = true) : 0 ≤ IntKind.u32.wrap (((getOK s).1 : Nat) : Int) ∧ IntKind.u32.wrap (((getOK s).1 : Nat) : Int) ≤ 999999 ∧ stanT (IntKind.u32.wrap (((getOK s).1 : Nat) : Int)) = s ∧ s.length = 6 := by
  rw [rf11, Bool.and_eq_true, decide_eq_true_eq] at h
  obtain ⟨hl, hd⟩ := h
  have ha := all_of_isDig hd
  obtain ⟨h1, h2⟩ := digs_val 6 s hl ha
  have e : getOK s = (val 0 s, 0) := by
    unfold getOK
    rw [if_neg (by omega), if_neg (by omega), if_pos hd]
  rw [e]
  (try simp only [])
  have h3 : val 0 s < 1000000 := h2
  rw [wrapu32 (by omega) (by omega)]
  refine ⟨by omega, by omega, ?_, hl⟩
  rw [stanT_of (by omega) (by omega), Int.toNat_natCast, h1]
theorem items_right {m : Msg} (h : msgRight m = true) : itemsOK 0 m.2.1 = true ∧ knownT m.1 = true := by
  unfold msgRight at h
  simp only [Bool.and_eq_true] at h
  exact ⟨h.1.1, h.1.2⟩
theorem kind_five {kind : Int} : (asksK kind = true ∧ 5 ≤ kind) ↔ (kind = 5 ∨ kind = 6) := by
  unfold asksK; simp only [decide_eq_true_eq]; omega
theorem rf37_in {l : List Item} {kind : Int} (hm : l.map (·.1) = mustK kind) (hr : itemsOK 0 l = true) : rightF 37 (getM 37 l).1 = true ∧ rightF 11 (getM 11 l).1 = true := by
  unfold mustK at hm
  split at hm
  · obtain ⟨a, b, c, d, e, rfl⟩ := items5 hm
    simp only [itemsOK, Bool.and_eq_true] at hr
    simp [getM]
    exact ⟨hr.2.2.2.1.2, hr.2.2.1.2⟩
  split at hm
  · obtain ⟨a, b, c, d, rfl⟩ := items4 hm
    simp only [itemsOK, Bool.and_eq_true] at hr
    simp [getM]
    exact ⟨hr.2.2.2.1.2, hr.2.2.1.2⟩
  · obtain ⟨a, b, c, rfl⟩ := items3 hm
    simp only [itemsOK, Bool.and_eq_true] at hr
    simp [getM]
    exact ⟨hr.2.1.2, hr.1.2⟩
theorem origin_of (stan : Int) (s : Txt) (h : stanT stan = s) : originT stan = [48, 49, 48, 48] ++ s ++ zeros := by unfold originT; rw [h]
theorem G109_is (k : Nat) (hk : 2000 < k) (typ : Txt) (l : List Item) (hl : l.length ≤ 1000) (hx : ∀ x ∈ l, x.2.1.length ≤ 1200) :
    G109 k ((typ, l, ()), ()) = some ((readD (typ, l, ())).1, (readD (typ, l, ())).2, ()) := by
  rw [G109_eq]
  (try simp only [])
  rw [G84_is k (by omega) typ l (by omega) (by omega) (fun x h => ⟨by have := hx x h; rw [maxLen_eq]; omega, by have := hx x h; omega⟩), ocall_some]
  unfold readD
  (try simp only [])
  by_cases hr : msgRight (typ, l, ()) = true
  case neg => rw [if_neg hr]; rw [show msgRight (typ, l, ()) = false by simpa using hr]; rfl
  rw [if_pos hr, hr]
  obtain ⟨r1, r2⟩ := items_right hr
  (try simp only [] at r1 r2)
  simp only [Bool.not_true, sel_false]
  have hg : ∀ n, G129 k ((typ, l, ()), n, ()) = some ((getM n l).1, (getM n l).2, ()) := fun n => G129_is k n typ l (by omega) (by omega)
  have hn : ∀ n, G128 k ((typ, l, ()), n, ()) = some (numM n l, ()) := fun n => G128_is k (by omega) n typ l (by omega) (by omega)
  have hd : deM (typ, l, ()) = (kindT typ, (getM 2 l).1, numM 4 l, IntKind.u32.wrap (numM 11 l), (getM 37 l).1, (getM 39 l).1, ()) := rfl
  have l2 := getM_len 2 1200 l hx
  have l37 := getM_len 37 1200 l hx
  have hi := G83_is k (by omega) (kindT typ) (getM 2 l).1 (numM 4 l) (IntKind.u32.wrap (numM 11 l)) (getM 37 l).1 (getM 39 l).1 (numM_good 4 l) (wrap32_good _)
  have hf := G130_is k (by omega) typ l (kindT typ) (getM 2 l).1 (numM 4 l) (IntKind.u32.wrap (numM 11 l)) (getM 37 l).1 (getM 39 l).1 (numM_good 4 l) (wrap32_good _)
  have hq := G39_is k (getM 2 l).1 (by omega) (by omega)
  have h37 := G40_is k (by omega) 37 (getM 37 l).1 (by rw [maxLen_eq]; omega) (by omega)
  simp only [G127_is k (by omega), hn, hg, ocall_some, hf, G105_is, hq, hi, h37]
  unfold fitsM
  rw [items_must]
  (try simp only [])
  by_cases cm : l.map (·.1) = mustK (kindT typ)
  case neg =>
    rw [if_neg cm, decide_eq_false (fun e => cm e.symm)]; rfl
  rw [if_pos cm, decide_eq_true cm.symm]
  obtain ⟨q37, q11⟩ := rf37_in cm r1
  obtain ⟨s0, s1, s2, s3⟩ := stan_back q11
  rw [q37, hd]
  simp only [Bool.not_true, sel_false]
  by_cases ca : asksK (kindT typ) = true
  case neg =>
    have ca' : asksK (kindT typ) = false := by simpa using ca
    rw [ca']
    rw [if_neg (fun e => by cases e.1), if_neg (fun e => ca (kind_five.2 e.1).1)]
    simp only [sel_false]
    by_cases c5 : 5 ≤ kindT typ
    · rw [sel_pos c5]
    · rw [sel_neg c5]
  rw [ca]
  simp only [sel_true, true_and]
  by_cases cf : isFine (getM 2 l).1 = true
  case neg =>
    have cf' : isFine (getM 2 l).1 = false := by simpa using cf
    rw [cf', if_pos rfl]; rfl
  rw [cf, if_neg (by simp)]
  simp only [Bool.not_true, sel_false]
  by_cases c5 : 5 ≤ kindT typ
  case neg =>
    rw [sel_neg c5, if_neg (fun e => c5 (kind_five.2 e.1).2)]
  rw [sel_pos c5]
  have e5 : itemsK (kindT typ, (getM 2 l).1, numM 4 l, IntKind.u32.wrap (numM 11 l), (getM 37 l).1, (getM 39 l).1, ()) = [(2, (getM 2 l).1, ()), (4, amtT (numM 4 l), ()), (11, stanT (IntKind.u32.wrap (numM 11 l)), ()), (37, (getM 37 l).1, ()), (90, originT (IntKind.u32.wrap (numM 11 l)), ())] := by
    unfold itemsK; (try simp only []); rw [if_pos ca, if_pos c5]; rfl
  rw [e5, sel_pos (by simp only [List.length_cons, List.length_nil]; decide), sel_pos (by simp only [List.length_cons, List.length_nil]; decide)]
  have eg : ∀ (a b c d e : Item), (([a, b, c, d, e] : List Item).getD (Int.toNat 4) (OfNat.ofNat 0, [], ())) = e := fun _ _ _ _ _ => rfl
  simp only [eg]
  have e6 : originT (IntKind.u32.wrap (numM 11 l)) = [48, 49, 48, 48] ++ (getM 11 l).1 ++ zeros := origin_of _ _ s2
  rw [e6]
  by_cases co : (getM 90 l).1 = [48, 49, 48, 48] ++ (getM 11 l).1 ++ zeros
  · rw [if_neg (fun e => e.2 co)]
    rw [co]
    rw [sel_not, sel_pos rfl]
  · rw [if_pos ⟨kind_five.1 ⟨ca, c5⟩, co⟩, sel_not, sel_neg co]
    rfl
end Go.Proofs.YtcgnmecbdleehaaDoor.G
end
section
set_option linter.unusedVariables false
set_option linter.unusedSimpArgs false
set_option maxRecDepth 100000
namespace Go.Proofs.YtcgnmecbdleehaaDoor.G
open Go Go.Proofs.YtcgnmecbdleehaaDoor Th
def upd (q : Txt × Int × Int × Txt × Txt × Unit) (x : Item) : Txt × Int × Int × Txt × Txt × Unit :=
  if x.1 = 2 then (x.2.1, q.2) else if x.1 = 4 then (q.1, (((getOK x.2.1).1 : Nat) : Int), q.2.2) else if x.1 = 11 then (q.1, q.2.1, IntKind.u32.wrap (((getOK x.2.1).1 : Nat) : Int), q.2.2.2)
  else if x.1 = 37 then (q.1, q.2.1, q.2.2.1, x.2.1, q.2.2.2.2) else if x.1 = 39 then (q.1, q.2.1, q.2.2.1, q.2.2.2.1, x.2.1, ()) else q
theorem G53_is (k L : Nat) (hL : L ≤ 1000000) (hk : L + 100 < k) (d : Deal) (hl : lens L d) (hg : goodD d) : G53 k (d, ()) = some (if dealOK d = true then ((typeK d.1, itemsK d, ()), 0, ()) else (([], [], ()), 1, ())) := by
  have hR := G71_is k L hL hk d hl hg
  obtain ⟨kind, pan, amt, stan, rrn, code, ⟨⟩⟩ := d
  obtain ⟨ha, hs⟩ := hg
  (try simp only [] at ha hs)
  rw [G53_eq]
  (try simp only [])
  rw [hR, ocall_some, G82_is, ocall_some, G83_is k (by omega) kind pan amt stan rrn code ha hs, ocall_some]
  cases dealOK (kind, pan, amt, stan, rrn, code, ()) <;> rfl
set_option synthInstance.maxSize 2000 in
set_option synthInstance.maxHeartbeats 200000 in
instance decD : DecidableEq Deal := fun a b => inferInstanceAs (Decidable ((a : Int × Txt × Int × Int × Txt × Txt × Unit) = b))
theorem sameD (a b : Deal) : (sameI a.1 b.1 && (sameS a.2.1 b.2.1 && (sameI a.2.2.1 b.2.2.1 && (sameI a.2.2.2.1 b.2.2.2.1 && (sameS a.2.2.2.2.1 b.2.2.2.2.1 && (sameS a.2.2.2.2.2.1 b.2.2.2.2.2.1 && true)))))) = decide (a = b) := by
  obtain ⟨a1, a2, a3, a4, a5, a6, ⟨⟩⟩ := a
  obtain ⟨b1, b2, b3, b4, b5, b6, ⟨⟩⟩ := b
  simp only [sameI, sameS]
  by_cases h : (a1, a2, a3, a4, a5, a6, ()) = (b1, b2, b3, b4, b5, b6, ())
  · rw [decide_eq_true h]
    simp only [Prod.mk.injEq] at h
    obtain ⟨h1, h2, h3, h4, h5, h6, _⟩ := h
    simp [h1, h2, h3, h4, h5, h6]
  · rw [decide_eq_false h]
    simp only [Prod.mk.injEq, and_true] at h
    by_cases h1 : a1 = b1 <;> by_cases h2 : a2 = b2 <;> by_cases h3 : a3 = b3 <;> by_cases h4 : a4 = b4 <;> by_cases h5 : a5 = b5 <;> by_cases h6 : a6 = b6 <;> simp [h1, h2, h3, h4, h5, h6] <;> exact h ⟨h1, h2, h3, h4, h5, h6⟩
end Go.Proofs.YtcgnmecbdleehaaDoor.G
end
section
set_option linter.unusedVariables false
set_option linter.unusedSimpArgs false
set_option maxRecDepth 100000
namespace Go.Proofs.YtcgnmecbdleehaaDoor.G
open Go Go.Proofs.YtcgnmecbdleehaaDoor Th
theorem kindT_type {kind : Int} (h1 : 1 ≤ kind) (h7 : kind ≤ 7) : kindT (typeK kind) = kind := by
  have : kind = 1 ∨ kind = 2 ∨ kind = 3 ∨ kind = 4 ∨ kind = 5 ∨ kind = 6 ∨ kind = 7 := by omega
  rcases this with rfl | rfl | rfl | rfl | rfl | rfl | rfl <;> decide
theorem getOK_stan {stan : Int} (h0 : 0 ≤ stan) (h : stan ≤ 999999) : IntKind.u32.wrap (((getOK (stanT stan)).1 : Nat) : Int) = stan := by
  rw [stanT_of h0 h, get_digs 6 stan.toNat (by omega) (by omega) (by show stan.toNat < 1000000; omega)]
  (try simp only [])
  rw [wrapu32 (by omega) (by omega)]
  omega
theorem getOK_amt {amt : Int} (h0 : 0 ≤ amt) (h : amt < 1000000000000) : (((getOK (amtT amt)).1 : Nat) : Int) = amt := by
  rw [amtT_of h0 h, get_digs 12 amt.toNat (by omega) (by omega) (by show amt.toNat < 1000000000000; omega)]
  (try simp only [])
  omega
theorem ok_parts {d : Deal} (h : dealOK d = true) : 1 ≤ d.1 ∧ d.1 ≤ 7 ∧ d.2.2.2.1 ≤ 999999 ∧ rightF 37 d.2.2.2.2.1 = true ∧
    ((asksK d.1 = true ∧ isFine d.2.1 = true ∧ d.2.1.length < 20 ∧ d.2.2.1 < 1000000000000 ∧ d.2.2.2.2.2.1 = []) ∨ (asksK d.1 = false ∧ rightF 39 d.2.2.2.2.2.1 = true ∧ d.2.1 = [] ∧ d.2.2.1 = 0)) := by
  unfold dealOK at h
  simp only [Bool.and_eq_true, decide_eq_true_eq] at h
  obtain ⟨⟨⟨⟨h1, h2⟩, h3⟩, h4⟩, h5⟩ := h
  refine ⟨h1, h2, h3, h4, ?_⟩
  cases ca : asksK d.1 with
  | true =>
    rw [ca, if_pos rfl] at h5
    simp only [Bool.and_eq_true, decide_eq_true_eq] at h5
    exact .inl ⟨rfl, h5.1.1.1, h5.1.1.2, h5.1.2, h5.2⟩
  | false =>
    rw [ca, if_neg (by simp)] at h5
    simp only [Bool.and_eq_true, decide_eq_true_eq] at h5
    exact .inr ⟨rfl, h5.1.1, h5.1.2, h5.2⟩
theorem ok_right {d : Deal} (hg : goodD d) (h : dealOK d = true) : msgRight (typeK d.1, itemsK d, ()) = true := by
  obtain ⟨kind, pan, amt, stan, rrn, code, ⟨⟩⟩ := d
  have e := right_eq kind pan amt stan rrn code hg.1.1 hg.2.1
  rw [h] at e
  split at e
  · simp only [Bool.and_eq_true] at e; exact e.2
  · simp only [Bool.and_eq_true] at e; exact e.2
theorem read_write_deal {d : Deal} (hg : goodD d) (h : dealOK d = true) : readD (typeK d.1, itemsK d, ()) = (d, 0) := by
  have hm := ok_right hg h
  obtain ⟨h1, h7, h3, h4, h5⟩ := ok_parts h
  unfold readD
  rw [if_pos hm]
  unfold deM
  simp only [kindT_type h1 h7]
  rw [if_pos (items_must d)]
  obtain ⟨kind, pan, amt, stan, rrn, code, ⟨⟩⟩ := d
  obtain ⟨⟨ha0, ha⟩, hs0, hs⟩ := hg
  (try simp only [] at *)
  rcases h5 with ⟨ca, cf, cl, cm, rfl⟩ | ⟨ca, cc, rfl, rfl⟩
  · by_cases c56 : kind = 5 ∨ kind = 6
    · have e5 : itemsK (kind, pan, amt, stan, rrn, [], ()) = [(2, pan, ()), (4, amtT amt, ()), (11, stanT stan, ()), (37, rrn, ()), (90, originT stan, ())] := by
        unfold itemsK; (try simp only []); rw [if_pos ca, if_pos (by omega)]; rfl
      have g2 : (getM 2 [((2 : Int), pan, ()), (4, amtT amt, ()), (11, stanT stan, ()), (37, rrn, ()), (90, originT stan, ())]).1 = pan := by simp [getM]
      have g4 : numM 4 [((2 : Int), pan, ()), (4, amtT amt, ()), (11, stanT stan, ()), (37, rrn, ()), (90, originT stan, ())] = amt := by simp [numM, getM, getOK_amt ha0 cm]
      have g11 : (getM 11 [((2 : Int), pan, ()), (4, amtT amt, ()), (11, stanT stan, ()), (37, rrn, ()), (90, originT stan, ())]).1 = stanT stan := by simp [getM]
      have g11' : IntKind.u32.wrap (numM 11 [((2 : Int), pan, ()), (4, amtT amt, ()), (11, stanT stan, ()), (37, rrn, ()), (90, originT stan, ())]) = stan := by simp [numM, getM, getOK_stan hs0 h3]
      have g37 : (getM 37 [((2 : Int), pan, ()), (4, amtT amt, ()), (11, stanT stan, ()), (37, rrn, ()), (90, originT stan, ())]).1 = rrn := by simp [getM]
      have g39 : (getM 39 [((2 : Int), pan, ()), (4, amtT amt, ()), (11, stanT stan, ()), (37, rrn, ()), (90, originT stan, ())]).1 = [] := by simp [getM]
      have g90 : (getM 90 [((2 : Int), pan, ()), (4, amtT amt, ()), (11, stanT stan, ()), (37, rrn, ()), (90, originT stan, ())]).1 = originT stan := by simp [getM]
      rw [e5, g2, g4, g11, g11', g37, g39, g90, cf, if_neg (by simp), if_neg (fun e => e.2 rfl)]
    · have e4 : itemsK (kind, pan, amt, stan, rrn, [], ()) = [(2, pan, ()), (4, amtT amt, ()), (11, stanT stan, ()), (37, rrn, ())] := by
        unfold itemsK; (try simp only []); rw [if_pos ca, if_neg (fun e => c56 (kind_five.1 ⟨ca, e⟩))]; rfl
      have g2 : (getM 2 [((2 : Int), pan, ()), (4, amtT amt, ()), (11, stanT stan, ()), (37, rrn, ())]).1 = pan := by simp [getM]
      have g4 : numM 4 [((2 : Int), pan, ()), (4, amtT amt, ()), (11, stanT stan, ()), (37, rrn, ())] = amt := by simp [numM, getM, getOK_amt ha0 cm]
      have g11' : IntKind.u32.wrap (numM 11 [((2 : Int), pan, ()), (4, amtT amt, ()), (11, stanT stan, ()), (37, rrn, ())]) = stan := by simp [numM, getM, getOK_stan hs0 h3]
      have g37 : (getM 37 [((2 : Int), pan, ()), (4, amtT amt, ()), (11, stanT stan, ()), (37, rrn, ())]).1 = rrn := by simp [getM]
      have g39 : (getM 39 [((2 : Int), pan, ()), (4, amtT amt, ()), (11, stanT stan, ()), (37, rrn, ())]).1 = [] := by simp [getM]
      rw [e4, g2, g4, g11', g37, g39, cf, if_neg (by simp), if_neg (fun e => c56 e.1)]
  · have e3 : itemsK (kind, [], 0, stan, rrn, code, ()) = [(11, stanT stan, ()), (37, rrn, ()), (39, code, ())] := by
      unfold itemsK; (try simp only []); rw [if_neg (by rw [ca]; simp)]
    have g2 : (getM 2 [((11 : Int), stanT stan, ()), (37, rrn, ()), (39, code, ())]).1 = [] := by simp [getM]
    have g4 : numM 4 [((11 : Int), stanT stan, ()), (37, rrn, ()), (39, code, ())] = 0 := by simp [numM, getM, getOK]
    have g11' : IntKind.u32.wrap (numM 11 [((11 : Int), stanT stan, ()), (37, rrn, ()), (39, code, ())]) = stan := by simp [numM, getM, getOK_stan hs0 h3]
    have g37 : (getM 37 [((11 : Int), stanT stan, ()), (37, rrn, ()), (39, code, ())]).1 = rrn := by simp [getM]
    have g39 : (getM 39 [((11 : Int), stanT stan, ()), (37, rrn, ()), (39, code, ())]).1 = code := by simp [getM]
    rw [e3, g2, g4, g11', g37, g39, if_neg (fun e => by rw [ca] at e; cases e.1), if_neg (fun e => by rw [(kind_five.2 e.1).1] at ca; cases ca)]
end Go.Proofs.YtcgnmecbdleehaaDoor.G
end
section
set_option linter.unusedVariables false
set_option linter.unusedSimpArgs false
set_option maxRecDepth 100000
namespace Go.Proofs.YtcgnmecbdleehaaDoor.G
open Go Go.Proofs.YtcgnmecbdleehaaDoor Th
def lenSum : List (List Int) → Nat
  | [] => 0
  | x :: l => x.length + lenSum l
theorem lenSum_take (L : List (List Int)) : ∀ i, lenSum (L.take i) ≤ lenSum L := by
  induction L with
  | nil => intro i; simp [lenSum]
  | cons x L ih =>
    intro i
    cases i with
    | zero => exact Nat.zero_le _
    | succ i => have := ih i; simp only [List.take_succ_cons, lenSum]; omega
theorem lenSum_snoc (L : List (List Int)) (x : List Int) : lenSum (L ++ [x]) = lenSum L + x.length := by
  induction L with
  | nil => simp [lenSum]
  | cons y L ih => simp only [List.cons_append, lenSum, ih]; omega
theorem lenSum_flat (L : List (List Int)) : L.flatten.length = lenSum L := by
  induction L with
  | nil => rfl
  | cons y L ih => simp only [List.flatten_cons, List.length_append, lenSum, ih]
theorem G88_3_is (k : Nat) (L : List (List Int)) (hL : L.length ≤ 1000000) (hS : lenSum L ≤ 140737488355328) : ∀ (j i : Nat), i + j = L.length → ∀ n, j < n →
    G88_3 k n (L, ((lenSum (L.take i) : Nat) : Int), L, (L.length : Int), (i : Int), ()) = some (L, ((lenSum L : Nat) : Int), ()) := by
  intro j
  induction j with
  | zero =>
    intro i hij n hn
    obtain ⟨n, rfl⟩ : ∃ m, n = m + 1 := ⟨n - 1, by omega⟩
    rw [G88_3_eq, sel_neg (by omega), List.take_of_length_le (by omega)]
  | succ j ih =>
    intro i hij n hn
    obtain ⟨n, rfl⟩ : ∃ m, n = m + 1 := ⟨n - 1, by omega⟩
    have hlt : i < L.length := by omega
    have hs := lenSum_take L (i + 1)
    have e : lenSum (L.take (i + 1)) = lenSum (L.take i) + L[i].length := by rw [List.take_succ_eq_append_getElem hlt, lenSum_snoc]
    have := ih (i + 1) (by omega) n (by omega)
    rw [G88_3_eq, sel_pos (by omega), sel_pos (by omega), sel_pos (by simp only [ofNat_len]; omega)]
    simp only [Int.toNat_natCast, getD_of hlt, ofNat_len]
    rw [wrap64 (n := (i : Int) + 1) (by omega) (by omega), wrap64 (by omega) (by omega), sel_neg (by omega)]
    rw [e] at this
    rw [Int.natCast_add, Int.natCast_add, Int.natCast_one] at this
    exact this
theorem G88_11_is (k : Nat) (L : List (List Int)) (hL : L.length ≤ 1000000) (hS : lenSum L ≤ 140737488355328) : ∀ (j i : Nat), i + j = L.length → ∀ n, j < n →
    G88_11 k n ((L.take i).flatten, L, (L.length : Int), (i : Int), ()) = some (L.flatten, ()) := by
  intro j
  induction j with
  | zero =>
    intro i hij n hn
    obtain ⟨n, rfl⟩ : ∃ m, n = m + 1 := ⟨n - 1, by omega⟩
    rw [G88_11_eq, sel_neg (by omega), List.take_of_length_le (by omega)]
  | succ j ih =>
    intro i hij n hn
    obtain ⟨n, rfl⟩ : ∃ m, n = m + 1 := ⟨n - 1, by omega⟩
    have hlt : i < L.length := by omega
    have hs := lenSum_take L (i + 1)
    have e : (L.take (i + 1)).flatten = (L.take i).flatten ++ L[i] := by rw [List.take_succ_eq_append_getElem hlt, List.flatten_append]; simp
    have e2 := lenSum_flat (L.take (i + 1))
    rw [e, List.length_append] at e2
    have := ih (i + 1) (by omega) n (by omega)
    rw [G88_11_eq, sel_pos (by omega), sel_pos (by omega), sel_pos (by simp only [ofNat_len]; omega)]
    simp only [Int.toNat_natCast, getD_of hlt]
    rw [sel_pos (by omega), wrap64 (by omega) (by omega)]
    rw [e, Int.natCast_add, Int.natCast_one] at this
    exact this
theorem G88_is (k : Nat) (L : List (List Int)) (hL : L.length ≤ 1000000) (hk : L.length < k) (hS : lenSum L ≤ 140737488355328) : G88 k (L, ()) = some (L.flatten, ()) := by
  have h1 := G88_3_is k L hL hS L.length 0 (by omega) k hk
  have h2 := G88_11_is k L hL hS L.length 0 (by omega) k hk
  simp only [List.take_zero, lenSum, Int.natCast_zero, List.flatten_nil] at h1 h2
  rw [G88_eq]
  simp only [ofNat_len]
  rw [h1, ocall_some]
  (try simp only [])
  rw [G114_eq, sel_pos (by omega), sel_pos (by omega), ocall_some, h2, ocall_some]
end Go.Proofs.YtcgnmecbdleehaaDoor.G
end
section
set_option linter.unusedVariables false
set_option linter.unusedSimpArgs false
set_option maxRecDepth 100000
namespace Go.Proofs.YtcgnmecbdleehaaDoor.Bits
open Go Go.Proofs.YtcgnmecbdleehaaDoor Th
theorem b_or {x y : Nat} (hx : x < 18446744073709551616) (hy : y < 18446744073709551616) : bits .or .u64 (x : Int) (y : Int) = ((x ||| y : Nat) : Int) := by
  have hb : (x ||| y) < 2 ^ 64 := Nat.or_lt_two_pow (by omega) (by omega)
  have e : (BitVec.ofInt 64 (x : Int) ||| BitVec.ofInt 64 (y : Int)).toNat = x ||| y := by
    rw [BitVec.toNat_or, BitVec.ofInt_natCast, BitVec.ofInt_natCast, BitVec.toNat_ofNat, BitVec.toNat_ofNat, Nat.mod_eq_of_lt (by omega), Nat.mod_eq_of_lt (by omega)]
  show IntKind.u64.wrap (((BitVec.ofInt 64 (x : Int) ||| BitVec.ofInt 64 (y : Int)).toNat : Nat) : Int) = _
  rw [e]
  exact wrapu64 (by omega) (by omega)
theorem b_and {x y : Nat} (hx : x < 18446744073709551616) (hy : y < 18446744073709551616) : bits .and .u64 (x : Int) (y : Int) = ((x &&& y : Nat) : Int) := by
  have hb : (x &&& y) < 2 ^ 64 := Nat.and_lt_two_pow _ (by omega)
  have e : (BitVec.ofInt 64 (x : Int) &&& BitVec.ofInt 64 (y : Int)).toNat = x &&& y := by
    rw [BitVec.toNat_and, BitVec.ofInt_natCast, BitVec.ofInt_natCast, BitVec.toNat_ofNat, BitVec.toNat_ofNat, Nat.mod_eq_of_lt (by omega), Nat.mod_eq_of_lt (by omega)]
  show IntKind.u64.wrap (((BitVec.ofInt 64 (x : Int) &&& BitVec.ofInt 64 (y : Int)).toNat : Nat) : Int) = _
  rw [e]
  exact wrapu64 (by omega) (by omega)
theorem pow_lt {n : Nat} (h : n < 64) : 2 ^ n < 18446744073709551616 := Nat.pow_lt_pow_right (a := 2) (by omega) h
theorem pow_pos (n : Nat) : 0 < 2 ^ n := Nat.two_pow_pos n
theorem top_shift {n : Nat} (h1 : 1 ≤ n) (h : n ≤ 64) : Int.fdiv 9223372036854775808 ((2 : Int) ^ min (n - 1) 64) = ((2 ^ (64 - n) : Nat) : Int) := by
  rw [Nat.min_eq_left (by omega)]
  have e : (9223372036854775808 : Int) = (((2 ^ (64 - n)) * (2 ^ (n - 1)) : Nat) : Int) := by
    rw [← Nat.pow_add]
    rw [show 64 - n + (n - 1) = 63 by omega]
    rfl
  have e2 : (2 : Int) ^ (n - 1) = ((2 ^ (n - 1) : Nat) : Int) := by rw [Int.natCast_pow]; rfl
  rw [e, e2, ← Int.ofNat_fdiv, Nat.mul_div_cancel _ (pow_pos _)]
theorem and_pow {w k : Nat} : ((w &&& 2 ^ k) = 0) ↔ w.testBit k = false := by
  constructor
  · intro h
    have := congrArg (fun x => x.testBit k) h
    simpa [Nat.testBit_and, Nat.testBit_two_pow] using this
  · intro h
    apply Nat.eq_of_testBit_eq
    intro i
    rw [Nat.testBit_and, Nat.testBit_two_pow, Nat.zero_testBit]
    by_cases e : k = i
    · subst e; rw [h]; rfl
    · rw [decide_eq_false e, Bool.and_false]
theorem or_test (w k j : Nat) : (w ||| 2 ^ k).testBit j = (w.testBit j || decide (k = j)) := by rw [Nat.testBit_or, Nat.testBit_two_pow]
theorem or_lt {w k : Nat} (hw : w < 18446744073709551616) (hk : k < 64) : (w ||| 2 ^ k) < 18446744073709551616 := Nat.or_lt_two_pow (n := 64) hw (pow_lt hk)
theorem or_self {w k : Nat} (h : w.testBit k = true) : (w ||| 2 ^ k) = w := by
  apply Nat.eq_of_testBit_eq
  intro i
  rw [or_test]
  by_cases e : k = i
  · subst e; rw [h]; rfl
  · rw [decide_eq_false e, Bool.or_false]
theorem high_zero {w j : Nat} (hw : w < 18446744073709551616) (hj : 64 ≤ j) : w.testBit j = false :=
  Nat.testBit_lt_two_pow (Nat.lt_of_lt_of_le hw (Nat.pow_le_pow_right (n := 2) (by omega) hj))
def be8 (w : Nat) : List Int := [((w / 72057594037927936 % 256 : Nat) : Int), ((w / 281474976710656 % 256 : Nat) : Int), ((w / 1099511627776 % 256 : Nat) : Int), ((w / 4294967296 % 256 : Nat) : Int),
  ((w / 16777216 % 256 : Nat) : Int), ((w / 65536 % 256 : Nat) : Int), ((w / 256 % 256 : Nat) : Int), ((w % 256 : Nat) : Int)]
def num8 (l : List Int) : Nat := l.foldl (fun a c => 256 * a + c.toNat) 0
def byteOK (c : Int) : Prop := 0 ≤ c ∧ c ≤ 255
theorem be8_len (w : Nat) : (be8 w).length = 8 := rfl
theorem be8_bytes (w : Nat) : ∀ c ∈ be8 w, byteOK c := by
  intro c hc
  simp only [be8, List.mem_cons, List.not_mem_nil, or_false] at hc
  unfold byteOK
  rcases hc with rfl | rfl | rfl | rfl | rfl | rfl | rfl | rfl <;> omega
theorem num8_be8 {w : Nat} (h : w < 18446744073709551616) : num8 (be8 w) = w := by
  simp only [num8, be8, List.foldl_cons, List.foldl_nil, Int.toNat_natCast]
  omega
theorem eight {l : List Int} (h : l.length = 8) : ∃ a b c d e f g i, l = [a, b, c, d, e, f, g, i] := by
  match l, h with
  | [a, b, c, d, e, f, g, i], _ => exact ⟨a, b, c, d, e, f, g, i, rfl⟩
theorem num8_lt {l : List Int} (h : l.length = 8) (hb : ∀ c ∈ l, byteOK c) : num8 l < 18446744073709551616 := by
  obtain ⟨a, b, c, d, e, f, g, i, rfl⟩ := eight h
  simp only [List.mem_cons, List.not_mem_nil, or_false, forall_eq_or_imp, forall_eq, byteOK] at hb
  simp only [num8, List.foldl_cons, List.foldl_nil]
  omega
theorem be8_num8 {l : List Int} (h : l.length = 8) (hb : ∀ c ∈ l, byteOK c) : be8 (num8 l) = l := by
  obtain ⟨a, b, c, d, e, f, g, i, rfl⟩ := eight h
  simp only [List.mem_cons, List.not_mem_nil, or_false, forall_eq_or_imp, forall_eq, byteOK] at hb
  obtain ⟨a, rfl⟩ := Int.eq_ofNat_of_zero_le hb.1.1
  obtain ⟨b, rfl⟩ := Int.eq_ofNat_of_zero_le hb.2.1.1
  obtain ⟨c, rfl⟩ := Int.eq_ofNat_of_zero_le hb.2.2.1.1
  obtain ⟨d, rfl⟩ := Int.eq_ofNat_of_zero_le hb.2.2.2.1.1
  obtain ⟨e, rfl⟩ := Int.eq_ofNat_of_zero_le hb.2.2.2.2.1.1
  obtain ⟨f, rfl⟩ := Int.eq_ofNat_of_zero_le hb.2.2.2.2.2.1.1
  obtain ⟨g, rfl⟩ := Int.eq_ofNat_of_zero_le hb.2.2.2.2.2.2.1.1
  obtain ⟨i, rfl⟩ := Int.eq_ofNat_of_zero_le hb.2.2.2.2.2.2.2.1
  simp only [num8, be8, List.foldl_cons, List.foldl_nil, Int.toNat_natCast, List.cons.injEq, and_true]
  refine ⟨?_, ?_, ?_, ?_, ?_, ?_, ?_, ?_⟩ <;> omega
theorem shl_or {a c : Nat} (ha : a < 72057594037927936) (hc : c < 256) : bits .or .u64 (IntKind.u64.wrap ((a : Int) * 256)) (IntKind.u64.wrap (c : Int)) = ((256 * a + c : Nat) : Int) := by
  rw [show (a : Int) * 256 = ((a * 256 : Nat) : Int) by omega, wrapu64 (by omega) (by omega), wrapu64 (by omega) (by omega), b_or (by omega) (by omega)]
  have := Nat.shiftLeft_add_eq_or_of_lt (b := c) (i := 8) (by omega) a
  rw [Nat.shiftLeft_eq] at this
  rw [← this]
  omega
end Go.Proofs.YtcgnmecbdleehaaDoor.Bits
end
section
set_option linter.unusedVariables false
set_option linter.unusedSimpArgs false
set_option maxRecDepth 100000
namespace Go.Proofs.YtcgnmecbdleehaaDoor.G
open Go Go.Proofs.YtcgnmecbdleehaaDoor Th Bits
abbrev BM := Int × Int × Unit
def goodB (m : BM) : Prop := (0 ≤ m.1 ∧ m.1 < 18446744073709551616) ∧ 0 ≤ m.2.1 ∧ m.2.1 < 18446744073709551616
def bitB (m : BM) (n : Nat) : Bool := if n ≤ 64 then m.1.toNat.testBit (64 - n) else m.2.1.toNat.testBit (128 - n)
def rightB (m : BM) : Bool := !bitB m 65 && (bitB m 1 == !decide (m.2.1 = 0))
def fieldB (n : Int) : Bool := decide (2 ≤ n) && decide (n ≤ 128) && !decide (n = 65)
def hasB (m : BM) (n : Int) : Bool := fieldB n && bitB m n.toNat
def setB (m : BM) (n : Nat) : BM := if n ≤ 64 then (((m.1.toNat ||| 2 ^ (64 - n) : Nat) : Int), m.2.1, ()) else (((m.1.toNat ||| 2 ^ 63 : Nat) : Int), ((m.2.1.toNat ||| 2 ^ (128 - n) : Nat) : Int), ())
def putB (m : BM) (n : Int) : BM × Int := if rightB m = true ∧ fieldB n = true then (setB m n.toNat, 0) else (m, 1)
theorem fieldB_iff {n : Int} : fieldB n = true ↔ 2 ≤ n ∧ n ≤ 128 ∧ n ≠ 65 := by unfold fieldB; simp [and_assoc]
theorem G132_is (k : Nat) (n hi lo : Int) (h1 : 1 ≤ n) (h2 : n ≤ 128) : G132 k (n, hi, lo, ()) =
    if n ≤ 64 then some (.inl (((2 ^ (64 - n.toNat) : Nat) : Int), hi, lo, ())) else some (.inr (((2 ^ (128 - n.toNat) : Nat) : Int), hi, lo, ())) := by
  obtain ⟨m, rfl⟩ : ∃ m : Nat, n = m := ⟨n.toNat, by omega⟩
  rw [G132_eq]
  by_cases c : (m : Int) ≤ 64
  · rw [sel_pos c, if_pos c, wrap64 (by omega) (by omega), sel_pos (by omega), show ((m : Int) - 1).toNat = m - 1 by omega, top_shift (by omega) (by omega), Int.toNat_natCast]
  · rw [sel_neg c, if_neg c, wrap64 (n := (m : Int) - 64) (by omega) (by omega), wrap64 (by omega) (by omega), sel_pos (by omega), show ((m : Int) - 64 - 1).toNat = (m - 64) - 1 by omega, top_shift (by omega) (by omega), Int.toNat_natCast,
      show 64 - (m - 64) = 128 - m by omega]
theorem nat_of {x : Int} (h : 0 ≤ x ∧ x < 18446744073709551616) : ∃ n : Nat, x = n ∧ n < 18446744073709551616 := ⟨x.toNat, by omega, by omega⟩
theorem G133_is (k : Nat) (m : BM) (hg : goodB m) (n : Int) (h1 : 1 ≤ n) (h2 : n ≤ 128) : G133 k (m, n, ()) = some (bitB m n.toNat, ()) := by
  obtain ⟨hi, lo, ⟨⟩⟩ := m
  obtain ⟨hi, rfl, hh⟩ := nat_of hg.1
  obtain ⟨lo, rfl, hl⟩ := nat_of hg.2
  rw [G133_eq, G132_is k n _ _ h1 h2]
  unfold bitB
  have key : ∀ (w e : Nat), w < 18446744073709551616 → e < 64 → (!decide (bits .and .u64 (w : Int) ((2 ^ e : Nat) : Int) = 0)) = w.testBit e := by
    intro w e hw he
    rw [b_and hw (pow_lt he)]
    cases ht : w.testBit e with
    | false => rw [and_pow.2 ht]; rfl
    | true =>
      have : ¬ ((w &&& 2 ^ e : Nat) : Int) = 0 := fun h => by
        have h' : (w &&& 2 ^ e) = 0 := by omega
        rw [and_pow.1 h'] at ht; cases ht
      rw [decide_eq_false this]; rfl
  by_cases c : n ≤ 64
  · rw [if_pos c, if_pos (by omega), ocall_some, esel_inl]
    simp only [Int.toNat_natCast]
    rw [key hi _ hh (by omega)]
  · rw [if_neg c, if_neg (by omega), ocall_some, esel_inr]
    simp only [Int.toNat_natCast]
    rw [key lo _ hl (by omega)]
theorem G112_is (k : Nat) (m : BM) (hg : goodB m) : G112 k (m, ()) = some (rightB m, ()) := by
  have h65 := G133_is k m hg 65 (by omega) (by omega)
  have h1 := G133_is k m hg 1 (by omega) (by omega)
  obtain ⟨hi, lo, ⟨⟩⟩ := m
  rw [G112_eq, h65, ocall_some, h1]
  unfold rightB
  show sel (!bitB (hi, lo, ()) 65) _ _ = _
  cases bitB (hi, lo, ()) 65 <;> rfl
theorem G131_is (k : Nat) (n : Int) : G131 k (n, ()) = some (fieldB n, ()) := by
  rw [G131_eq]
  unfold fieldB
  by_cases c1 : 1 < n
  · rw [sel_pos c1, decide_eq_true (show 2 ≤ n by omega)]
    by_cases c2 : n ≤ 128
    · rw [sel_pos c2, decide_eq_true c2]; rfl
    · rw [sel_neg c2, decide_eq_false c2]; rfl
  · rw [sel_neg c1, decide_eq_false (show ¬ 2 ≤ n by omega)]; rfl
theorem G143_is (k : Nat) (m : BM) (hg : goodB m) (n : Int) : G143 k (m, n, ()) = some (hasB m n, ()) := by
  obtain ⟨hi, lo, ⟨⟩⟩ := m
  rw [G143_eq, G131_is, ocall_some]
  unfold hasB
  cases hf : fieldB n with
  | false => rfl
  | true =>
    have := fieldB_iff.1 hf
    rw [G133_is k _ hg n (by omega) (by omega)]; rfl
theorem setB_good {m : BM} (hg : goodB m) {n : Nat} (h1 : 1 ≤ n) (h2 : n ≤ 128) : goodB (setB m n) := by
  obtain ⟨hi, lo, ⟨⟩⟩ := m
  obtain ⟨hi, rfl, hh⟩ := nat_of hg.1
  obtain ⟨lo, rfl, hl⟩ := nat_of hg.2
  unfold setB
  by_cases c : n ≤ 64
  · rw [if_pos c]
    have := or_lt (k := 64 - n) hh (by omega)
    refine ⟨⟨by (try simp only []); omega, ?_⟩, ⟨by (try simp only []); omega, by (try simp only []); omega⟩⟩
    simp only [Int.toNat_natCast]; omega
  · rw [if_neg c]
    have h3 := or_lt (k := 63) hh (by omega)
    have h4 := or_lt (k := 128 - n) hl (by omega)
    refine ⟨⟨by (try simp only []); omega, ?_⟩, ⟨by (try simp only []); omega, ?_⟩⟩
    · simp only [Int.toNat_natCast]; omega
    · simp only [Int.toNat_natCast]; omega
theorem setB_bit {m : BM} {n : Nat} (h1 : 1 ≤ n) (h2 : n ≤ 128) {j : Nat} (j1 : 1 ≤ j) (j2 : j ≤ 128) : bitB (setB m n) j = (bitB m j || decide (j = n) || decide (64 < n ∧ j = 1)) := by
  obtain ⟨hi, lo, ⟨⟩⟩ := m
  unfold setB bitB
  by_cases c : n ≤ 64
  · rw [if_pos c, decide_eq_false (show ¬ (64 < n ∧ j = 1) by omega), Bool.or_false]
    by_cases d : j ≤ 64
    · rw [if_pos d, if_pos d]
      simp only [Int.toNat_natCast]
      rw [or_test, show decide (64 - n = 64 - j) = decide (j = n) from decide_eq_decide.2 (by omega)]
    · rw [if_neg d, if_neg d, decide_eq_false (show ¬ j = n by omega), Bool.or_false]
  · rw [if_neg c]
    by_cases d : j ≤ 64
    · rw [if_pos d, if_pos d]
      simp only [Int.toNat_natCast]
      rw [or_test, decide_eq_false (show ¬ j = n by omega), Bool.or_false, show decide (63 = 64 - j) = decide (64 < n ∧ j = 1) from decide_eq_decide.2 (by omega)]
    · rw [if_neg d, if_neg d, decide_eq_false (show ¬ (64 < n ∧ j = 1) by omega), Bool.or_false]
      simp only [Int.toNat_natCast]
      rw [or_test, show decide (128 - n = 128 - j) = decide (j = n) from decide_eq_decide.2 (by omega)]
theorem or_ne (w k : Nat) : (w ||| 2 ^ k) ≠ 0 := fun h => by
  have := or_test w k k
  rw [h, Nat.zero_testBit, decide_eq_true rfl, Bool.or_true] at this
  cases this
theorem rightB_iff {m : BM} : rightB m = true ↔ bitB m 65 = false ∧ (bitB m 1 = true ↔ m.2.1 ≠ 0) := by
  unfold rightB
  cases bitB m 65 <;> cases bitB m 1 <;> by_cases c : m.2.1 = 0 <;> simp [c]
theorem setB_right {m : BM} (hr : rightB m = true) {n : Nat} (h1 : 2 ≤ n) (h2 : n ≤ 128) (h3 : n ≠ 65) : rightB (setB m n) = true := by
  obtain ⟨r1, r2⟩ := rightB_iff.1 hr
  refine rightB_iff.2 ⟨?_, ?_⟩
  · rw [setB_bit (by omega) h2 (by omega) (by omega), r1, decide_eq_false (fun e => h3 e.symm), decide_eq_false (by omega)]; rfl
  · rw [setB_bit (by omega) h2 (by omega) (by omega)]
    unfold setB
    by_cases c : n ≤ 64
    · rw [if_pos c, decide_eq_false (show ¬ 1 = n by omega), decide_eq_false (by omega), Bool.or_false, Bool.or_false]; exact r2
    · rw [if_neg c, decide_eq_true (show 64 < n ∧ 1 = 1 by omega), Bool.or_true]
      refine ⟨fun _ => ?_, fun _ => rfl⟩
      have := or_ne m.2.1.toNat (128 - n)
      (try simp only []); omega
theorem G111_is (k : Nat) (m : BM) (hg : goodB m) (n : Int) : G111 k (m, n, ()) = some ((putB m n).1, (putB m n).2, ()) := by
  have hR := G112_is k m hg
  obtain ⟨hi, lo, ⟨⟩⟩ := m
  rw [G111_eq, hR, ocall_some]
  unfold putB
  cases hr : rightB (hi, lo, ()) with
  | false => rw [if_neg (by simp)]; rfl
  | true =>
  simp only [Bool.not_true, sel_false]
  rw [G131_is, ocall_some]
  cases hf : fieldB n with
  | false => rw [if_neg (by simp)]; rfl
  | true =>
  rw [if_pos (by simp)]
  simp only [Bool.not_true, sel_false]
  obtain ⟨f1, f2, f3⟩ := fieldB_iff.1 hf
  obtain ⟨n, rfl⟩ : ∃ m : Nat, n = m := ⟨n.toNat, by omega⟩
  obtain ⟨hi, rfl, hh⟩ := nat_of hg.1
  obtain ⟨lo, rfl, hl⟩ := nat_of hg.2
  obtain ⟨r1, r2⟩ := rightB_iff.1 hr
  rw [G132_is k n _ _ (by omega) f2]
  unfold setB
  simp only [Int.toNat_natCast]
  by_cases c : (n : Int) ≤ 64
  · rw [if_pos c, if_pos (by omega), ocall_some, esel_inl]
    (try simp only [])
    rw [b_or hh (pow_lt (by omega))]
    by_cases hz : (lo : Int) = 0
    · rw [sel_not, sel_pos hz]
    · rw [sel_not, sel_neg hz]
      have hb : hi.testBit 63 = true := by have := r2.2 hz; simpa [bitB] using this
      have h2 := or_lt (k := 64 - n) hh (by omega)
      have e63 : (9223372036854775808 : Int) = ((2 ^ 63 : Nat) : Int) := by rfl
      rw [e63, b_or h2 (pow_lt (by omega)), or_self (by rw [or_test, hb]; rfl)]
  · rw [if_neg c, if_neg (by omega), ocall_some, esel_inr]
    (try simp only [])
    rw [b_or hl (pow_lt (by omega))]
    have := or_ne lo (128 - n)
    rw [sel_not, sel_neg (by omega)]
    have e63 : (9223372036854775808 : Int) = ((2 ^ 63 : Nat) : Int) := by rfl
    rw [e63, b_or hh (pow_lt (by omega))]
def fieldsFrom (m : BM) : Nat → Nat → List Int
  | _, 0 => []
  | n, j + 1 => (if hasB m n = true then [(n : Int)] else []) ++ fieldsFrom m (n + 1) j
def fieldsB (m : BM) : List Int := fieldsFrom m 2 127
theorem fieldsFrom_len (m : BM) : ∀ (j n : Nat), (fieldsFrom m n j).length ≤ j := by
  intro j
  induction j with
  | zero => intro n; simp [fieldsFrom]
  | succ j ih => intro n; have := ih (n + 1); unfold fieldsFrom; rw [List.length_append]; split <;> simp <;> omega
theorem fieldsFrom_mem (m : BM) : ∀ (j n : Nat) (x : Int), x ∈ fieldsFrom m n j ↔ ((n : Int) ≤ x ∧ x < n + j ∧ hasB m x = true) := by
  intro j
  induction j with
  | zero => intro n x; simp only [fieldsFrom, List.not_mem_nil, false_iff]; omega
  | succ j ih =>
    intro n x
    unfold fieldsFrom
    rw [List.mem_append, ih]
    by_cases c : hasB m n = true
    · rw [if_pos c, List.mem_singleton]
      constructor
      · rintro (rfl | ⟨a, b, d⟩)
        · exact ⟨by omega, by omega, c⟩
        · exact ⟨by omega, by omega, d⟩
      · rintro ⟨a, b, d⟩
        by_cases e : x = n
        · exact .inl e
        · exact .inr ⟨by omega, by omega, d⟩
    · rw [if_neg c]
      constructor
      · rintro (h | ⟨a, b, d⟩)
        · cases h
        · exact ⟨by omega, by omega, d⟩
      · rintro ⟨a, b, d⟩
        refine .inr ⟨?_, by omega, d⟩
        by_cases e : x = n
        · subst e; exact absurd d c
        · omega
theorem fieldsB_mem (m : BM) (x : Int) : x ∈ fieldsB m ↔ hasB m x = true := by
  unfold fieldsB
  rw [fieldsFrom_mem]
  constructor
  · exact fun h => h.2.2
  · intro h
    refine ⟨?_, ?_, h⟩ <;>
    · unfold hasB at h
      simp only [Bool.and_eq_true] at h
      have := fieldB_iff.1 h.1
      omega
theorem fieldsFrom_sorted (m : BM) : ∀ (j n : Nat), (fieldsFrom m n j).Pairwise (· < ·) := by
  intro j
  induction j with
  | zero => intro n; simp [fieldsFrom]
  | succ j ih =>
    intro n
    unfold fieldsFrom
    rw [List.pairwise_append]
    refine ⟨by split <;> simp, ih _, fun a ha b hb => ?_⟩
    have := (fieldsFrom_mem m j (n + 1) b).1 hb
    split at ha
    · simp only [List.mem_singleton] at ha; omega
    · cases ha
theorem G137_g0_is (k : Nat) (m : BM) (hg : goodB m) : ∀ (j n : Nat), n + (j + 1) = 129 → 2 ≤ n → ∀ (acc : List Int) (c : Nat), acc.length ≤ n → j + 1 ≤ c →
    G137_g0 k c (acc, (n : Int), m.1, m.2.1, ()) = some (acc ++ fieldsFrom m n (j + 1), ()) := by
  obtain ⟨hi, lo, ⟨⟩⟩ := m
  intro j
  induction j with
  | zero =>
    intro n hn h2 acc c ha hc
    obtain ⟨c, rfl⟩ : ∃ d, c = d + 1 := ⟨c - 1, by omega⟩
    rw [G137_g0_eq, G143_is k _ hg, ocall_some]
    unfold fieldsFrom fieldsFrom
    cases hasB (hi, lo, ()) n with
    | false => rw [sel_false, wrap64 (by omega) (by omega), sel_neg (by omega)]; simp
    | true => rw [sel_true, sel_pos (by omega), wrap64 (by omega) (by omega), sel_neg (by omega)]; simp
  | succ j ih =>
    intro n hn h2 acc c ha hc
    obtain ⟨c, rfl⟩ : ∃ d, c = d + 1 := ⟨c - 1, by omega⟩
    rw [G137_g0_eq, G143_is k _ hg, ocall_some]
    rw [show fieldsFrom (hi, lo, ()) n (j + 1 + 1) = (if hasB (hi, lo, ()) n = true then [(n : Int)] else []) ++ fieldsFrom (hi, lo, ()) (n + 1) (j + 1) from rfl]
    have e : (n : Int) + 1 = ((n + 1 : Nat) : Int) := by omega
    cases hasB (hi, lo, ()) n with
    | false =>
      rw [sel_false, wrap64 (by omega) (by omega), sel_pos (by omega), e, ih (n + 1) (by omega) (by omega) acc c (by omega) (by omega)]; simp
    | true =>
      rw [sel_true, sel_pos (by omega), wrap64 (by omega) (by omega), sel_pos (by omega), e, ih (n + 1) (by omega) (by omega) (acc ++ [(n : Int)]) c (by simp; omega) (by omega)]; simp
theorem G137_is (k : Nat) (hk : 200 < k) (m : BM) (hg : goodB m) : G137 k (m, ()) = some (fieldsB m, ()) := by
  have hl := fun acc h => G137_g0_is k m hg 125 3 (by omega) (by omega) acc k h (by omega)
  have hh := G143_is k m hg 2
  obtain ⟨hi, lo, ⟨⟩⟩ := m
  rw [G137_eq, hh, ocall_some]
  unfold fieldsB
  rw [show fieldsFrom (hi, lo, ()) 2 127 = (if hasB (hi, lo, ()) (2 : Nat) = true then [((2 : Nat) : Int)] else []) ++ fieldsFrom (hi, lo, ()) 3 126 from rfl]
  have e : IntKind.i64.wrap (2 + 1) = ((3 : Nat) : Int) := by rfl
  have e2 : hasB (hi, lo, ()) ((2 : Nat) : Int) = hasB (hi, lo, ()) 2 := rfl
  rw [e2, e]
  cases hasB (hi, lo, ()) 2 with
  | false => simp only [sel_false]; rw [hl [] (by simp), ocall_some]; simp
  | true => simp only [sel_true]; rw [hl [2] (by simp), ocall_some]; simp
def ofB : BM → List Int → BM × Int
  | m, [] => (m, 0)
  | m, n :: l => if (putB m n).2 = 0 then ofB (putB m n).1 l else ((0, 0, ()), (putB m n).2)
theorem putB_good {m : BM} (hg : goodB m) (n : Int) : goodB (putB m n).1 := by
  unfold putB
  split
  · rename_i h
    obtain ⟨f1, f2, f3⟩ := fieldB_iff.1 h.2
    exact setB_good hg (by omega) (by omega)
  · exact hg
theorem putB_err (m : BM) (n : Int) : (putB m n).2 = 0 ∨ (putB m n).2 = 1 := by unfold putB; split <;> simp
theorem G86_3_is (k : Nat) (l : List Int) (hl : l.length ≤ 1000000000) : ∀ (j i : Nat), i + j = l.length → ∀ (m : BM), goodB m → ∀ n, j < n →
    G86_3 k n (l, (l.length : Int), (i : Int), 0, 0, m.1, m.2.1, ()) = some (if (ofB m (l.drop i)).2 = 0 then .inl (0, 0, (ofB m (l.drop i)).1.1, (ofB m (l.drop i)).1.2.1, ()) else .inr ((ofB m (l.drop i)).2, 0, 0, ())) := by
  intro j
  induction j with
  | zero =>
    intro i hij m hg n hn
    obtain ⟨n, rfl⟩ : ∃ m, n = m + 1 := ⟨n - 1, by omega⟩
    rw [G86_3_eq, sel_neg (by omega), List.drop_eq_nil_of_le (by omega)]
    rfl
  | succ j ih =>
    intro i hij m hg n hn
    obtain ⟨n, rfl⟩ : ∃ m, n = m + 1 := ⟨n - 1, by omega⟩
    have hlt : i < l.length := by omega
    rw [G86_3_eq, sel_pos (by omega), sel_pos (by omega), sel_pos (by simp only [ofNat_len]; omega), Int.toNat_natCast, getD_of hlt]
    have hp := G111_is k m hg l[i]
    have hg2 := putB_good hg l[i]
    obtain ⟨hi, lo, ⟨⟩⟩ := m
    rw [hp, ocall_some]
    rcases putB_err (hi, lo, ()) l[i] with h | h
    · have hof : ofB (hi, lo, ()) (l.drop i) = ofB (putB (hi, lo, ()) l[i]).1 (l.drop (i + 1)) := by
        rw [List.drop_eq_getElem_cons hlt]
        exact if_pos h
      rw [hof, sel_not, sel_pos h, wrap64 (by omega) (by omega)]
      have := ih (i + 1) (by omega) (putB (hi, lo, ()) l[i]).1 hg2 n (by omega)
      rw [Int.natCast_add, Int.natCast_one] at this
      exact this
    · have hof : ofB (hi, lo, ()) (l.drop i) = ((0, 0, ()), (putB (hi, lo, ()) l[i]).2) := by
        rw [List.drop_eq_getElem_cons hlt]
        exact if_neg (by omega)
      have hn0 : ¬ (putB (hi, lo, ()) l[i]).2 = 0 := by omega
      rw [hof, sel_not, sel_neg hn0, if_neg hn0]
theorem ofB_err : ∀ (l : List Int) (m : BM), (ofB m l).2 ≠ 0 → (ofB m l).1 = (0, 0, ()) := by
  intro l
  induction l with
  | nil => intro m h; exact absurd rfl h
  | cons n l ih =>
    intro m h
    unfold ofB at h ⊢
    split
    · rename_i c; rw [if_pos c] at h; exact ih _ h
    · rfl
theorem G86_is (k : Nat) (l : List Int) (hl : l.length ≤ 1000000000) (hk : l.length < k) : G86 k (l, ()) = some ((ofB (0, 0, ()) l).1, (ofB (0, 0, ()) l).2, ()) := by
  have h := G86_3_is k l hl l.length 0 (by omega) (0, 0, ()) ⟨⟨by decide, by decide⟩, by decide, by decide⟩ k hk
  rw [List.drop_zero, Int.natCast_zero] at h
  rw [G86_eq]
  simp only [ofNat_len]
  rw [h, ocall_some]
  have hz := ofB_err l (0, 0, ())
  by_cases c : (ofB (0, 0, ()) l).2 = 0
  · rw [if_pos c, esel_inl, c]
  · rw [if_neg c, esel_inr, hz c]
theorem fdiv_shift (w e : Nat) : IntKind.u8.wrap ((w : Int).fdiv ((2 : Int) ^ e)) = ((w / 2 ^ e % 256 : Nat) : Int) := by
  have e2 : (2 : Int) ^ e = ((2 ^ e : Nat) : Int) := by rw [Int.natCast_pow]; rfl
  rw [e2, ← Int.ofNat_fdiv]
  unfold IntKind.wrap
  simp only [IntKind.bits, IntKind.signed]
  simp
theorem G113_2_step (k c : Nat) (b : List Int) (w i : Nat) (hi : i < 8) (hb : b.length ≤ 1000) : G113_2 k (c + 1) (b, (w : Int), (i : Int), ()) = G113_2 k c (b ++ [((w / 2 ^ (56 - 8 * i) % 256 : Nat) : Int)], (w : Int), ((i + 1 : Nat) : Int), ()) := by
  rw [G113_2_eq, sel_pos (by omega), wrap64 (n := (i : Int) + 1) (by omega) (by omega), wrap64 (n := 8 * ((i : Int) + 1)) (by omega) (by omega), wrap64 (by omega) (by omega), sel_pos (by omega), sel_pos (by omega),
    show (64 - 8 * ((i : Int) + 1)).toNat = 56 - 8 * i by omega, Nat.min_eq_left (by omega), fdiv_shift]
  rfl
theorem G113_is (k : Nat) (hk : 20 < k) (b : List Int) (hb : b.length ≤ 900) (w : Nat) : G113 k (b, (w : Int), ()) = some (b ++ be8 w, ()) := by
  obtain ⟨c, rfl⟩ : ∃ c, k = c + 9 := ⟨k - 9, by omega⟩
  rw [G113_eq]
  have s0 := G113_2_step (c + 9) (c + 8) b w 0 (by omega) (by omega)
  rw [Int.natCast_zero] at s0
  rw [s0, G113_2_step (c + 9) (c + 7) _ w 1 (by omega) (by simp; omega), G113_2_step (c + 9) (c + 6) _ w 2 (by omega) (by simp; omega), G113_2_step (c + 9) (c + 5) _ w 3 (by omega) (by simp; omega),
    G113_2_step (c + 9) (c + 4) _ w 4 (by omega) (by simp; omega), G113_2_step (c + 9) (c + 3) _ w 5 (by omega) (by simp; omega), G113_2_step (c + 9) (c + 2) _ w 6 (by omega) (by simp; omega),
    G113_2_step (c + 9) (c + 1) _ w 7 (by omega) (by simp; omega), G113_2_eq, sel_neg (by omega), ocall_some]
  simp [be8, List.append_assoc]
def bytesB (m : BM) : List Int := if m.2.1 = 0 then be8 m.1.toNat else be8 m.1.toNat ++ be8 m.2.1.toNat
theorem G87_is (k : Nat) (hk : 20 < k) (m : BM) (hg : goodB m) : G87 k (m, ()) = some (if rightB m = true then (bytesB m, 0, ()) else ([], 1, ())) := by
  have hR := G112_is k m hg
  obtain ⟨hi, lo, ⟨⟩⟩ := m
  rw [G87_eq, hR, ocall_some]
  cases rightB (hi, lo, ()) with
  | false => rw [if_neg (by simp)]; rfl
  | true =>
  rw [if_pos rfl]
  obtain ⟨hi, rfl, hh⟩ := nat_of hg.1
  obtain ⟨lo, rfl, hl⟩ := nat_of hg.2
  simp only [Bool.not_true, sel_false]
  rw [G113_is k hk [] (by simp) hi, ocall_some]
  unfold bytesB
  simp only [Int.toNat_natCast, List.nil_append]
  by_cases hz : (lo : Int) = 0
  · rw [sel_not, sel_pos hz, if_pos hz]
  · rw [sel_not, sel_neg hz, if_neg hz, G113_is k hk _ (by simp [be8]) lo, ocall_some]
theorem take_lt (l : List Int) (hb : ∀ c ∈ l, byteOK c) : ∀ i : Nat, i ≤ l.length → (l.take i).foldl (fun a c => 256 * a + c.toNat) 0 < 256 ^ i := by
  intro i
  induction i with
  | zero => intro _; simp
  | succ i ih =>
    intro hi
    have := ih (by omega)
    rw [List.take_succ_eq_append_getElem (by omega), List.foldl_append]
    have hc := hb l[i] (List.getElem_mem _)
    simp only [List.foldl_cons, List.foldl_nil]
    unfold byteOK at hc
    rw [Nat.pow_succ]
    omega
theorem G142_3_is (k : Nat) (l : List Int) (hl : l.length = 8) (hb : ∀ c ∈ l, byteOK c) : ∀ (j i : Nat), i + j = 8 → ∀ n, j < n →
    G142_3 k n ((((l.take i).foldl (fun a c => 256 * a + c.toNat) 0 : Nat) : Int), l, 8, (i : Int), ()) = some (((num8 l : Nat) : Int), ()) := by
  intro j
  induction j with
  | zero =>
    intro i hij n hn
    obtain ⟨n, rfl⟩ : ∃ m, n = m + 1 := ⟨n - 1, by omega⟩
    rw [G142_3_eq, sel_neg (by omega), List.take_of_length_le (by omega)]
    rfl
  | succ j ih =>
    intro i hij n hn
    obtain ⟨n, rfl⟩ : ∃ m, n = m + 1 := ⟨n - 1, by omega⟩
    have hlt : i < l.length := by omega
    have ht := take_lt l hb i (by omega)
    have hp : 256 ^ i ≤ 256 ^ 7 := Nat.pow_le_pow_right (by omega) (by omega)
    have hc := hb l[i] (List.getElem_mem _)
    unfold byteOK at hc
    rw [G142_3_eq, sel_pos (by omega), sel_pos (by omega), sel_pos (by simp only [ofNat_len]; omega), Int.toNat_natCast, getD_of hlt, wrap64 (by omega) (by omega)]
    have e8 : (2 : Int) ^ min (Int.toNat 8) 64 = 256 := by rfl
    obtain ⟨c, hce⟩ := Int.eq_ofNat_of_zero_le hc.1
    have h7 : (256 : Nat) ^ 7 = 72057594037927936 := by rfl
    rw [e8, hce, shl_or (by omega) (by omega)]
    have := ih (i + 1) (by omega) n (by omega)
    rw [List.take_succ_eq_append_getElem (by omega), List.foldl_append] at this
    simp only [List.foldl_cons, List.foldl_nil, hce, Int.toNat_natCast, Int.natCast_add, Int.natCast_one, Int.natCast_mul] at this ⊢
    exact this
theorem G142_is (k : Nat) (hk : 20 < k) (l : List Int) (hl : 8 ≤ l.length) (hb : ∀ c ∈ l, byteOK c) : G142 k (l, ()) = some (((num8 (l.take 8) : Nat) : Int), ()) := by
  have h := G142_3_is k (l.take 8) (by rw [List.length_take]; omega) (fun c hc => hb c (List.mem_of_mem_take hc)) 8 0 (by omega) k (by omega)
  rw [G142_eq, sel_pos (by simp only [ofNat_len]; omega), sel_pos (by simp)]
  have e : List.drop (Int.ofNat 0).toNat (List.take (Int.toNat 8) l) = l.take 8 := rfl
  have e2 : (l.take 8).length = 8 := by rw [List.length_take]; omega
  rw [e, e2]
  simp only [List.take_zero, List.foldl_nil, Int.natCast_zero] at h
  have e3 : Int.ofNat 8 = 8 := rfl
  rw [e3, h, ocall_some]
def readB (b : List Int) : BM × Int × Int :=
  if b.length < 8 then ((0, 0, ()), 0, 2)
  else if (num8 (b.take 8)).testBit 63 = true then
    if b.length < 16 then ((0, 0, ()), 0, 2)
    else if rightB (((num8 (b.take 8) : Nat) : Int), ((num8 ((b.drop 8).take 8) : Nat) : Int), ()) = true then ((((num8 (b.take 8) : Nat) : Int), ((num8 ((b.drop 8).take 8) : Nat) : Int), ()), 16, 0) else ((0, 0, ()), 0, 3)
  else if rightB (((num8 (b.take 8) : Nat) : Int), 0, ()) = true then ((((num8 (b.take 8) : Nat) : Int), 0, ()), 8, 0) else ((0, 0, ()), 0, 3)
theorem num8_good {l : List Int} (h : 8 ≤ l.length) (hb : ∀ c ∈ l, byteOK c) : num8 (l.take 8) < 18446744073709551616 := num8_lt (by rw [List.length_take]; omega) fun c hc => hb c (List.mem_of_mem_take hc)
theorem G136_is (k : Nat) (hk : 20 < k) (b : List Int) (hb : ∀ c ∈ b, byteOK c) : G136 k (b, ()) = some ((readB b).1, (readB b).2.1, (readB b).2.2, ()) := by
  rw [G136_eq]
  unfold readB
  by_cases c8 : b.length < 8
  · rw [sel_pos (by simp only [ofNat_len]; omega), if_pos c8]
  rw [sel_neg (by simp only [ofNat_len]; omega), if_neg c8, G142_is k hk b (by omega) hb, ocall_some]
  have n1 := num8_good (l := b) (by omega) hb
  have g0 : goodB (((num8 (b.take 8) : Nat) : Int), 0, ()) := ⟨⟨by (try simp only []); omega, by (try simp only []); omega⟩, Int.le_refl 0, by show (0 : Int) < _; decide⟩
  rw [G133_is k _ g0 1 (by omega) (by omega), ocall_some]
  have e1 : bitB (((num8 (b.take 8) : Nat) : Int), 0, ()) (Int.toNat 1) = (num8 (b.take 8)).testBit 63 := by simp [bitB]
  rw [e1]
  cases ht : (num8 (b.take 8)).testBit 63 with
  | false =>
    rw [if_neg (by simp), sel_false, G112_is k _ g0, ocall_some]
    cases rightB (((num8 (b.take 8) : Nat) : Int), 0, ()) with
    | false => rw [if_neg (by simp)]; rfl
    | true => rw [if_pos rfl]; rfl
  | true =>
    rw [if_pos rfl, sel_true]
    by_cases c16 : b.length < 16
    · rw [sel_pos (by simp only [ofNat_len]; omega), if_pos c16]
    rw [sel_neg (by simp only [ofNat_len]; omega), if_neg c16, sel_pos (by simp only [ofNat_len]; omega), sel_pos (by simp), sel_pos (by simp)]
    have e : List.drop (Int.toNat 8) (List.take (Int.ofNat b.length).toNat b) = b.drop 8 := by
      rw [show (Int.ofNat b.length).toNat = b.length from rfl, List.take_of_length_le (Nat.le_refl _)]; rfl
    have hb2 : ∀ c ∈ b.drop 8, byteOK c := fun c hc => hb c (List.mem_of_mem_drop hc)
    have hl2 : 8 ≤ (b.drop 8).length := by rw [List.length_drop]; omega
    have n2 := num8_good hl2 hb2
    have g1 : goodB (((num8 (b.take 8) : Nat) : Int), ((num8 ((b.drop 8).take 8) : Nat) : Int), ()) := ⟨⟨by (try simp only []); omega, by (try simp only []); omega⟩, by (try simp only []); omega, by (try simp only []); omega⟩
    rw [e, G142_is k hk _ hl2 hb2, ocall_some]
    (try simp only [])
    rw [G112_is k _ g1, ocall_some]
    cases rightB (((num8 (b.take 8) : Nat) : Int), ((num8 ((b.drop 8).take 8) : Nat) : Int), ()) with
    | false => rw [if_neg (by simp)]; rfl
    | true => rw [if_pos rfl]; rfl
end Go.Proofs.YtcgnmecbdleehaaDoor.G
end
section
set_option linter.unusedVariables false
set_option linter.unusedSimpArgs false
set_option maxRecDepth 100000
namespace Go.Proofs.YtcgnmecbdleehaaDoor.G
open Go Go.Proofs.YtcgnmecbdleehaaDoor Th Bits
theorem sorted_ext : ∀ (a b : List Int), a.Pairwise (· < ·) → b.Pairwise (· < ·) → (∀ x, x ∈ a ↔ x ∈ b) → a = b := by
  intro a
  induction a with
  | nil =>
    intro b _ _ h
    cases b with
    | nil => rfl
    | cons y b => exact absurd ((h y).2 (List.mem_cons_self ..)) (by simp)
  | cons x a ih =>
    intro b ha hb h
    cases b with
    | nil => exact absurd ((h x).1 (List.mem_cons_self ..)) (by simp)
    | cons y b =>
      rw [List.pairwise_cons] at ha hb
      have hxy : x = y := by
        have h1 := (h x).1 (List.mem_cons_self ..)
        have h2 := (h y).2 (List.mem_cons_self ..)
        rcases List.mem_cons.1 h1 with e | e
        · exact e
        · rcases List.mem_cons.1 h2 with e2 | e2
          · exact e2.symm
          · have := hb.1 x e; have := ha.1 y e2; omega
      subst hxy
      rw [ih b ha.2 hb.2 fun z => ?_]
      constructor
      · intro hz
        have hlt := ha.1 z hz
        rcases List.mem_cons.1 ((h z).1 (List.mem_cons_of_mem _ hz)) with e | e
        · omega
        · exact e
      · intro hz
        have hlt := hb.1 z hz
        rcases List.mem_cons.1 ((h z).2 (List.mem_cons_of_mem _ hz)) with e | e
        · omega
        · exact e
theorem nat_ext {x y : Nat} (hx : x < 18446744073709551616) (hy : y < 18446744073709551616) (h : ∀ i, i < 64 → x.testBit i = y.testBit i) : x = y := by
  apply Nat.eq_of_testBit_eq
  intro i
  by_cases c : i < 64
  · exact h i c
  · rw [high_zero hx (by omega), high_zero hy (by omega)]
theorem bit_ext {a b : BM} (ga : goodB a) (gb : goodB b) (h : ∀ n : Nat, 1 ≤ n → n ≤ 128 → bitB a n = bitB b n) : a = b := by
  obtain ⟨ha, la, ⟨⟩⟩ := a
  obtain ⟨hb, lb, ⟨⟩⟩ := b
  obtain ⟨ha, rfl, ha'⟩ := nat_of ga.1
  obtain ⟨la, rfl, la'⟩ := nat_of ga.2
  obtain ⟨hb, rfl, hb'⟩ := nat_of gb.1
  obtain ⟨lb, rfl, lb'⟩ := nat_of gb.2
  have e1 : ha = hb := nat_ext ha' hb' fun i hi => by
    have := h (64 - i) (by omega) (by omega)
    unfold bitB at this
    rw [if_pos (by omega), if_pos (by omega)] at this
    simpa [show 64 - (64 - i) = i by omega] using this
  have e2 : la = lb := nat_ext la' lb' fun i hi => by
    have := h (128 - i) (by omega) (by omega)
    unfold bitB at this
    rw [if_neg (by omega), if_neg (by omega)] at this
    simpa [show 128 - (128 - i) = i by omega] using this
  rw [e1, e2]
theorem low_bits {m : BM} (gm : goodB m) : m.2.1 ≠ 0 ↔ ∃ n : Nat, 65 ≤ n ∧ n ≤ 128 ∧ bitB m n = true := by
  obtain ⟨hi, lo, ⟨⟩⟩ := m
  obtain ⟨lo, rfl, hl⟩ := nat_of gm.2
  constructor
  · intro hz
    have hz' : ¬ lo = 0 := fun e => hz (by rw [e]; rfl)
    apply Classical.byContradiction
    intro hn
    apply hz'
    apply nat_ext hl (by decide)
    intro i hi
    cases ht : lo.testBit i with
    | false => rw [Nat.zero_testBit]
    | true =>
      exfalso
      refine hn ⟨128 - i, by omega, by omega, ?_⟩
      unfold bitB
      rw [if_neg (by omega)]
      simpa [show 128 - (128 - i) = i by omega] using ht
  · rintro ⟨n, h1, h2, h3⟩ hz
    have hz' : lo = 0 := by
      have : (lo : Int) = 0 := hz
      omega
    subst hz'
    unfold bitB at h3
    rw [if_neg (by omega)] at h3
    simp at h3
theorem field_nat {n : Nat} (h1 : 2 ≤ n) (h2 : n ≤ 128) (h3 : n ≠ 65) : fieldB (n : Int) = true := fieldB_iff.2 ⟨by omega, by omega, by omega⟩
theorem has_nat {m : BM} {n : Nat} (h1 : 2 ≤ n) (h2 : n ≤ 128) (h3 : n ≠ 65) : hasB m (n : Int) = bitB m n := by
  unfold hasB
  rw [field_nat h1 h2 h3, Bool.true_and, Int.toNat_natCast]
theorem right_ext {a b : BM} (ga : goodB a) (gb : goodB b) (ra : rightB a = true) (rb : rightB b = true) (h : ∀ x, hasB a x = hasB b x) : a = b := by
  obtain ⟨a1, a2⟩ := rightB_iff.1 ra
  obtain ⟨b1, b2⟩ := rightB_iff.1 rb
  have hbit : ∀ n : Nat, 2 ≤ n → n ≤ 128 → bitB a n = bitB b n := by
    intro n h1 h2
    by_cases c : n = 65
    · subst c; rw [a1, b1]
    · rw [← has_nat h1 h2 c, ← has_nat h1 h2 c, h]
  refine bit_ext ga gb fun n h1 h2 => ?_
  by_cases c : n = 1
  · subst c
    have key : a.2.1 ≠ 0 ↔ b.2.1 ≠ 0 := by
      rw [low_bits ga, low_bits gb]
      exact ⟨fun ⟨n, h1, h2, h3⟩ => ⟨n, h1, h2, by rw [← hbit n (by omega) h2]; exact h3⟩, fun ⟨n, h1, h2, h3⟩ => ⟨n, h1, h2, by rw [hbit n (by omega) h2]; exact h3⟩⟩
    have : bitB a 1 = true ↔ bitB b 1 = true := by rw [a2, b2]; exact key
    cases ha : bitB a 1 <;> cases hb : bitB b 1 <;> simp [ha, hb] at this ⊢
  · exact hbit n (by omega) h2
theorem hasB_set {m : BM} {n : Nat} (h1 : 2 ≤ n) (h2 : n ≤ 128) (h3 : n ≠ 65) (x : Int) : hasB (setB m n) x = (hasB m x || decide (x = n)) := by
  by_cases hf : fieldB x = true
  · obtain ⟨f1, f2, f3⟩ := fieldB_iff.1 hf
    obtain ⟨x, rfl⟩ : ∃ y : Nat, x = y := ⟨x.toNat, by omega⟩
    rw [has_nat (by omega) (by omega) (by omega), has_nat (by omega) (by omega) (by omega), setB_bit (by omega) h2 (by omega) (by omega), decide_eq_false (show ¬ (64 < n ∧ x = 1) by omega), Bool.or_false]
    congr 1
    exact decide_eq_decide.2 (by omega)
  · have hx : ¬ x = n := fun e => hf (by rw [e]; exact field_nat h1 h2 h3)
    unfold hasB
    rw [Bool.eq_false_iff.2 hf, decide_eq_false hx]; rfl
theorem ofB_ok : ∀ (l : List Int) (m : BM), goodB m → rightB m = true → (∀ x ∈ l, fieldB x = true) → (ofB m l).2 = 0 ∧ goodB (ofB m l).1 ∧ rightB (ofB m l).1 = true ∧ ∀ x, hasB (ofB m l).1 x = (hasB m x || decide (x ∈ l)) := by
  intro l
  induction l with
  | nil => intro m gm rm _; exact ⟨rfl, gm, rm, fun x => by simp [ofB]⟩
  | cons n l ih =>
    intro m gm rm hf
    have hn := hf n (List.mem_cons_self ..)
    obtain ⟨f1, f2, f3⟩ := fieldB_iff.1 hn
    obtain ⟨n, rfl⟩ : ∃ m : Nat, n = m := ⟨n.toNat, by omega⟩
    have hp : putB m (n : Int) = (setB m n, 0) := by unfold putB; rw [if_pos ⟨rm, hn⟩]; rfl
    have ho : ofB m ((n : Int) :: l) = ofB (setB m n) l := by
      show (if (putB m (n : Int)).2 = 0 then ofB (putB m (n : Int)).1 l else _) = _
      rw [hp]; rfl
    rw [ho]
    obtain ⟨h1, h2, h3, h4⟩ := ih (setB m n) (setB_good gm (by omega) (by omega)) (setB_right rm (by omega) (by omega) (by omega)) fun x hx => hf x (List.mem_cons_of_mem _ hx)
    refine ⟨h1, h2, h3, fun x => ?_⟩
    rw [h4, hasB_set (by omega) (by omega) (by omega), Bool.or_assoc]
    congr 1
    by_cases c : x = n
    · simp [c]
    · simp [c]
def zeroB : BM := (0, 0, ())
theorem zeroB_good : goodB zeroB := ⟨⟨by decide, by decide⟩, by decide, by decide⟩
theorem zeroB_right : rightB zeroB = true := by rfl
theorem zeroB_has (x : Int) : hasB zeroB x = false := by
  unfold hasB
  have : bitB zeroB x.toNat = false := by unfold bitB zeroB; split <;> simp
  rw [this, Bool.and_false]
theorem hasB_field {m : BM} {x : Int} (h : hasB m x = true) : fieldB x = true := by unfold hasB at h; simp only [Bool.and_eq_true] at h; exact h.1
theorem of_fields {m : BM} (gm : goodB m) (rm : rightB m = true) : ofB zeroB (fieldsB m) = (m, 0) := by
  obtain ⟨h1, h2, h3, h4⟩ := ofB_ok (fieldsB m) zeroB zeroB_good zeroB_right fun x hx => hasB_field ((fieldsB_mem m x).1 hx)
  have : (ofB zeroB (fieldsB m)).1 = m := by
    refine right_ext h2 gm h3 rm fun x => ?_
    rw [h4, zeroB_has, Bool.false_or]
    cases hx : hasB m x with
    | true => exact decide_eq_true ((fieldsB_mem m x).2 hx)
    | false => exact decide_eq_false fun h => by rw [(fieldsB_mem m x).1 h] at hx; cases hx
  exact Prod.ext this h1
theorem fields_of {l : List Int} (hs : l.Pairwise (· < ·)) (hf : ∀ x ∈ l, fieldB x = true) : fieldsB (ofB zeroB l).1 = l := by
  obtain ⟨h1, h2, h3, h4⟩ := ofB_ok l zeroB zeroB_good zeroB_right hf
  refine sorted_ext _ _ (fieldsFrom_sorted _ _ _) hs fun x => ?_
  rw [fieldsB_mem, h4, zeroB_has, Bool.false_or, decide_eq_true_eq]
theorem bytesB_len (m : BM) : (bytesB m).length = if m.2.1 = 0 then 8 else 16 := by unfold bytesB; split <;> simp [be8]
theorem bytesB_bytes (m : BM) : ∀ c ∈ bytesB m, byteOK c := by
  unfold bytesB
  split
  · exact be8_bytes _
  · intro c hc
    rcases List.mem_append.1 hc with h | h
    · exact be8_bytes _ c h
    · exact be8_bytes _ c h
theorem bit_one (hi lo : Nat) : bitB ((hi : Int), (lo : Int), ()) 1 = hi.testBit 63 := by simp [bitB]
theorem take8 (w : Nat) (t : List Int) : (be8 w ++ t).take 8 = be8 w := rfl
theorem read_bytes {m : BM} (gm : goodB m) (rm : rightB m = true) (t : List Int) : readB (bytesB m ++ t) = (m, ((bytesB m).length : Int), 0) := by
  obtain ⟨r1, r2⟩ := rightB_iff.1 rm
  obtain ⟨hi, lo, ⟨⟩⟩ := m
  obtain ⟨hi, rfl, hh⟩ := nat_of gm.1
  obtain ⟨lo, rfl, hl⟩ := nat_of gm.2
  rw [bit_one] at r2
  have r2 : hi.testBit 63 = true ↔ ¬ (lo : Int) = 0 := r2
  have hlen := bytesB_len ((hi : Int), (lo : Int), ())
  unfold readB
  by_cases hz : (lo : Int) = 0
  · have hb : bytesB ((hi : Int), (lo : Int), ()) = be8 hi := if_pos hz
    have ht : (be8 hi ++ t).take 8 = be8 hi := take8 _ _
    have h63 : ¬ hi.testBit 63 = true := fun h => r2.1 h hz
    rw [hb, ht, num8_be8 hh, if_neg (by rw [List.length_append, be8_len]; omega), if_neg h63]
    have e0 : lo = 0 := by omega
    subst e0
    have rm' : rightB ((hi : Int), 0, ()) = true := rm
    rw [if_pos rm']; rfl
  · have hb : bytesB ((hi : Int), (lo : Int), ()) = be8 hi ++ be8 lo := if_neg hz
    have ht : ((be8 hi ++ be8 lo) ++ t).take 8 = be8 hi := by rw [List.append_assoc, take8]
    have hd : (((be8 hi ++ be8 lo) ++ t).drop 8).take 8 = be8 lo := by
      rw [List.append_assoc, show (be8 hi ++ (be8 lo ++ t)).drop 8 = be8 lo ++ t from rfl, take8]
    rw [hb, ht, hd, num8_be8 hh, num8_be8 hl, if_neg (by simp only [List.length_append, be8_len]; omega), if_pos (r2.2 hz), if_neg (by simp only [List.length_append, be8_len]; omega), if_pos rm]
    rfl
theorem bytes_read {b : List Int} (hb : ∀ c ∈ b, byteOK c) (h : (readB b).2.2 = 0) : ∃ n : Nat, (readB b).2.1 = n ∧ n ≤ b.length ∧ 8 ≤ n ∧ goodB (readB b).1 ∧ rightB (readB b).1 = true ∧ bytesB (readB b).1 = b.take n := by
  unfold readB at h ⊢
  by_cases c8 : b.length < 8
  · rw [if_pos c8] at h; exact absurd h (by decide)
  rw [if_neg c8] at h ⊢
  have n1 := num8_good (l := b) (by omega) hb
  have hbt : ∀ c ∈ b.take 8, byteOK c := fun c hc => hb c (List.mem_of_mem_take hc)
  have hl1 : (b.take 8).length = 8 := by rw [List.length_take]; omega
  by_cases ht : (num8 (b.take 8)).testBit 63 = true
  · rw [if_pos ht] at h ⊢
    by_cases c16 : b.length < 16
    · rw [if_pos c16] at h; exact absurd h (by decide)
    rw [if_neg c16] at h ⊢
    by_cases hr : rightB (((num8 (b.take 8) : Nat) : Int), ((num8 ((b.drop 8).take 8) : Nat) : Int), ()) = true
    · rw [if_pos hr]
      have hb2 : ∀ c ∈ b.drop 8, byteOK c := fun c hc => hb c (List.mem_of_mem_drop hc)
      have hl2 : 8 ≤ (b.drop 8).length := by rw [List.length_drop]; omega
      have n2 := num8_good hl2 hb2
      refine ⟨16, rfl, by omega, by omega, ⟨⟨by (try simp only []); omega, by (try simp only []); omega⟩, by (try simp only []); omega, by (try simp only []); omega⟩, hr, ?_⟩
      have hz := (rightB_iff.1 hr).2.1 (by rw [bit_one]; exact ht)
      unfold bytesB
      rw [if_neg hz]
      simp only [Int.toNat_natCast]
      rw [be8_num8 hl1 hbt, be8_num8 (by rw [List.length_take]; omega) (fun c hc => hb2 c (List.mem_of_mem_take hc)), ← List.take_add]
    · rw [if_neg hr] at h; exact absurd h (by decide)
  · rw [if_neg ht] at h ⊢
    by_cases hr : rightB (((num8 (b.take 8) : Nat) : Int), 0, ()) = true
    · rw [if_pos hr]
      refine ⟨8, rfl, by omega, by omega, ⟨⟨by (try simp only []); omega, by (try simp only []); omega⟩, Int.le_refl 0, by show (0 : Int) < _; decide⟩, hr, ?_⟩
      unfold bytesB
      rw [if_pos rfl]
      simp only [Int.toNat_natCast]
      exact be8_num8 hl1 hbt
    · rw [if_neg hr] at h; exact absurd h (by decide)
end Go.Proofs.YtcgnmecbdleehaaDoor.G
end
section
set_option linter.unusedVariables false
set_option linter.unusedSimpArgs false
set_option maxRecDepth 100000
namespace Go.Proofs.YtcgnmecbdleehaaDoor.G
open Go Go.Proofs.YtcgnmecbdleehaaDoor Th Bits
def fieldW (x : Item) : List UInt8 := match defOf x.1 with
  | some d => writeF d x.2.1
  | none => []
def tailM : List Item → List UInt8
  | [] => []
  | x :: l => fieldW x ++ tailM l
def bmM (l : List Item) : BM := (ofB zeroB (l.map (·.1))).1
def writeM (m : Msg) : List Int := toBytes m.1 ++ (bytesB (bmM m.2.1) ++ toBytes (tailM m.2.1))
theorem right_def {n : Int} {s : Txt} (h : rightF n s = true) : ∃ d, defOf n = some d ∧ sized d s.length = true ∧ signs d s = true := by
  cases hd : defOf n with
  | none => unfold rightF at h; rw [hd] at h; cases h
  | some d => rw [rightF_some hd] at h; simp only [Bool.and_eq_true] at h; exact ⟨d, rfl, h⟩
theorem def_field {n : Int} {d : Def} (h : defOf n = some d) : fieldB n = true := by
  obtain ⟨hm, he⟩ := defOf_mem h
  have h1 := D_all d hm
  have h2 : ∀ d ∈ D, d.1 ≠ 65 := by decide
  exact fieldB_iff.2 ⟨by omega, by omega, fun e => h2 d hm (by omega)⟩
theorem fieldW_some {x : Item} {d : Def} (h : defOf x.1 = some d) : fieldW x = writeF d x.2.1 := by unfold fieldW; rw [h]
theorem fieldW_len {x : Item} (h : rightF x.1 x.2.1 = true) : 1 ≤ (fieldW x).length ∧ (fieldW x).length ≤ 1002 := by
  obtain ⟨d, hd, hs, _⟩ := right_def h
  rw [fieldW_some hd, writeF_len]
  have := sized_le (defOf_mem hd).1 hs
  rcases ahead_cases (kind := d.2.1) with e | e | e <;> omega
theorem items_ok : ∀ (l : List Item) (last : Int), itemsOK last l = true → (∀ x ∈ l, rightF x.1 x.2.1 = true) ∧ (l.map (·.1)).Pairwise (· < ·) ∧ ∀ x ∈ l, last < x.1 := by
  intro l
  induction l with
  | nil => intro last _; exact ⟨fun x hx => absurd hx (by simp), by simp, fun x hx => absurd hx (by simp)⟩
  | cons y l ih =>
    intro last h
    simp only [itemsOK, Bool.and_eq_true, decide_eq_true_eq] at h
    obtain ⟨⟨h1, h2⟩, h3⟩ := h
    obtain ⟨i1, i2, i3⟩ := ih y.1 h3
    refine ⟨fun x hx => ?_, ?_, fun x hx => ?_⟩
    · rcases List.mem_cons.1 hx with rfl | hx
      · exact h2
      · exact i1 x hx
    · rw [List.map_cons, List.pairwise_cons]
      refine ⟨fun a ha => ?_, i2⟩
      obtain ⟨x, hx, rfl⟩ := List.mem_map.1 ha
      exact i3 x hx
    · rcases List.mem_cons.1 hx with rfl | hx
      · exact h1
      · have := i3 x hx; omega
theorem items_back : ∀ (l : List Item) (last : Int), (∀ x ∈ l, rightF x.1 x.2.1 = true) → (l.map (·.1)).Pairwise (· < ·) → (∀ x ∈ l, last < x.1) → itemsOK last l = true := by
  intro l
  induction l with
  | nil => intro last _ _ _; rfl
  | cons y l ih =>
    intro last h1 h2 h3
    rw [List.map_cons, List.pairwise_cons] at h2
    simp only [itemsOK, Bool.and_eq_true, decide_eq_true_eq]
    exact ⟨⟨h3 y (List.mem_cons_self ..), h1 y (List.mem_cons_self ..)⟩, ih y.1 (fun x hx => h1 x (List.mem_cons_of_mem _ hx)) h2.2 fun x hx => h2.1 x.1 (List.mem_map.2 ⟨x, hx, rfl⟩)⟩
theorem msg_parts {m : Msg} : msgRight m = true ↔ itemsOK 0 m.2.1 = true ∧ knownT m.1 = true ∧ 0 < m.2.1.length := by
  unfold msgRight; simp [and_assoc]
theorem known_len {s : Txt} (h : knownT s = true) : s.length = 4 := by
  unfold knownT KT at h
  simp only [List.contains_cons, List.contains_nil, Bool.or_false, Bool.or_eq_true, beq_iff_eq] at h
  rcases h with h | h | h | h | h | h | h <;> rw [h] <;> rfl
theorem tailM_len : ∀ (l : List Item), (∀ x ∈ l, rightF x.1 x.2.1 = true) → (tailM l).length ≤ l.length * 1002 := by
  intro l
  induction l with
  | nil => intro _; simp [tailM]
  | cons y l ih =>
    intro h
    have := ih fun x hx => h x (List.mem_cons_of_mem _ hx)
    have := fieldW_len (h y (List.mem_cons_self ..))
    simp only [tailM, List.length_append, List.length_cons]; omega
theorem G54_6_is (k : Nat) (hk : 1200 < k) (typ : Txt) (l0 l : List Item) (hl : l.length ≤ 1000) (hr : ∀ x ∈ l, rightF x.1 x.2.1 = true) : ∀ (j i : Nat), i + j = l.length → ∀ (fs tl : List Int), fs.length ≤ i → tl.length ≤ i * 1002 → ∀ n, j < n →
    G54_6 k n (fs, tl, l, (l.length : Int), (i : Int), typ, l0, ()) = some (fs ++ (l.drop i).map (·.1), tl ++ toBytes (tailM (l.drop i)), typ, l0, ()) := by
  intro j
  induction j with
  | zero =>
    intro i hij fs tl h1 h2 n hn
    obtain ⟨n, rfl⟩ : ∃ m, n = m + 1 := ⟨n - 1, by omega⟩
    rw [G54_6_eq, sel_neg (by omega), List.drop_eq_nil_of_le (by omega)]
    simp [tailM, toBytes]
  | succ j ih =>
    intro i hij fs tl h1 h2 n hn
    obtain ⟨n, rfl⟩ : ∃ m, n = m + 1 := ⟨n - 1, by omega⟩
    have hlt : i < l.length := by omega
    have hx := hr l[i] (List.getElem_mem _)
    obtain ⟨d, hd, hs, _⟩ := right_def hx
    have hz := sized_le (defOf_mem hd).1 hs
    have hw := fieldW_len hx
    have next := fun fs tl a b => ih (i + 1) (by omega) fs tl a b n (by omega)
    rw [G54_6_eq, sel_pos (by omega), sel_pos (by omega), sel_pos (by simp only [ofNat_len]; omega)]
    simp only [Int.toNat_natCast, getD_of hlt]
    rw [G85_is k (by omega) l[i].1 d hd l[i].2.1 (by omega) (by omega), if_pos hx, ocall_some, ← fieldW_some hd]
    simp only [toBytes_len]
    rw [sel_pos (by omega), sel_pos (by omega), wrap64 (by omega) (by omega), show (i : Int) + 1 = ((i + 1 : Nat) : Int) by omega,
      next _ _ (by simp only [List.length_append, List.length_cons, List.length_nil]; omega) (by simp only [List.length_append, toBytes_len]; omega), List.drop_eq_getElem_cons hlt]
    simp only [List.map_cons, tailM, toBytes, List.map_append, List.append_assoc, List.cons_append, List.nil_append]
theorem bm_ok {l : List Item} (h : itemsOK 0 l = true) : ofB zeroB (l.map (·.1)) = (bmM l, 0) ∧ goodB (bmM l) ∧ rightB (bmM l) = true ∧ fieldsB (bmM l) = l.map (·.1) := by
  obtain ⟨h1, h2, _⟩ := items_ok l 0 h
  have hf : ∀ x ∈ l.map (·.1), fieldB x = true := by
    intro a ha
    obtain ⟨x, hx, rfl⟩ := List.mem_map.1 ha
    obtain ⟨d, hd, _⟩ := right_def (h1 x hx)
    exact def_field hd
  obtain ⟨o1, o2, o3, _⟩ := ofB_ok (l.map (·.1)) zeroB zeroB_good zeroB_right hf
  exact ⟨Prod.ext rfl o1, o2, o3, fields_of h2 hf⟩
theorem bytesB_le (m : BM) : (bytesB m).length ≤ 16 := by rw [bytesB_len]; split <;> omega
theorem G54_is (k : Nat) (hk : 1200 < k) (typ : Txt) (l : List Item) (hl : l.length ≤ 1000) (hx : ∀ x ∈ l, x.2.1.length ≤ maxLen ∧ x.2.1.length < k) :
    G54 k ((typ, l, ()), ()) = some (if msgRight (typ, l, ()) = true then (writeM (typ, l, ()), 0, ()) else ([], 1, ())) := by
  rw [G54_eq, G84_is k (by omega) typ l (by omega) (by omega) hx, ocall_some]
  by_cases hr : msgRight (typ, l, ()) = true
  case neg => rw [if_neg hr, Bool.eq_false_iff.2 hr]; rfl
  rw [if_pos hr, hr]
  simp only [Bool.not_true, sel_false, ofNat_len]
  obtain ⟨h1, h2, h3⟩ := msg_parts.1 hr
  obtain ⟨i1, _, _⟩ := items_ok l 0 h1
  obtain ⟨o1, o2, o3, _⟩ := bm_ok h1
  have hw := G54_6_is k hk typ l l hl i1 l.length 0 (by omega) [] [] (by simp) (by simp) k (by omega)
  rw [List.drop_zero, Int.natCast_zero, List.nil_append, List.nil_append] at hw
  rw [hw, ocall_some]
  (try simp only [])
  have hO := G86_is k (l.map (·.1)) (by simp; omega) (by simp; omega)
  have ez : ((0, 0, ()) : BM) = zeroB := rfl
  rw [ez, o1] at hO
  rw [hO, ocall_some]
  (try simp only [])
  have hB := G87_is k (by omega) (bmM l) o2
  rw [if_pos o3] at hB
  have eb : (((bmM l).1, (bmM l).2.1, ()) : BM) = bmM l := rfl
  rw [eb, hB, ocall_some]
  (try simp only [])
  have ht := tailM_len l i1
  have hk4 : typ.length = 4 := known_len h2
  rw [G88_is k _ (by simp) (by simp; omega) (by
    simp only [lenSum, toBytes_len]
    have := bytesB_le (bmM l)
    omega), ocall_some]
  simp [writeM]
end Go.Proofs.YtcgnmecbdleehaaDoor.G
end
section
set_option linter.unusedVariables false
set_option linter.unusedSimpArgs false
set_option maxRecDepth 100000
namespace Go.Proofs.YtcgnmecbdleehaaDoor.G
open Go Go.Proofs.YtcgnmecbdleehaaDoor Th Bits
def zeroM : Msg := ([], [], ())
def rdF (n : Int) (b : List Int) : List UInt8 × Int × Int := match defOf n with
  | some d => readF d (ofBytes b)
  | none => ([], 0, 5)
def readI : List Int → List Int → List Item × List Int × Int
  | [], b => ([], b, 0)
  | n :: l, b => if (rdF n b).2.2 = 0 then
      (if (readI l (b.drop (rdF n b).2.1.toNat)).2.2 = 0 then ((n, (rdF n b).1, ()) :: (readI l (b.drop (rdF n b).2.1.toNat)).1, (readI l (b.drop (rdF n b).2.1.toNat)).2.1, 0) else ([], [], (readI l (b.drop (rdF n b).2.1.toNat)).2.2))
    else ([], [], (rdF n b).2.2)
def readM (b : List Int) : Msg × Int :=
  if b.length < 4 then (zeroM, 2)
  else if knownT (ofBytes (b.take 4)) = true then
    (if (readB (b.drop 4)).2.2 = 0 then
      (if fieldsB (readB (b.drop 4)).1 = [] then (zeroM, 3)
       else if (readI (fieldsB (readB (b.drop 4)).1) (b.drop (4 + (readB (b.drop 4)).2.1.toNat))).2.2 = 0 then
         (if (readI (fieldsB (readB (b.drop 4)).1) (b.drop (4 + (readB (b.drop 4)).2.1.toNat))).2.1 = [] then ((ofBytes (b.take 4), (readI (fieldsB (readB (b.drop 4)).1) (b.drop (4 + (readB (b.drop 4)).2.1.toNat))).1, ()), 0) else (zeroM, 4))
       else (zeroM, (readI (fieldsB (readB (b.drop 4)).1) (b.drop (4 + (readB (b.drop 4)).2.1.toNat))).2.2))
     else (zeroM, (readB (b.drop 4)).2.2))
  else (zeroM, 3)
theorem G126_rd (k : Nat) (hk : 1100 < k) (n : Int) (b : List Int) (hb : b.length ≤ 9223372036854775807) : G126 k (n, b, ()) = some ((rdF n b).1, (rdF n b).2.1, (rdF n b).2.2, ()) := by
  unfold rdF
  cases hd : defOf n with
  | none => exact G126_none k (by omega) n b hd
  | some d => exact G126_is k hk n d hd b hb
theorem rd_ok {n : Int} {b : List Int} (h : (rdF n b).2.2 = 0) : ∃ (d : Def) (j : Nat), defOf n = some d ∧ (rdF n b).2.1 = j ∧ 0 < j ∧ j ≤ b.length ∧ rightF n (rdF n b).1 = true ∧ fieldW (n, (rdF n b).1, ()) = (ofBytes b).take j := by
  unfold rdF at h ⊢
  cases hd : defOf n with
  | none => rw [hd] at h; exact absurd h (by simp)
  | some d =>
    rw [hd] at h
    obtain ⟨j, e1, e2, e3, e4, e5, e6⟩ := read_back (defOf_mem hd).1 (ofBytes b) h
    refine ⟨d, j, rfl, e1, e2, by rw [ofBytes_len] at e3; exact e3, by rw [rightF_some hd]; simp [e4, e5], ?_⟩
    exact (fieldW_some (x := (n, _, ())) hd).trans e6
theorem G108_8_is (k : Nat) (hk : 1200 < k) (a : Txt) (b0 : List Item) (typ : Txt) (fs : List Int) (hf : fs.length ≤ 200) : ∀ (j i : Nat), i + j = fs.length → ∀ (b : List Int) (acc : List Item), b.length ≤ 1000000000 → acc.length ≤ i → ∀ n, j < n →
    G108_8 k n (b, fs, (fs.length : Int), (i : Int), a, b0, typ, acc, ()) =
      some (if (readI (fs.drop i) b).2.2 = 0 then .inl ((readI (fs.drop i) b).2.1, a, b0, typ, acc ++ (readI (fs.drop i) b).1, ()) else .inr ((readI (fs.drop i) b).2.2, [], [], ())) := by
  intro j
  induction j with
  | zero =>
    intro i hij b acc hb ha n hn
    obtain ⟨n, rfl⟩ : ∃ m, n = m + 1 := ⟨n - 1, by omega⟩
    rw [G108_8_eq, sel_neg (by omega), List.drop_eq_nil_of_le (by omega)]
    simp [readI]
  | succ j ih =>
    intro i hij b acc hb ha n hn
    obtain ⟨n, rfl⟩ : ∃ m, n = m + 1 := ⟨n - 1, by omega⟩
    have hlt : i < fs.length := by omega
    rw [G108_8_eq, sel_pos (by omega), sel_pos (by omega), sel_pos (by simp only [ofNat_len]; omega)]
    simp only [Int.toNat_natCast, getD_of hlt]
    rw [sel_pos hlt, G126_rd k (by omega) _ _ (by omega), ocall_some]
    have hcons := List.drop_eq_getElem_cons hlt
    by_cases he : (rdF fs[i] b).2.2 = 0
    · rw [sel_not, sel_pos he]
      obtain ⟨d, j', e1, e2, e3, e4, _⟩ := rd_ok he
      simp only [ofNat_len, Int.toNat_natCast, List.take_length]
      rw [sel_pos (by omega), sel_pos (by omega), sel_pos (by omega), sel_pos (Int.le_refl _), sel_pos (Int.le_refl _), wrap64 (by omega) (by omega), show (i : Int) + 1 = ((i + 1 : Nat) : Int) by omega,
        ih (i + 1) (by omega) (b.drop (rdF fs[i] b).2.1.toNat) (acc ++ [(fs[i], (rdF fs[i] b).1, ())]) (by rw [List.length_drop]; omega) (by simp; omega) n (by omega)]
      by_cases h2 : (readI (fs.drop (i + 1)) (b.drop (rdF fs[i] b).2.1.toNat)).2.2 = 0
      · have hv : readI (fs.drop i) b = ((fs[i], (rdF fs[i] b).1, ()) :: (readI (fs.drop (i + 1)) (b.drop (rdF fs[i] b).2.1.toNat)).1, (readI (fs.drop (i + 1)) (b.drop (rdF fs[i] b).2.1.toNat)).2.1, 0) := by
          rw [hcons]; show (if _ then _ else _) = _; rw [if_pos he, if_pos h2]
        rw [hv, if_pos h2, if_pos rfl]; simp
      · have hv : readI (fs.drop i) b = ([], [], (readI (fs.drop (i + 1)) (b.drop (rdF fs[i] b).2.1.toNat)).2.2) := by
          rw [hcons]; show (if _ then _ else _) = _; rw [if_pos he, if_neg h2]
        rw [hv, if_neg h2, if_neg h2]
    · have hv : readI (fs.drop i) b = ([], [], (rdF fs[i] b).2.2) := by
        rw [hcons]; show (if _ then _ else _) = _; rw [if_neg he]
      rw [sel_not, sel_neg he, hv, if_neg he]
theorem readB_size (b : List Int) : (readB b).2.1 = 0 ∨ ((readB b).2.1 = 8 ∧ 8 ≤ b.length) ∨ ((readB b).2.1 = 16 ∧ 16 ≤ b.length) := by
  unfold readB
  by_cases c8 : b.length < 8
  · rw [if_pos c8]; exact .inl rfl
  rw [if_neg c8]
  split
  · by_cases c16 : b.length < 16
    · rw [if_pos c16]; exact .inl rfl
    rw [if_neg c16]
    split
    · exact .inr (.inr ⟨rfl, by omega⟩)
    · exact .inl rfl
  · split
    · exact .inr (.inl ⟨rfl, by omega⟩)
    · exact .inl rfl
theorem readB_bad {b : List Int} (h : (readB b).2.2 ≠ 0) : (readB b).1 = zeroB := by
  unfold readB at h ⊢
  split
  · rfl
  rename_i c8
  rw [if_neg c8] at h
  split
  · rename_i c1
    rw [if_pos c1] at h
    split
    · rfl
    rename_i c16
    rw [if_neg c16] at h
    split
    · rename_i c2; rw [if_pos c2] at h; exact absurd rfl h
    · rfl
  · rename_i c1
    rw [if_neg c1] at h
    split
    · rename_i c2; rw [if_pos c2] at h; exact absurd rfl h
    · rfl
theorem readB_good {b : List Int} (hb : ∀ c ∈ b, byteOK c) : goodB (readB b).1 := by
  by_cases h : (readB b).2.2 = 0
  · obtain ⟨n, _, _, _, hg, _⟩ := bytes_read hb h; exact hg
  · rw [readB_bad h]; exact zeroB_good
theorem fieldsB_len (m : BM) : (fieldsB m).length ≤ 127 := fieldsFrom_len m 127 2
theorem start4 (b : List Int) : List.drop (Int.ofNat 0).toNat (List.take (Int.toNat 4) b) = b.take 4 := rfl
theorem all_of_b (b : List Int) : List.take (Int.ofNat b.length).toNat b = b := by rw [show (Int.ofNat b.length).toNat = b.length from rfl, List.take_of_length_le (Nat.le_refl _)]
theorem G125_is (k : Nat) (hk : 1200 < k) (b : List Int) (hb : ∀ c ∈ b, byteOK c) (hl : b.length ≤ 1000000000) : G125 k (b, ()) =
    some (if b.length < 4 then ([], [], [], 2, ()) else if knownT (ofBytes (b.take 4)) = true then (ofBytes (b.take 4), fieldsB (readB (b.drop 4)).1, b.drop (4 + (readB (b.drop 4)).2.1.toNat), (readB (b.drop 4)).2.2, ()) else ([], [], [], 3, ())) := by
  rw [G125_eq]
  by_cases c4 : b.length < 4
  · rw [sel_pos (by simp only [ofNat_len]; omega), if_pos c4]
  rw [sel_neg (by simp only [ofNat_len]; omega), if_neg c4]
  have p4 : (4 : Int) ≤ Int.ofNat b.length := by simp only [ofNat_len]; omega
  rw [sel_pos p4, sel_pos (Int.le_refl _), start4, G110_is, ocall_some]
  cases hkn : knownT (ofBytes (b.take 4)) with
  | false => rw [if_neg (by simp)]; rfl
  | true =>
  rw [if_pos rfl]
  simp only [Bool.not_true, sel_false]
  have hb4 : ∀ c ∈ b.drop 4, byteOK c := fun c hc => hb c (List.mem_of_mem_drop hc)
  rw [sel_pos p4, sel_pos (Int.le_refl _), sel_pos (Int.le_refl _), all_of_b, show Int.toNat 4 = 4 from rfl, G136_is k (by omega) _ hb4, ocall_some, sel_pos p4, sel_pos (Int.le_refl _)]
  have hF := G137_is k (by omega) (readB (b.drop 4)).1 (readB_good hb4)
  have er : (((readB (b.drop 4)).1.1, (readB (b.drop 4)).1.2.1, ()) : BM) = (readB (b.drop 4)).1 := rfl
  (try simp only [])
  rw [er, hF, ocall_some]
  have hs := readB_size (b.drop 4)
  rw [List.length_drop] at hs
  have hw : IntKind.i64.wrap (4 + (readB (b.drop 4)).2.1) = 4 + (readB (b.drop 4)).2.1 := wrap64 (by omega) (by omega)
  have ht : (4 + (readB (b.drop 4)).2.1).toNat = 4 + (readB (b.drop 4)).2.1.toNat := by omega
  rw [hw, ht, sel_pos (by omega), sel_pos (by simp only [ofNat_len]; omega), sel_pos (Int.le_refl _), sel_pos (Int.le_refl _)]
theorem G108_is (k : Nat) (hk : 1200 < k) (b : List Int) (hb : ∀ c ∈ b, byteOK c) (hl : b.length ≤ 1000000000) : G108 k (b, ()) = some ((readM b).1, (readM b).2, ()) := by
  rw [G108_eq, G125_is k hk b hb hl, ocall_some]
  unfold readM
  by_cases c4 : b.length < 4
  · rw [if_pos c4, if_pos c4]; rfl
  rw [if_neg c4, if_neg c4]
  cases hkn : knownT (ofBytes (b.take 4)) with
  | false => rw [if_neg (by simp), if_neg (by simp)]; rfl
  | true =>
  rw [if_pos rfl, if_pos rfl]
  (try simp only [])
  by_cases he : (readB (b.drop 4)).2.2 = 0
  case neg => rw [if_neg he, sel_not, sel_neg he]; rfl
  rw [if_pos he, sel_not, sel_pos he]
  have hfl := fieldsB_len (readB (b.drop 4)).1
  generalize fieldsB (readB (b.drop 4)).1 = fs at hfl
  by_cases hz : fs = []
  · rw [if_pos hz, sel_pos (by rw [hz]; rfl)]; rfl
  have hpos : 0 < fs.length := List.length_pos_iff.2 hz
  rw [if_neg hz, sel_neg (by simp only [ofNat_len]; omega)]
  have h8 := G108_8_is k hk [] [] (ofBytes (b.take 4)) fs (by omega) fs.length 0 (by omega) (b.drop (4 + (readB (b.drop 4)).2.1.toNat)) [] (by rw [List.length_drop]; omega) (by simp) k (by omega)
  rw [List.drop_zero, Int.natCast_zero, List.nil_append] at h8
  simp only [ofNat_len]
  rw [h8, ocall_some]
  generalize readI fs (b.drop (4 + (readB (b.drop 4)).2.1.toNat)) = r
  obtain ⟨its, rest, e⟩ := r
  (try simp only [])
  by_cases hr : e = 0
  · rw [if_pos hr, if_pos hr, esel_inl]
    by_cases hz2 : rest = []
    · rw [if_pos hz2, sel_neg (by rw [hz2]; simp)]
    · have : 0 < rest.length := List.length_pos_iff.2 hz2
      rw [if_neg hz2, sel_pos (show (0 : Int) < rest.length by omega)]; rfl
  · rw [if_neg hr, if_neg hr, esel_inr]; rfl
end Go.Proofs.YtcgnmecbdleehaaDoor.G
end
section
set_option linter.unusedVariables false
set_option linter.unusedSimpArgs false
set_option maxRecDepth 100000
namespace Go.Proofs.YtcgnmecbdleehaaDoor.G
open Go Go.Proofs.YtcgnmecbdleehaaDoor Th Bits
theorem readI_cons (n : Int) (l : List Int) (b : List Int) : readI (n :: l) b = if (rdF n b).2.2 = 0 then
      (if (readI l (b.drop (rdF n b).2.1.toNat)).2.2 = 0 then ((n, (rdF n b).1, ()) :: (readI l (b.drop (rdF n b).2.1.toNat)).1, (readI l (b.drop (rdF n b).2.1.toNat)).2.1, 0) else ([], [], (readI l (b.drop (rdF n b).2.1.toNat)).2.2))
    else ([], [], (rdF n b).2.2) := rfl
end Go.Proofs.YtcgnmecbdleehaaDoor.G
end
section
set_option linter.unusedVariables false
set_option linter.unusedSimpArgs false
set_option maxRecDepth 100000
namespace Go.Proofs.YtcgnmecbdleehaaDoor.G
open Go Go.Proofs.YtcgnmecbdleehaaDoor Th Bits
theorem toBytes_ofBytes : ∀ (b : List Int), (∀ c ∈ b, byteOK c) → toBytes (ofBytes b) = b := by
  intro b
  induction b with
  | nil => intro _; rfl
  | cons c b ih =>
    intro h
    have h1 := h c (List.mem_cons_self ..)
    have h2 := ih fun c hc => h c (List.mem_cons_of_mem _ hc)
    unfold byteOK at h1
    simp only [ofBytes, toBytes, List.map_cons, List.map_map] at h2 ⊢
    rw [h2]
    congr 1
    simp
    omega
theorem toBytes_ok (s : List UInt8) : ∀ c ∈ toBytes s, byteOK c := by
  intro c hc
  obtain ⟨x, _, rfl⟩ := List.mem_map.1 hc
  have := x.toNat_lt
  unfold byteOK; omega
theorem toBytes_app (s t : List UInt8) : toBytes (s ++ t) = toBytes s ++ toBytes t := by simp [toBytes]
theorem toBytes_inj {s t : List UInt8} (h : toBytes s = toBytes t) : s = t := by rw [← ofBytes_toBytes s, h, ofBytes_toBytes]
theorem writeM_ok (m : Msg) : ∀ c ∈ writeM m, byteOK c := by
  intro c hc
  unfold writeM at hc
  rcases List.mem_append.1 hc with h | h
  · exact toBytes_ok _ c h
  rcases List.mem_append.1 h with h | h
  · exact bytesB_bytes _ c h
  · exact toBytes_ok _ c h
theorem rdF_write {x : Item} (h : rightF x.1 x.2.1 = true) (t : List UInt8) : rdF x.1 (toBytes (fieldW x ++ t)) = (x.2.1, ((fieldW x).length : Int), 0) := by
  obtain ⟨d, hd, hs, hg⟩ := right_def h
  unfold rdF
  rw [hd, fieldW_some hd]
  simp only [ofBytes_toBytes]
  exact read_write (defOf_mem hd).1 _ t hs hg
theorem readI_ok {n : Int} {l b : List Int} (h1 : (rdF n b).2.2 = 0) (h2 : (readI l (b.drop (rdF n b).2.1.toNat)).2.2 = 0) :
    readI (n :: l) b = ((n, (rdF n b).1, ()) :: (readI l (b.drop (rdF n b).2.1.toNat)).1, (readI l (b.drop (rdF n b).2.1.toNat)).2.1, 0) := by rw [readI_cons, if_pos h1, if_pos h2]
theorem drop_field (x : Item) (t : List UInt8) : (toBytes (fieldW x ++ t)).drop (((fieldW x).length : Int)).toNat = toBytes t := by
  rw [Int.toNat_natCast, toBytes_drop, List.drop_left]
theorem readI_tail : ∀ (l : List Item), (∀ x ∈ l, rightF x.1 x.2.1 = true) → ∀ t, readI (l.map (·.1)) (toBytes (tailM l ++ t)) = (l, toBytes t, 0) := by
  intro l
  induction l with
  | nil => intro _ t; rfl
  | cons x l ih =>
    intro h t
    have e := rdF_write (h x (List.mem_cons_self ..)) (tailM l ++ t)
    have i := ih (fun x hx => h x (List.mem_cons_of_mem _ hx)) t
    have eb : tailM (x :: l) ++ t = fieldW x ++ (tailM l ++ t) := by simp [tailM]
    have hd : (toBytes (fieldW x ++ (tailM l ++ t))).drop (rdF x.1 (toBytes (fieldW x ++ (tailM l ++ t)))).2.1.toNat = toBytes (tailM l ++ t) := by rw [e]; exact drop_field x _
    rw [eb, List.map_cons, readI_ok (by rw [e]) (by rw [hd, i]), hd, i, e]
theorem write_parts {m : Msg} (h : msgRight m = true) (t : List UInt8) : (writeM m ++ toBytes t).take 4 = toBytes m.1 ∧ (writeM m ++ toBytes t).drop 4 = bytesB (bmM m.2.1) ++ toBytes (tailM m.2.1 ++ t) ∧ 4 ≤ (writeM m ++ toBytes t).length := by
  obtain ⟨_, h2, _⟩ := msg_parts.1 h
  have h4 : (toBytes m.1).length = 4 := by rw [toBytes_len]; exact known_len h2
  unfold writeM
  refine ⟨?_, ?_, by simp only [List.length_append]; omega⟩
  · rw [List.append_assoc, List.take_append_of_le_length (by omega), List.take_of_length_le (by omega)]
  · rw [List.append_assoc, List.drop_append, List.drop_of_length_le (by omega), h4]
    simp [toBytes_app]
theorem read_write_more {m : Msg} (h : msgRight m = true) (t : List UInt8) : readM (writeM m ++ toBytes t) = if t = [] then (m, 0) else (zeroM, 4) := by
  obtain ⟨w1, w2, w3⟩ := write_parts h t
  obtain ⟨h1, h2, h3⟩ := msg_parts.1 h
  obtain ⟨i1, _, _⟩ := items_ok m.2.1 0 h1
  obtain ⟨o1, o2, o3, o4⟩ := bm_ok h1
  have hrb := read_bytes o2 o3 (toBytes (tailM m.2.1 ++ t))
  unfold readM
  rw [if_neg (by omega), w1, w2, ofBytes_toBytes, if_pos h2, hrb]
  (try simp only [])
  rw [if_pos trivial, o4, if_neg (fun e => by
    have : m.2.1.length = 0 := by have := congrArg List.length e; simpa using this
    omega)]
  have hd : (writeM m ++ toBytes t).drop (4 + (((bytesB (bmM m.2.1)).length : Int)).toNat) = toBytes (tailM m.2.1 ++ t) := by
    rw [← List.drop_drop, w2, Int.toNat_natCast, List.drop_left]
  rw [hd, readI_tail m.2.1 i1 t, if_pos rfl]
  obtain ⟨typ, l, ⟨⟩⟩ := m
  by_cases ht : t = []
  · rw [if_pos ht, ht]; exact if_pos rfl
  · have hne : ¬ toBytes t = [] := fun e => ht (toBytes_inj (t := []) e)
    rw [if_neg ht]; exact if_neg hne
theorem read_write_msg {m : Msg} (h : msgRight m = true) : readM (writeM m) = (m, 0) := by
  have := read_write_more h []
  rw [if_pos rfl] at this
  simpa [toBytes] using this
theorem writeM_len (m : Msg) : (writeM m).length = m.1.length + ((bytesB (bmM m.2.1)).length + (tailM m.2.1).length) := by
  unfold writeM; simp only [List.length_append, toBytes_len]
theorem readI_back : ∀ (fs b : List Int), (∀ c ∈ b, byteOK c) → (readI fs b).2.2 = 0 →
    (readI fs b).1.map (·.1) = fs ∧ (∀ x ∈ (readI fs b).1, rightF x.1 x.2.1 = true) ∧ toBytes (tailM (readI fs b).1) ++ (readI fs b).2.1 = b := by
  intro fs
  induction fs with
  | nil => intro b _ _; exact ⟨rfl, fun x hx => absurd hx (by simp [readI]), rfl⟩
  | cons n fs ih =>
    intro b hb h
    rw [readI_cons] at h ⊢
    by_cases he : (rdF n b).2.2 = 0
    · rw [if_pos he] at h ⊢
      by_cases h2 : (readI fs (b.drop (rdF n b).2.1.toNat)).2.2 = 0
      · rw [if_pos h2]
        obtain ⟨d, j, e1, e2, e3, e4, e5, e6⟩ := rd_ok he
        obtain ⟨k1, k2, k3⟩ := ih _ (fun c hc => hb c (List.mem_of_mem_drop hc)) h2
        refine ⟨by simp only [List.map_cons, k1], fun x hx => ?_, ?_⟩
        · rcases List.mem_cons.1 hx with rfl | hx
          · exact e5
          · exact k2 x hx
        · simp only [tailM, toBytes_app, List.append_assoc]
          rw [k3, e6, e2, Int.toNat_natCast, ← ofBytes_take, toBytes_ofBytes _ (fun c hc => hb c (List.mem_of_mem_take hc)), List.take_append_drop]
      · rw [if_neg h2] at h; exact absurd h h2
    · rw [if_neg he] at h; exact absurd h he
theorem write_read_msg {b : List Int} (hb : ∀ c ∈ b, byteOK c) (h : (readM b).2 = 0) : msgRight (readM b).1 = true ∧ writeM (readM b).1 = b ∧ (readM b).1.2.1.length ≤ 127 := by
  unfold readM at h ⊢
  by_cases c4 : b.length < 4
  · rw [if_pos c4] at h; exact absurd h (by decide)
  rw [if_neg c4] at h ⊢
  by_cases ck : knownT (ofBytes (b.take 4)) = true
  case neg => rw [if_neg ck] at h; exact absurd h (by decide)
  rw [if_pos ck] at h ⊢
  by_cases cb : (readB (b.drop 4)).2.2 = 0
  case neg => rw [if_neg cb] at h; exact absurd h cb
  rw [if_pos cb] at h ⊢
  by_cases cf : fieldsB (readB (b.drop 4)).1 = []
  · rw [if_pos cf] at h; exact absurd h (by decide)
  rw [if_neg cf] at h ⊢
  have hb4 : ∀ c ∈ b.drop 4, byteOK c := fun c hc => hb c (List.mem_of_mem_drop hc)
  obtain ⟨n, n1, n2, n3, n4, n5, n6⟩ := bytes_read hb4 cb
  have hbi : ∀ c ∈ b.drop (4 + (readB (b.drop 4)).2.1.toNat), byteOK c := fun c hc => hb c (List.mem_of_mem_drop hc)
  have hback := readI_back (fieldsB (readB (b.drop 4)).1) _ hbi
  by_cases ci : (readI (fieldsB (readB (b.drop 4)).1) (b.drop (4 + (readB (b.drop 4)).2.1.toNat))).2.2 = 0
  case neg => rw [if_neg ci] at h; exact absurd h ci
  rw [if_pos ci] at h ⊢
  obtain ⟨k1, k2, k3⟩ := hback ci
  generalize readI (fieldsB (readB (b.drop 4)).1) (b.drop (4 + (readB (b.drop 4)).2.1.toNat)) = r at h k1 k2 k3 ⊢
  obtain ⟨its, rest, e⟩ := r
  (try simp only [] at h k1 k2 k3 ⊢)
  by_cases cr : rest = []
  case neg => rw [if_neg cr] at h; exact absurd h (by decide)
  rw [if_pos cr]
  subst cr
  have hfl := fieldsB_len (readB (b.drop 4)).1
  have hlen : its.length = (fieldsB (readB (b.drop 4)).1).length := by rw [← k1, List.length_map]
  have hpos : 0 < (fieldsB (readB (b.drop 4)).1).length := List.length_pos_iff.2 cf
  have hio : itemsOK 0 its = true := items_back its 0 k2 (by rw [k1]; exact fieldsFrom_sorted _ _ _) fun x hx => by
    obtain ⟨d, hd, _⟩ := right_def (k2 x hx)
    have := fieldB_iff.1 (def_field hd)
    omega
  refine ⟨msg_parts.2 ⟨hio, ck, by (try simp only []); omega⟩, ?_, by (try simp only []); omega⟩
  have hbm : bmM its = (readB (b.drop 4)).1 := by
    unfold bmM
    rw [k1, of_fields n4 n5]
  unfold writeM
  (try simp only [])
  rw [hbm, n6, toBytes_ofBytes _ (fun c hc => hb c (List.mem_of_mem_take hc))]
  rw [List.append_nil] at k3
  rw [k3, n1, Int.toNat_natCast, ← List.drop_drop, List.take_append_drop, List.take_append_drop]
end Go.Proofs.YtcgnmecbdleehaaDoor.G
end
section
set_option linter.unusedVariables false
set_option linter.unusedSimpArgs false
set_option maxRecDepth 100000
namespace Go.Proofs.YtcgnmecbdleehaaDoor.G
open Go Go.Proofs.YtcgnmecbdleehaaDoor Th Bits
theorem shortS (k : Nat) (d : Deal) : G23 k (d, ()) = some (decide (lens 300 d), ()) := by
  obtain ⟨kind, pan, amt, stan, rrn, code, ⟨⟩⟩ := d
  rw [G23_eq]
  simp only [ofNat_len]
  by_cases h : lens 300 (kind, pan, amt, stan, rrn, code, ())
  · have h1 : pan.length ≤ 300 := h.1
    have h2 : rrn.length ≤ 300 := h.2.1
    have h3 : code.length ≤ 300 := h.2.2
    rw [sel_pos (by omega), sel_pos (by omega), decide_eq_true h, decide_eq_true (show (code.length : Int) ≤ 300 by omega)]
  · rw [decide_eq_false h]
    by_cases h1 : pan.length ≤ 300
    · rw [sel_pos (by omega)]
      by_cases h2 : rrn.length ≤ 300
      · have h3 : ¬ code.length ≤ 300 := fun e => h ⟨h1, h2, e⟩
        rw [sel_pos (by omega), decide_eq_false (show ¬ (code.length : Int) ≤ 300 by omega)]
      · rw [sel_neg (by omega)]
    · rw [sel_neg (by omega)]
theorem fw_le {n kind size : Int} {s : Txt} (hd : defOf n = some (n, kind, size, ())) (h : rightF n s = true) : ((fieldW (n, s, ())).length : Int) ≤ 3 + size := by
  obtain ⟨d, hd', hs, _⟩ := right_def h
  rw [hd] at hd'
  cases hd'
  have hw := fieldW_some (x := (n, s, ())) hd
  have hl := writeF_len (n, kind, size, ()) s
  have hz : (s.length : Int) ≤ size := by
    unfold sized at hs
    split at hs
    · have := of_decide_eq_true hs; (try simp only [] at this); omega
    · simp only [Bool.and_eq_true, decide_eq_true_eq] at hs; exact hs.2
  rw [hw, hl]
  rcases ahead_cases (kind := kind) with e | e | e <;> rw [show G.ahead (n, kind, size, ()).2.1 = G.ahead kind from rfl, e] <;> omega
theorem deal_size {d : Deal} (hg : goodD d) (h : dealOK d = true) : (writeM (typeK d.1, itemsK d, ())).length ≤ 200 := by
  have hm := ok_right hg h
  obtain ⟨h1, h2, h3⟩ := msg_parts.1 hm
  have hi : ∀ x ∈ itemsK d, rightF x.1 x.2.1 = true := (items_ok _ 0 h1).1
  have h4 : (typeK d.1).length = 4 := known_len h2
  have hb := bytesB_le (bmM (itemsK d))
  have ht : (tailM (itemsK d)).length ≤ 150 := by
    obtain ⟨kind, pan, amt, stan, rrn, code, ⟨⟩⟩ := d
    unfold itemsK at hi ⊢
    (try simp only [] at hi ⊢)
    by_cases ca : asksK kind = true
    · rw [if_pos ca] at hi ⊢
      have a1 : ((fieldW (2, pan, ())).length : Int) ≤ 3 + 19 := fw_le (n := 2) (kind := 3) (size := 19) rfl (hi (2, pan, ()) (by simp))
      have a2 : ((fieldW (4, amtT amt, ())).length : Int) ≤ 3 + 12 := fw_le (n := 4) (kind := 1) (size := 12) rfl (hi (4, amtT amt, ()) (by simp))
      have a3 : ((fieldW (11, stanT stan, ())).length : Int) ≤ 3 + 6 := fw_le (n := 11) (kind := 1) (size := 6) rfl (hi (11, stanT stan, ()) (by simp))
      have a4 : ((fieldW (37, rrn, ())).length : Int) ≤ 3 + 12 := fw_le (n := 37) (kind := 2) (size := 12) rfl (hi (37, rrn, ()) (by simp))
      by_cases c5 : 5 ≤ kind
      · rw [if_pos c5] at hi ⊢
        have a5 : ((fieldW (90, originT stan, ())).length : Int) ≤ 3 + 42 := fw_le (n := 90) (kind := 1) (size := 42) rfl (hi (90, originT stan, ()) (by simp))
        simp only [List.cons_append, List.nil_append, tailM, List.length_append, List.length_nil]; omega
      · rw [if_neg c5]
        simp only [List.append_nil, tailM, List.length_append, List.length_nil]; omega
    · rw [if_neg ca] at hi ⊢
      have a3 : ((fieldW (11, stanT stan, ())).length : Int) ≤ 3 + 6 := fw_le (n := 11) (kind := 1) (size := 6) rfl (hi (11, stanT stan, ()) (by simp))
      have a4 : ((fieldW (37, rrn, ())).length : Int) ≤ 3 + 12 := fw_le (n := 37) (kind := 2) (size := 12) rfl (hi (37, rrn, ()) (by simp))
      have a5 : ((fieldW (39, code, ())).length : Int) ≤ 3 + 2 := fw_le (n := 39) (kind := 2) (size := 2) rfl (hi (39, code, ()) (by simp))
      simp only [tailM, List.length_append, List.length_nil]; omega
  rw [writeM_len]
  (try simp only [])
  omega
theorem right_len {m : Msg} (h : msgRight m = true) : ∀ x ∈ m.2.1, x.2.1.length ≤ 999 := by
  intro x hx
  obtain ⟨d, hd, hs, _⟩ := right_def ((items_ok m.2.1 0 (msg_parts.1 h).1).1 x hx)
  exact (sized_le (defOf_mem hd).1 hs).2
theorem readDeal (k : Nat) (hk : 2000 < k) (m : Msg) (h : msgRight m = true) (hl : m.2.1.length ≤ 200) : G109 k (m, ()) = some ((readD m).1, (readD m).2, ()) := by
  obtain ⟨typ, l, ⟨⟩⟩ := m
  have hl' : l.length ≤ 200 := hl
  exact G109_is k hk typ l (by omega) fun x hx => by have := right_len h x hx; omega
def sendM (d : Deal) : Msg := (typeK d.1, itemsK d, ())
def sendB (d : Deal) : List Int := writeM (sendM d)
theorem send_right {d : Deal} (gd : goodD d) (h : dealOK d = true) : msgRight (sendM d) = true := ok_right gd h
theorem send_bytes (d : Deal) : ∀ c ∈ sendB d, byteOK c := writeM_ok _
theorem send_size {d : Deal} (gd : goodD d) (h : dealOK d = true) : (sendB d).length ≤ 200 := deal_size gd h
theorem sendMsg (k : Nat) (hk : 2000 < k) {d : Deal} (gd : goodD d) (h : dealOK d = true) : G54 k (sendM d, ()) = some (sendB d, 0, ()) := by
  have hxl := right_len (send_right gd h)
  have hil := itemsK_len d
  have hW := G54_is k (by omega) (typeK d.1) (itemsK d) (by omega) (fun x hx => by have := hxl x hx; rw [maxLen_eq]; omega)
  rw [if_pos (show msgRight (typeK d.1, itemsK d, ()) = true from send_right gd h)] at hW
  exact hW
theorem sendDealL (k L : Nat) (hL : L ≤ 1000000) (hk : L + 100 < k) (d : Deal) (gd : goodD d) (hl : lens L d) : G53 k (d, ()) = some (if dealOK d = true then (sendM d, 0, ()) else (([], [], ()), 1, ())) := G53_is k L hL hk d hl gd
theorem send_read {d : Deal} (gd : goodD d) (h : dealOK d = true) : readM (sendB d) = (sendM d, 0) ∧ readD (sendM d) = (d, 0) := ⟨read_write_msg (send_right gd h), read_write_deal gd h⟩
theorem send_pos {d : Deal} (gd : goodD d) (h : dealOK d = true) : 1 ≤ (sendB d).length := by
  unfold sendB
  rw [writeM_len, show (sendM d).1.length = 4 from known_len (msg_parts.1 (send_right gd h)).2.1]
  omega
end Go.Proofs.YtcgnmecbdleehaaDoor.G
end
section
set_option linter.unusedVariables false
set_option linter.unusedSimpArgs false
set_option maxRecDepth 100000
namespace Go.Proofs.YtcgnmecbdleehaaDoor.G
open Go Go.Proofs.YtcgnmecbdleehaaDoor Th Bits
abbrev Reader := List Int × Bool × Unit
def hdrN (b : List Int) : Int := 256 * b.getD 0 0 + b.getD 1 0
def firstF (b : List Int) : Int := if b.length < 2 then 0 else if hdrN b = 0 ∨ 2048 < hdrN b then -1 else if (b.length : Int) < 2 + hdrN b then 0 else 2 + hdrN b
def rightR (r : Reader) : Bool := if r.2.1 = true then decide (r.1.length = 0) else decide (firstF r.1 = 0)
theorem hdrN_ok {b : List Int} (hb : ∀ c ∈ b, byteOK c) (h2 : 2 ≤ b.length) : ∃ x y : Nat, b.getD 0 0 = x ∧ b.getD 1 0 = y ∧ x < 256 ∧ y < 256 ∧ hdrN b = ((256 * x + y : Nat) : Int) := by
  have h0 : b.getD 0 0 = b[0] := getD_of (show 0 < b.length by omega) 0
  have h1 : b.getD 1 0 = b[1] := getD_of (show 1 < b.length by omega) 0
  have b0 := hb b[0] (List.getElem_mem _)
  have b1 := hb b[1] (List.getElem_mem _)
  unfold byteOK at b0 b1
  obtain ⟨x, hx⟩ := Int.eq_ofNat_of_zero_le b0.1
  obtain ⟨y, hy⟩ := Int.eq_ofNat_of_zero_le b1.1
  refine ⟨x, y, by rw [h0, hx], by rw [h1, hy], by omega, by omega, ?_⟩
  unfold hdrN
  rw [h0, h1, hx, hy]; omega
theorem or_hdr {x y : Nat} (hx : x < 256) (hy : y < 256) : bits .or .i64 (IntKind.i64.wrap (IntKind.i64.wrap (x : Int) * 256)) (IntKind.i64.wrap (y : Int)) = ((256 * x + y : Nat) : Int) := by
  rw [wrap64 (n := (x : Int)) (by omega) (by omega), show (x : Int) * 256 = ((x * 256 : Nat) : Int) by omega, wrap64 (by omega) (by omega), wrap64 (by omega) (by omega)]
  have hb : (x * 256 ||| y) < 2 ^ 64 := Nat.or_lt_two_pow (by omega) (by omega)
  have e : (BitVec.ofInt 64 ((x * 256 : Nat) : Int) ||| BitVec.ofInt 64 (y : Int)).toNat = (x * 256 ||| y) := by
    rw [BitVec.toNat_or, BitVec.ofInt_natCast, BitVec.ofInt_natCast, BitVec.toNat_ofNat, BitVec.toNat_ofNat, Nat.mod_eq_of_lt (by omega), Nat.mod_eq_of_lt (by omega)]
  have h8 := Nat.shiftLeft_add_eq_or_of_lt (b := y) (i := 8) (by omega) x
  rw [Nat.shiftLeft_eq] at h8
  show IntKind.i64.wrap (((BitVec.ofInt 64 ((x * 256 : Nat) : Int) ||| BitVec.ofInt 64 (y : Int)).toNat : Nat) : Int) = _
  rw [e, ← h8, wrap64 (by omega) (by omega)]
  omega
theorem G123_is (k : Nat) (b : List Int) (hb : ∀ c ∈ b, byteOK c) (hl : b.length ≤ 1000000000000) : G123 k (b, ()) = some (firstF b, ()) := by
  rw [G123_eq]
  unfold firstF
  simp only [ofNat_len]
  by_cases c2 : b.length < 2
  · rw [sel_pos (by omega), if_pos c2]
  obtain ⟨x, y, e0, e1, hx, hy, hh⟩ := hdrN_ok hb (by omega)
  have e8 : (2 : Int) ^ min (Int.toNat 8) 64 = 256 := by rfl
  have ez : Int.toNat 0 = 0 := rfl
  have eo : Int.toNat 1 = 1 := rfl
  rw [sel_neg (by omega), if_neg c2, sel_pos (by omega), sel_pos (by omega), hh]
  simp only [e8, ez, eo, e0, e1, or_hdr hx hy]
  rw [wrap64 (n := 2 + _) (by omega) (by omega)]
  by_cases h0 : ((256 * x + y : Nat) : Int) = 0
  · rw [sel_pos h0, sel_pos h0, if_pos (.inl h0)]
  rw [sel_neg h0]
  by_cases h1 : 2048 < ((256 * x + y : Nat) : Int)
  · rw [sel_pos h1, if_pos (.inr h1)]
  rw [sel_neg h1, if_neg (by omega)]
  by_cases h3 : (b.length : Int) < 2 + ((256 * x + y : Nat) : Int)
  · rw [sel_pos h3, if_pos h3]
  · rw [sel_neg h3, if_neg h3]
theorem G122_is (k : Nat) (r : Reader) (hb : ∀ c ∈ r.1, byteOK c) (hl : r.1.length ≤ 1000000000000) : G122 k (r, ()) = some (rightR r, ()) := by
  obtain ⟨rest, br, ⟨⟩⟩ := r
  rw [G122_eq]
  unfold rightR
  cases br with
  | true =>
    rw [sel_true, if_pos rfl]
    simp only [ofNat_len]
    rw [show decide (((rest.length : Nat) : Int) = 0) = decide (rest.length = 0) from decide_eq_decide.2 (by omega)]
  | false => rw [sel_false, if_neg (by simp), G123_is k rest hb hl, ocall_some]
def feedF : Nat → List Int → List (List Int) × List Int × Bool
  | 0, all => ([], all, false)
  | k + 1, all => if 0 < firstF all then ((all.take (firstF all).toNat).drop 2 :: (feedF k (all.drop (firstF all).toNat)).1, (feedF k (all.drop (firstF all).toNat)).2)
    else if firstF all < 0 then ([], [], true) else ([], all, false)
def feedA (all : List Int) : List (List Int) × List Int × Bool := feedF (all.length + 1) all
theorem first_pos {b : List Int} (hb : ∀ c ∈ b, byteOK c) (h : 0 < firstF b) : 3 ≤ (firstF b).toNat ∧ (firstF b).toNat ≤ b.length ∧ firstF b = 2 + hdrN b ∧ 1 ≤ hdrN b ∧ hdrN b ≤ 2048 ∧ 2 ≤ b.length := by
  unfold firstF at h ⊢
  by_cases c2 : b.length < 2
  · rw [if_pos c2] at h; omega
  obtain ⟨x, y, e0, e1, hx, hy, hh⟩ := hdrN_ok hb (by omega)
  rw [if_neg c2] at h ⊢
  by_cases c3 : hdrN b = 0 ∨ 2048 < hdrN b
  · rw [if_pos c3] at h; omega
  rw [if_neg c3] at h ⊢
  by_cases c4 : (b.length : Int) < 2 + hdrN b
  · rw [if_pos c4] at h; omega
  rw [if_neg c4]
  omega
theorem bytes_drop {b : List Int} (hb : ∀ c ∈ b, byteOK c) (n : Nat) : ∀ c ∈ b.drop n, byteOK c := fun c hc => hb c (List.mem_of_mem_drop hc)
theorem bytes_app {a b : List Int} (ha : ∀ c ∈ a, byteOK c) (hb : ∀ c ∈ b, byteOK c) : ∀ c ∈ a ++ b, byteOK c := fun c hc => (List.mem_append.1 hc).elim (ha c) (hb c)
theorem feedF_same : ∀ (n : Nat) (all : List Int), (∀ c ∈ all, byteOK c) → all.length ≤ n → ∀ k k', all.length < k → all.length < k' → feedF k all = feedF k' all := by
  intro n
  induction n with
  | zero =>
    intro all hb h k k' hk hk'
    have : all = [] := List.eq_nil_of_length_eq_zero (by omega)
    subst this
    obtain ⟨k, rfl⟩ : ∃ m, k = m + 1 := ⟨k - 1, by omega⟩
    obtain ⟨k', rfl⟩ : ∃ m, k' = m + 1 := ⟨k' - 1, by omega⟩
    rfl
  | succ n ih =>
    intro all hb h k k' hk hk'
    obtain ⟨k, rfl⟩ : ∃ m, k = m + 1 := ⟨k - 1, by omega⟩
    obtain ⟨k', rfl⟩ : ∃ m, k' = m + 1 := ⟨k' - 1, by omega⟩
    by_cases c : 0 < firstF all
    · have hf := first_pos hb c
      have := ih (all.drop (firstF all).toNat) (bytes_drop hb _) (by rw [List.length_drop]; omega) k k' (by rw [List.length_drop]; omega) (by rw [List.length_drop]; omega)
      show (if 0 < firstF all then _ else _) = (if 0 < firstF all then _ else _)
      rw [if_pos c, if_pos c, this]
    · show (if 0 < firstF all then _ else _) = (if 0 < firstF all then _ else _)
      rw [if_neg c, if_neg c]
theorem feedA_eq {all : List Int} (hb : ∀ c ∈ all, byteOK c) : feedA all = if 0 < firstF all then ((all.take (firstF all).toNat).drop 2 :: (feedA (all.drop (firstF all).toNat)).1, (feedA (all.drop (firstF all).toNat)).2)
    else if firstF all < 0 then ([], [], true) else ([], all, false) := by
  unfold feedA
  show (if 0 < firstF all then _ else _) = _
  by_cases c : 0 < firstF all
  · have hf := first_pos hb c
    rw [if_pos c, if_pos c, feedF_same all.length (all.drop (firstF all).toNat) (bytes_drop hb _) (by rw [List.length_drop]; omega) all.length ((all.drop (firstF all).toNat).length + 1) (by rw [List.length_drop]; omega) (by omega)]
  · rw [if_neg c, if_neg c]
theorem feedA_pos {all : List Int} (hb : ∀ c ∈ all, byteOK c) (h : 0 < firstF all) : feedA all = ((all.take (firstF all).toNat).drop 2 :: (feedA (all.drop (firstF all).toNat)).1, (feedA (all.drop (firstF all).toNat)).2) := by rw [feedA_eq hb, if_pos h]
theorem feedA_neg {all : List Int} (hb : ∀ c ∈ all, byteOK c) (h : firstF all < 0) : feedA all = ([], [], true) := by rw [feedA_eq hb, if_neg (by omega), if_pos h]
theorem feedA_zero {all : List Int} (hb : ∀ c ∈ all, byteOK c) (h : firstF all = 0) : feedA all = ([], all, false) := by rw [feedA_eq hb, if_neg (by omega), if_neg (by omega)]
theorem first_cases (b : List Int) (hb : ∀ c ∈ b, byteOK c) : firstF b = 0 ∨ firstF b = -1 ∨ 0 < firstF b := by
  unfold firstF
  by_cases c2 : b.length < 2
  · rw [if_pos c2]; exact .inl rfl
  obtain ⟨x, y, e0, e1, hx, hy, hh⟩ := hdrN_ok hb (by omega)
  rw [if_neg c2]
  split
  · exact .inr (.inl rfl)
  split
  · exact .inl rfl
  · right; right; omega
def feedR (r : Reader) (b : List Int) : Reader × List (List Int) × Int :=
  if rightR r = true then
    (if r.2.1 = true then (r, [], 12)
     else if (feedA (r.1 ++ b)).2.2 = true then (([], true, ()), (feedA (r.1 ++ b)).1, 12) else (((feedA (r.1 ++ b)).2.1, false, ()), (feedA (r.1 ++ b)).1, 0))
  else (r, [], 1)
theorem cloneB (k : Nat) (l : List Int) (hl : l.length ≤ 1000000000000) : G124 k l = some (l, ()) := by
  rw [G124_eq, sel_pos (by omega)]
theorem G107_g0_is (k : Nat) : ∀ (n : Nat) (all : List Int), all.length ≤ n → (∀ c ∈ all, byteOK c) → all.length ≤ 1000000000 → ∀ (out : List (List Int)), out.length + all.length ≤ 1000000000 → ∀ c, n < c →
    G107_g0 k c (all, out, [], false, ()) = some (if (feedA all).2.2 = true then (out ++ (feedA all).1, 12, [], true, ()) else (out ++ (feedA all).1, 0, (feedA all).2.1, false, ())) := by
  intro n
  induction n with
  | zero =>
    intro all hn hb hl out ho c hc
    obtain ⟨c, rfl⟩ : ∃ m, c = m + 1 := ⟨c - 1, by omega⟩
    have : all = [] := List.eq_nil_of_length_eq_zero (by omega)
    subst this
    have h0 : firstF [] = 0 := rfl
    rw [G107_g0_eq, G123_is k [] hb (by omega), ocall_some, feedA_zero hb h0, if_neg (by simp)]
    simp only [h0]
    rw [sel_neg (by omega), sel_neg (by omega), cloneB k [] (by simp), ocall_some, List.append_nil]
  | succ n ih =>
    intro all hn hb hl out ho c hc
    obtain ⟨c, rfl⟩ : ∃ m, c = m + 1 := ⟨c - 1, by omega⟩
    rw [G107_g0_eq, G123_is k all hb (by omega), ocall_some]
    simp only [ofNat_len]
    rcases first_cases all hb with h | h | h
    · rw [feedA_zero hb h, if_neg (by simp), sel_neg (by omega), sel_neg (by omega), cloneB k all (by omega), ocall_some, List.append_nil]
    · rw [feedA_neg hb (by omega), if_pos rfl, sel_neg (by omega), sel_pos (by omega), List.append_nil]
    · have hf := first_pos hb h
      rw [sel_pos h, sel_pos (by omega), sel_pos (Int.le_refl _), sel_pos (by omega), sel_pos (by omega), sel_pos (by omega), sel_pos (by omega), sel_pos (Int.le_refl _), sel_pos (Int.le_refl _), Int.toNat_natCast, List.take_of_length_le (Nat.le_refl all.length),
        ih _ (by rw [List.length_drop]; omega) (bytes_drop hb _) (by rw [List.length_drop]; omega) _ (by rw [List.length_append, List.length_drop]; simp; omega) c (by omega), feedA_pos hb h]
      have e2 : Int.toNat 2 = 2 := rfl
      rw [e2]
      by_cases hq : (feedA (all.drop (firstF all).toNat)).2.2 = true
      · rw [if_pos hq, if_pos hq]; simp
      · rw [if_neg hq, if_neg hq]; simp
theorem G107_is (k : Nat) (r : Reader) (b : List Int) (hr : ∀ c ∈ r.1, byteOK c) (hb : ∀ c ∈ b, byteOK c) (hl : r.1.length + b.length ≤ 100000000) (hk : r.1.length + b.length + 10 < k) : G107 k (r, b, ()) = some ((feedR r b).1, (feedR r b).2.1, (feedR r b).2.2, ()) := by
  have hR := G122_is k r hr (by omega)
  obtain ⟨rest, br, ⟨⟩⟩ := r
  have hl : rest.length + b.length ≤ 100000000 := hl
  have hk : rest.length + b.length + 10 < k := hk
  have hr : ∀ c ∈ rest, byteOK c := hr
  rw [G107_eq, hR, ocall_some]
  unfold feedR
  cases hrr : rightR (rest, br, ()) with
  | false => rw [if_neg (by simp)]; rfl
  | true =>
  rw [if_pos rfl]
  simp only [Bool.not_true, sel_false]
  cases br with
  | true => rw [sel_true, if_pos rfl]
  | false =>
  rw [sel_false, if_neg (by simp), G88_is k [rest, b] (by simp) (by simp; omega) (by simp only [lenSum]; omega), ocall_some]
  have ef : [rest, b].flatten = rest ++ b := by simp
  have hab := bytes_app hr hb
  have hlen : (rest ++ b).length = rest.length + b.length := List.length_append
  simp only [ef, ofNat_len]
  rw [G123_is k (rest ++ b) hab (by omega), ocall_some]
  (try simp only [])
  generalize rest ++ b = all at hab hlen
  rcases first_cases all hab with h | h | h
  · rw [feedA_zero hab h, if_neg (by simp), sel_neg (by omega), sel_neg (by omega), cloneB k all (by omega), ocall_some]
  · rw [feedA_neg hab (by omega), if_pos rfl, sel_neg (by omega), sel_pos (by omega)]
  · have hf := first_pos hab h
    rw [sel_pos h, sel_pos (by omega), sel_pos (Int.le_refl _), sel_pos (by omega), sel_pos (by omega), sel_pos (by omega), sel_pos (Int.le_refl _), sel_pos (Int.le_refl _), Int.toNat_natCast, List.take_of_length_le (Nat.le_refl all.length),
      G107_g0_is k all.length _ (by rw [List.length_drop]; omega) (bytes_drop hab _) (by rw [List.length_drop]; omega) _ (by rw [List.length_drop]; simp; omega) k (by omega), ocall_some, feedA_pos hab h]
    have e2 : Int.toNat 2 = 2 := rfl
    rw [e2]
    by_cases hq : (feedA (all.drop (firstF all).toNat)).2.2 = true
    · rw [if_pos hq, if_pos hq]; simp
    · rw [if_neg hq, if_neg hq]; simp
end Go.Proofs.YtcgnmecbdleehaaDoor.G
end
section
set_option linter.unusedVariables false
set_option linter.unusedSimpArgs false
set_option maxRecDepth 100000
namespace Go.Proofs.YtcgnmecbdleehaaDoor.G
open Go Go.Proofs.YtcgnmecbdleehaaDoor Th Bits
theorem feedA_nil : feedA [] = ([], [], false) := rfl
end Go.Proofs.YtcgnmecbdleehaaDoor.G
end
section
set_option linter.unusedVariables false
set_option linter.unusedSimpArgs false
set_option maxRecDepth 100000
namespace Go.Proofs.YtcgnmecbdleehaaDoor.G
open Go Go.Proofs.YtcgnmecbdleehaaDoor Th Bits
def frameW (b : List Int) : List Int := ((b.length / 256 % 256 : Nat) : Int) :: ((b.length % 256 : Nat) : Int) :: b
def putW (b : List Int) : List Int × Int := if b.length = 0 then ([], 2) else if 2048 < b.length then ([], 4) else (frameW b, 0)
theorem G55_is (k : Nat) (b : List Int) : G55 k (b, ()) = some ((putW b).1, (putW b).2, ()) := by
  rw [G55_eq]
  unfold putW
  by_cases h : b.length = 0
  · rw [sel_pos h, if_pos h]
  · rw [sel_neg h, if_neg h]
    by_cases h2 : 2048 < b.length
    · rw [sel_pos h2, if_pos h2]
    · rw [sel_neg h2, if_neg h2]; rfl
theorem frameW_bytes {b : List Int} (hb : ∀ c ∈ b, byteOK c) : ∀ c ∈ frameW b, byteOK c := by
  intro c hc
  unfold frameW at hc
  rcases List.mem_cons.1 hc with h | hc
  · rw [h]; unfold byteOK; omega
  rcases List.mem_cons.1 hc with h | hc
  · rw [h]; unfold byteOK; omega
  · exact hb c hc
theorem frameW_len (b : List Int) : (frameW b).length = b.length + 2 := by simp [frameW]
theorem frame_first {b : List Int} (hb : ∀ c ∈ b, byteOK c) (h1 : 1 ≤ b.length) (h2 : b.length ≤ 2048) (t : List Int) : firstF (frameW b ++ t) = ((b.length + 2 : Nat) : Int) := by
  have hh : hdrN (frameW b ++ t) = (b.length : Int) := by
    show 256 * (((b.length / 256 % 256 : Nat) : Int)) + (((b.length % 256 : Nat) : Int)) = _
    omega
  unfold firstF
  rw [if_neg (by rw [List.length_append, frameW_len]; omega), hh, if_neg (by omega), if_neg (by rw [List.length_append, frameW_len]; omega)]
  omega
theorem feed_frame {b : List Int} (hb : ∀ c ∈ b, byteOK c) (h1 : 1 ≤ b.length) (h2 : b.length ≤ 2048) {t : List Int} (ht : ∀ c ∈ t, byteOK c) : feedA (frameW b ++ t) = (b :: (feedA t).1, (feedA t).2) := by
  have hf := frame_first hb h1 h2 t
  rw [feedA_pos (bytes_app (frameW_bytes hb) ht) (by rw [hf]; omega), hf, Int.toNat_natCast, ← frameW_len, List.take_left, List.drop_left]
  rfl
end Go.Proofs.YtcgnmecbdleehaaDoor.G
end
section
set_option linter.unusedVariables false
set_option linter.unusedSimpArgs false
set_option maxRecDepth 100000
namespace Go.Proofs.YtcgnmecbdleehaaDoor.G
open Go Go.Proofs.YtcgnmecbdleehaaDoor Th Bits
def letterB (d : Deal) : List Int := frameW (sendB d)
theorem letter_len {d : Deal} (gd : goodD d) (h : dealOK d = true) : (letterB d).length ≤ 202 := by unfold letterB; rw [frameW_len]; have := send_size gd h; omega
theorem letter_bytes (d : Deal) : ∀ c ∈ letterB d, byteOK c := frameW_bytes (send_bytes d)
theorem G25_is (k L : Nat) (hk : 2000 < k) (hL : L ≤ 1000000) (hkL : L + 100 < k) (d : Deal) (gd : goodD d) (hl : lens L d) : G25 k (d, ()) = some (if dealOK d = true then (letterB d, 0, ()) else ([], 1, ())) := by
  have hD := sendDealL k L hL hkL d gd hl
  have hM := sendMsg k hk gd
  have hs := send_size gd
  have hp := send_pos gd
  unfold letterB
  generalize sendB d = B at hM hs hp ⊢
  generalize sendM d = M at hD hM ⊢
  obtain ⟨k1, k2, k3, k4, k5, k6, ⟨⟩⟩ := d
  rw [G25_eq, hD]
  by_cases hok : dealOK (k1, k2, k3, k4, k5, k6, ()) = true
  · have hM' : G54 k ((M.1, M.2.1, ()), ()) = some (B, 0, ()) := hM hok
    have hs := hs hok
    have hp := hp hok
    have hP : putW B = (frameW B, 0) := by unfold putW; rw [if_neg (by omega), if_neg (by omega)]
    rw [if_pos hok, if_pos hok, ocall_some]
    simp only [decide_true, Bool.not_true, sel_false]
    rw [hM', ocall_some, G55_is, hP, ocall_some]
  · rw [if_neg hok, if_neg hok, ocall_some]
    rfl
def isOne (b : List Int) : Bool := decide ((feedR ([], false, ()) b).2.2 = 0) && (decide ((feedR ([], false, ()) b).2.1.length = 1) && decide ((feedR ([], false, ()) b).1.1.length = 0))
def openF (b : List Int) : Deal × Int := if isOne b = true then (if (readM (b.drop 2)).2 = 0 then readD (readM (b.drop 2)).1 else (zeroD, (readM (b.drop 2)).2)) else (zeroD, 3)
theorem feed0 (b : List Int) : feedR ([], false, ()) b = if (feedA b).2.2 = true then (([], true, ()), (feedA b).1, 12) else (((feedA b).2.1, false, ()), (feedA b).1, 0) := by
  unfold feedR
  rw [if_pos (show rightR ([], false, ()) = true from rfl), if_neg (by simp)]
  rfl
theorem one_frame {b : List Int} (hb : ∀ c ∈ b, byteOK c) : isOne b = true ↔ (b = frameW (b.drop 2) ∧ 3 ≤ b.length ∧ b.length ≤ 2050) := by
  unfold isOne
  rw [feed0]
  constructor
  · intro h
    by_cases c : (feedA b).2.2 = true
    · rw [if_pos c] at h; exact absurd h (by simp)
    rw [if_neg c] at h
    simp only [Bool.and_eq_true, decide_eq_true_eq, decide_true, true_and] at h
    obtain ⟨h1, h2⟩ := h
    rcases first_cases b hb with f | f | f
    · rw [feedA_zero hb f] at h1; exact absurd h1 (by simp)
    · rw [feedA_neg hb (by omega)] at c; exact absurd rfl c
    · have hp := first_pos hb f
      rw [feedA_pos hb f] at h1 h2 c
      simp only [List.length_cons] at h1
      have hd := bytes_drop hb (firstF b).toNat
      have he : b.drop (firstF b).toNat = [] := by
        generalize b.drop (firstF b).toNat = y at h1 h2 c hd
        rcases first_cases y hd with g | g | g
        · rw [feedA_zero hd g] at h2
          exact List.eq_nil_of_length_eq_zero h2
        · rw [feedA_neg hd (by omega)] at c; exact absurd rfl c
        · rw [feedA_pos hd g] at h1; simp at h1
      have hle : b.length ≤ (firstF b).toNat := by
        have := congrArg List.length he
        rw [List.length_drop] at this
        simp only [List.length_nil] at this
        omega
      obtain ⟨x, y, e0, e1, hx, hy, hh⟩ := hdrN_ok hb hp.2.2.2.2.2
      clear f h1 h2 c hd he
      match b, hb, hp, hle, e0, e1, hh with
      | u :: v :: t, hb, hp, hle, e0, e1, hh =>
        obtain rfl : u = (x : Int) := e0
        obtain rfl : v = (y : Int) := e1
        have hlen : ((x : Int) :: (y : Int) :: t).length = t.length + 2 := rfl
        have hl : t.length = 256 * x + y := by omega
        refine ⟨?_, by omega, by omega⟩
        show (x : Int) :: (y : Int) :: t = ((t.length / 256 % 256 : Nat) : Int) :: ((t.length % 256 : Nat) : Int) :: t
        have q1 : x = t.length / 256 % 256 := by omega
        have q2 : y = t.length % 256 := by omega
        rw [← q1, ← q2]
  · rintro ⟨h1, h2, h3⟩
    have hx : ∀ c ∈ b.drop 2, byteOK c := bytes_drop hb 2
    have hl : (b.drop 2).length = b.length - 2 := by rw [List.length_drop]
    have hf := feed_frame hx (by omega) (by omega) (t := []) (by simp)
    rw [List.append_nil, ← h1, feedA_nil] at hf
    rw [hf]
    rfl
theorem one_item {b : List Int} (hb : ∀ c ∈ b, byteOK c) (h : isOne b = true) : (feedR ([], false, ()) b).2.1 = [b.drop 2] := by
  obtain ⟨h1, h2, h3⟩ := (one_frame hb).1 h
  have hx : ∀ c ∈ b.drop 2, byteOK c := bytes_drop hb 2
  have hl : (b.drop 2).length = b.length - 2 := by rw [List.length_drop]
  have hf := feed_frame hx (by omega) (by omega) (t := []) (by simp)
  rw [List.append_nil, ← h1, feedA_nil] at hf
  rw [feed0, hf]
  rfl
theorem G80_is (k : Nat) (hk : 2000 < k) (b : List Int) (hb : ∀ c ∈ b, byteOK c) (hl : b.length ≤ 10000000) (hkl : b.length + 10 < k) : G80 k (b, ()) = some ((openF b).1, (openF b).2, ()) := by
  have hF := G107_is k ([], false, ()) b (by simp) hb (by simp; omega) (by simp; omega)
  rw [G80_eq, hF, ocall_some]
  unfold openF
  simp only [ofNat_len]
  by_cases ho : isOne b = true
  case neg =>
    rw [if_neg ho]
    unfold isOne at ho
    by_cases c1 : (feedR ([], false, ()) b).2.2 = 0
    case neg => rw [sel_not, sel_neg c1]; rfl
    rw [sel_not, sel_pos c1]
    by_cases c2 : (feedR ([], false, ()) b).2.1.length = 1
    case neg => rw [sel_not, sel_neg (by omega)]; rfl
    rw [sel_not, sel_pos (by omega)]
    by_cases c3 : (feedR ([], false, ()) b).1.1.length = 0
    · exact absurd (by rw [decide_eq_true c1, decide_eq_true c2, decide_eq_true c3]; rfl) ho
    · rw [sel_pos (by omega)]; rfl
  rw [if_pos ho]
  have hit := one_item hb ho
  have ho2 := ho
  unfold isOne at ho2
  simp only [Bool.and_eq_true, decide_eq_true_eq] at ho2
  have hx : ∀ c ∈ b.drop 2, byteOK c := bytes_drop hb 2
  have hxl : (b.drop 2).length ≤ b.length := by rw [List.length_drop]; omega
  rw [sel_not, sel_pos ho2.1, sel_not, sel_pos (by omega), sel_neg (by omega), hit, sel_pos (by simp), sel_pos (by simp)]
  rw [show ([b.drop 2] : List (List Int)).getD (Int.toNat 0) [] = b.drop 2 from rfl, G108_is k (by omega) _ hx (by omega), ocall_some]
  generalize b.drop 2 = x at hx
  by_cases he : (readM x).2 = 0
  case neg => rw [sel_not, sel_neg he, if_neg he]; rfl
  obtain ⟨w1, w2, w3⟩ := write_read_msg hx he
  have eR : ((((readM x).1.1, (readM x).1.2.1, ()) : Msg)) = (readM x).1 := rfl
  rw [sel_not, sel_pos he, if_pos he]
  (try simp only [])
  rw [eR, readDeal k hk _ w1 (by omega), ocall_some]
theorem open_letter {d : Deal} (gd : goodD d) (h : dealOK d = true) : openF (letterB d) = (d, 0) := by
  have h1 := send_size gd h
  have h2 := send_pos gd h
  have hd : (letterB d).drop 2 = sendB d := rfl
  have ho : isOne (letterB d) = true := (one_frame (letter_bytes d)).2 ⟨by rw [hd]; rfl, by unfold letterB; rw [frameW_len]; omega, by unfold letterB; rw [frameW_len]; omega⟩
  obtain ⟨r1, r2⟩ := send_read gd h
  unfold openF
  rw [if_pos ho, hd, r1, if_pos rfl, r2]
end Go.Proofs.YtcgnmecbdleehaaDoor.G
end
section
set_option linter.unusedVariables false
set_option linter.unusedSimpArgs false
set_option maxRecDepth 100000
namespace Go.Proofs.YtcgnmecbdleehaaDoor.G
open Go Go.Proofs.YtcgnmecbdleehaaDoor Th Bits
theorem G22_2_is (k : Nat) (l : List (List Int)) : ∀ (j i : Nat), i + j = (l.take 300).length → ∀ n, j < n →
    G22_2 k n (l, (i : Int), ()) = some (if ((l.take 300).drop i).all (fun x => decide (x.length ≤ 3000)) = true then .inl (l, ()) else .inr (false, ())) := by
  intro j
  induction j with
  | zero =>
    intro i hij n hn
    obtain ⟨n, rfl⟩ : ∃ m, n = m + 1 := ⟨n - 1, by omega⟩
    rw [List.drop_eq_nil_of_le (by omega), G22_2_eq]
    rw [List.length_take] at hij
    simp only [ofNat_len]
    by_cases h : i < l.length
    · rw [sel_pos (by omega), sel_neg (by omega)]; rfl
    · rw [sel_neg (by omega)]; rfl
  | succ j ih =>
    intro i hij n hn
    obtain ⟨n, rfl⟩ : ∃ m, n = m + 1 := ⟨n - 1, by omega⟩
    have hlt' : i < (l.take 300).length := by omega
    have hij' := hij
    rw [List.length_take] at hij'
    have hlt : i < l.length := by omega
    have hw : IntKind.i64.wrap ((i : Int) + 1) = ((i + 1 : Nat) : Int) := by rw [wrap64 (by omega) (by omega)]; omega
    have he : (l.take 300)[i] = l[i] := List.getElem_take
    rw [G22_2_eq]
    simp only [ofNat_len, Int.toNat_natCast, getD_of hlt]
    rw [sel_pos (by omega), sel_pos (by omega), sel_pos (by omega), sel_pos (by omega), List.drop_eq_getElem_cons hlt', he, List.all_cons]
    by_cases c : l[i].length ≤ 3000
    · rw [sel_neg (by omega), hw, ih (i + 1) (by omega) n (by omega), decide_eq_true c, Bool.true_and]
    · rw [sel_pos (by omega), decide_eq_false c, Bool.false_and]; rfl
theorem G22_is (k : Nat) (hk : 301 < k) (l : List (List Int)) : ∃ b, G22 k (l, ()) = some (b, ()) ∧ (b = true → l.length ≤ 300 ∧ ∀ x ∈ l, x.length ≤ 3000) := by
  have h := G22_2_is k l (l.take 300).length 0 (by omega) k (by rw [List.length_take]; omega)
  rw [List.drop_zero, Int.natCast_zero] at h
  rw [G22_eq, h, ocall_some]
  by_cases c : (l.take 300).all (fun x => decide (x.length ≤ 3000)) = true
  · rw [if_pos c, esel_inl]
    refine ⟨_, rfl, fun h => ?_⟩
    have hle : l.length ≤ 300 := by have := of_decide_eq_true h; simp only [ofNat_len] at this; omega
    rw [List.take_of_length_le (by omega)] at c
    exact ⟨hle, fun x hx => by simpa using List.all_eq_true.1 c x hx⟩
  · rw [if_neg c, esel_inr]
    exact ⟨_, rfl, fun h => absurd h (by simp)⟩
end Go.Proofs.YtcgnmecbdleehaaDoor.G
end
section
set_option linter.unusedVariables false
set_option linter.unusedSimpArgs false
namespace Go.Proofs.YtcgnmecbdleehaaDoor.G
open Go Go.Proofs.YtcgnmecbdleehaaDoor Th
theorem dropAt {α : Type} {l : List α} {i : Nat} (h : i < l.length) : l.drop i = l[i] :: l.drop (i + 1) := List.drop_eq_getElem_cons h
theorem takeAt {α : Type} {l : List α} {i : Nat} (h : i < l.length) : l.take (i + 1) = l.take i ++ [l[i]] := by rw [List.take_add_one, List.getElem?_eq_getElem h]; rfl
theorem setTake {α : Type} {l : List α} {i : Nat} (h : i < l.length) (x : α) : (l.set i x).take (i + 1) = l.take i ++ [x] := by
  rw [takeAt (by rw [List.length_set]; exact h), List.getElem_set_self, List.take_set_of_le (Nat.le_refl _)]
theorem idx_loop {α : Type} (p : α → Bool) (l : List α) (L : Nat → Int → Option (Unit ⊕ (Int × Unit)))
    (h1 : ∀ (j t : Nat) (h : t < l.length), L (j + 1) (t : Int) = bif p l[t] then some (.inr ((t : Int), ())) else L j ((t + 1 : Nat) : Int)) (h0 : ∀ j : Nat, L (j + 1) (l.length : Int) = some (.inl ())) :
    ∀ (m i : Nat), i + m = l.length → (∀ x ∈ l.take i, p x = false) → ∀ n, m < n →
      (L n (i : Int) = some (.inl ()) ∧ ∀ x ∈ l, p x = false) ∨ ∃ t, ∃ h : t < l.length, L n (i : Int) = some (.inr ((t : Int), ())) ∧ p l[t] = true ∧ ∀ x ∈ l.take t, p x = false := by
  intro m
  induction m with
  | zero =>
    intro i hi ha n hn
    obtain ⟨n, rfl⟩ : ∃ m, n = m + 1 := ⟨n - 1, by omega⟩
    have e : i = l.length := by omega
    subst e
    rw [List.take_length] at ha
    exact .inl ⟨h0 n, ha⟩
  | succ m ih =>
    intro i hi ha n hn
    obtain ⟨n, rfl⟩ : ∃ m, n = m + 1 := ⟨n - 1, by omega⟩
    have hlt : i < l.length := by omega
    rw [h1 n i hlt]
    cases hp : p l[i] with
    | true => exact .inr ⟨i, hlt, rfl, hp, ha⟩
    | false =>
      refine ih (i + 1) (by omega) (fun x hx => ?_) n (by omega)
      rw [takeAt hlt, List.mem_append, List.mem_singleton] at hx
      rcases hx with hx | rfl
      · exact ha x hx
      · exact hp
theorem del_loop {α : Type} (p : α → Bool) (l : List α) (L : Nat → List α → Int → Int → Option (List α × Int × Unit))
    (h1 : ∀ (j : Nat) (v : List α) (i t : Nat) (h : t < v.length), v.length = l.length → i < t → L (j + 1) v (i : Int) (t : Int) = bif p v[t] then L j v (i : Int) ((t + 1 : Nat) : Int) else L j (v.set i v[t]) ((i + 1 : Nat) : Int) ((t + 1 : Nat) : Int))
    (h0 : ∀ (j : Nat) (v : List α) (i : Nat), L (j + 1) v (i : Int) (v.length : Int) = some (v, (i : Int), ())) :
    ∀ (m t i : Nat) (v : List α), t + m = l.length → v.length = l.length → i < t → v.take i = (l.take t).filter (fun x => !p x) → v.drop t = l.drop t → ∀ n, m < n →
      ∃ (v' : List α) (i' : Nat), L n v (i : Int) (t : Int) = some (v', (i' : Int), ()) ∧ i' ≤ v'.length ∧ v'.take i' = l.filter (fun x => !p x) := by
  intro m
  induction m with
  | zero =>
    intro t i v ht hv hit hk hd n hn
    obtain ⟨n, rfl⟩ : ∃ m, n = m + 1 := ⟨n - 1, by omega⟩
    have e : t = v.length := by omega
    subst e
    rw [show l.take v.length = l from List.take_of_length_le (by omega)] at hk
    exact ⟨v, i, h0 n v i, by omega, hk⟩
  | succ m ih =>
    intro t i v ht hv hit hk hd n hn
    obtain ⟨n, rfl⟩ : ∃ m, n = m + 1 := ⟨n - 1, by omega⟩
    have hlt : t < v.length := by omega
    have hltl : t < l.length := by omega
    rw [dropAt hlt, dropAt hltl] at hd
    obtain ⟨hd1, hd2⟩ := List.cons.inj hd
    rw [h1 n v i t hlt hv hit]
    cases hp : p v[t] with
    | true =>
      refine ih (t + 1) i v (by omega) hv (by omega) ?_ hd2 n (by omega)
      rw [takeAt hltl, List.filter_append, hk, ← hd1]
      simp [hp]
    | false =>
      refine ih (t + 1) (i + 1) (v.set i v[t]) (by omega) (by rw [List.length_set]; exact hv) (by omega) ?_ ?_ n (by omega)
      · rw [setTake (by omega), takeAt hltl, List.filter_append, hk, ← hd1]
        simp [hp]
      · rw [List.drop_set_of_lt (by omega)]; exact hd2
theorem del_end {α : Type} (z : α) (v : List α) (i : Nat) (h : i ≤ v.length) :
    sel (decide (0 ≤ (i : Int))) (sel (decide ((i : Int) ≤ Int.ofNat v.length)) (sel (decide ((i : Int).toNat ≤ v.length)) (sel (decide (Int.ofNat 0 ≤ (i : Int))) (sel (decide ((i : Int) ≤ Int.ofNat (List.take (i : Int).toNat v ++ List.replicate (v.length - (i : Int).toNat) z).length))
      (sel (decide (Int.ofNat (List.take (i : Int).toNat v ++ List.replicate (v.length - (i : Int).toNat) z).length ≤ Int.ofNat (List.take (i : Int).toNat v ++ List.replicate (v.length - (i : Int).toNat) z).length))
        (some (List.drop (Int.ofNat 0).toNat (List.take (i : Int).toNat (List.take (i : Int).toNat v ++ List.replicate (v.length - (i : Int).toNat) z)), ())) none) none) none) none) none) none = some (v.take i, ()) := by
  have hl : (List.take i v ++ List.replicate (v.length - i) z).length = v.length := by rw [List.length_append, List.length_take, List.length_replicate]; omega
  rw [Int.toNat_natCast, hl]
  rw [sel_pos (by omega), sel_pos (by simp only [ofNat_len]; omega), sel_pos (by omega), sel_pos (by show (0 : Int) ≤ _; omega), sel_pos (by simp only [ofNat_len]; omega), sel_pos (by omega)]
  rw [List.take_append_of_le_length (by rw [List.length_take]; omega), List.take_take, Nat.min_self]
  rfl
theorem filter_none {α : Type} {p : α → Bool} {l : List α} (h : ∀ x ∈ l, p x = false) : l.filter (fun x => !p x) = l :=
  List.filter_eq_self.2 fun x hx => by rw [h x hx]; rfl
theorem del_first {α : Type} {p : α → Bool} {l : List α} {i : Nat} (h : i < l.length) (hp : p l[i] = true) (ha : ∀ x ∈ l.take i, p x = false) : l.take i = (l.take (i + 1)).filter (fun x => !p x) := by
  rw [takeAt h, List.filter_append, filter_none ha]
  simp [hp]
end Go.Proofs.YtcgnmecbdleehaaDoor.G
end
section
set_option linter.unusedVariables false
set_option linter.unusedSimpArgs false
set_option maxRecDepth 100000
namespace Go.Proofs.YtcgnmecbdleehaaDoor.G
open Go Go.Proofs.YtcgnmecbdleehaaDoor Th Bits
theorem sameK' (a b : Key) : (sameI a.1 b.1 && (sameS a.2.1 b.2.1 && true)) = decide (a = b) := by
  obtain ⟨a1, a2, ⟨⟩⟩ := a
  obtain ⟨b1, b2, ⟨⟩⟩ := b
  rw [show sameI a1 b1 = decide (a1 = b1) from rfl, show sameS a2 b2 = decide (a2 = b2) from rfl, Bool.and_true]
  by_cases h1 : a1 = b1
  · by_cases h2 : a2 = b2
    · subst h1 h2; simp
    · rw [decide_eq_false h2, Bool.and_false, decide_eq_false (fun e => h2 (by simpa using (Prod.mk.inj (Prod.mk.inj e).2).1))]
  · rw [decide_eq_false h1, Bool.false_and, decide_eq_false (fun e => h1 (Prod.mk.inj e).1)]
def keyD (d : Deal) : Key := (d.2.2.2.1, d.2.2.2.2.1, ())
def otherD (k : Key) (d : Deal) : Bool := !decide (keyD d = k)
theorem G81_is (k : Nat) (c : Key) (d : Deal) : G81 k ((c, ()), d, ()) = some (otherD c d, ()) := by
  have h := sameK' (keyD d) c
  obtain ⟨d1, d2, d3, d4, d5, d6, ⟨⟩⟩ := d
  obtain ⟨c1, c2, ⟨⟩⟩ := c
  rw [G81_eq, G27_eq, ocall_some]
  unfold otherD
  rw [← h]
  rfl
def notAns (d : Deal) : Bool := !decide (d.1 = 2)
theorem G49_is (k : Nat) (d : Deal) : G49 k (d, ()) = some (notAns d, ()) := by
  obtain ⟨d1, d2, d3, d4, d5, d6, ⟨⟩⟩ := d
  rw [G49_eq]; rfl
theorem G7000002_is (k : Nat) (c : Key) (l : List Deal) (hl : l.length ≤ 100000) (hk : l.length + 1 < k) :
    G7000002 k (l, c, ()) = some (l.filter (fun d => !otherD c d), ()) := by
  have hO := G81_is k c
  obtain ⟨c1, c2, ⟨⟩⟩ := c
  have hI := idx_loop (otherD (c1, c2, ())) l (fun n t => G7000001_2 k n (l, (c1, c2, ()), Int.ofNat l.length, t, ())) (fun j t h => by
    have hO := hO l[t]
    (try simp only [])
    rw [G7000001_2_eq]
    simp only [ofNat_len, Int.toNat_natCast, getD_of h]
    rw [sel_pos (by omega), sel_pos (by omega), sel_pos (by omega), show G81 k (((c1, c2, ()), ()), ((l[t]).1, (l[t]).2.1, (l[t]).2.2.1, (l[t]).2.2.2.1, (l[t]).2.2.2.2.1, (l[t]).2.2.2.2.2.1, ()), ()) = _ from hO, ocall_some, wrap64 (by omega) (by omega)]
    cases otherD (c1, c2, ()) l[t] <;> rfl) (fun j => by
    (try simp only [])
    rw [G7000001_2_eq, sel_neg (by simp only [ofNat_len]; omega)]) l.length 0 (by omega) (by simp) k (by omega)
  rw [Int.natCast_zero] at hI
  rw [G7000002_eq, G7000001_eq]
  rcases hI with ⟨e, ha⟩ | ⟨i, hi, e, hp, ha⟩
  · (try simp only [] at e)
    rw [e, ocall_some, esel_inl, ocall_some, sel_pos rfl, filter_none ha]
  · (try simp only [] at e)
    rw [e, ocall_some, esel_inr, ocall_some, sel_neg (by (try simp only []); omega)]
    (try simp only [])
    rw [wrap64 (by omega) (by omega)]
    obtain ⟨v', i', q1, q2, q3⟩ := del_loop (otherD (c1, c2, ())) l (fun n v i t => G7000002_5 k n (v, (c1, c2, ()), i, t, ())) (fun j v i t h hv hit => by
      have hO := hO v[t]
      (try simp only [])
      rw [G7000002_5_eq]
      simp only [ofNat_len, Int.toNat_natCast, getD_of h]
      rw [sel_pos (by omega), sel_pos (by omega), sel_pos (by omega), sel_pos (by omega), show G81 k (((c1, c2, ()), ()), ((v[t]).1, (v[t]).2.1, (v[t]).2.2.1, (v[t]).2.2.2.1, (v[t]).2.2.2.2.1, (v[t]).2.2.2.2.2.1, ()), ()) = _ from hO, ocall_some, wrap64 (by omega) (by omega), wrap64 (by omega) (by omega)]
      rw [sel_pos (by omega), sel_pos (by omega), sel_pos (by omega)]
      cases otherD (c1, c2, ()) v[t] <;> rfl) (fun j v i => by
      (try simp only [])
      rw [G7000002_5_eq, sel_neg (by simp only [ofNat_len]; omega)]) (l.length - (i + 1)) (i + 1) i l (by omega) rfl (by omega) (del_first hi hp ha) rfl k (by omega)
    (try simp only [] at q1)
    rw [show ((i : Int) + 1) = ((i + 1 : Nat) : Int) by omega, q1, ocall_some]
    refine (del_end _ v' i' q2).trans ?_
    rw [q3]
theorem G7000004_is (k : Nat) (l : List Deal) (hl : l.length ≤ 100000) (hk : l.length + 1 < k) :
    G7000004 k (l, (), ()) = some (l.filter (fun d => !notAns d), ()) := by
  have hO := G49_is k
  have hI := idx_loop notAns l (fun n t => G7000003_2 k n (l, (), Int.ofNat l.length, t, ())) (fun j t h => by
    have hO := hO l[t]
    (try simp only [])
    rw [G7000003_2_eq]
    simp only [ofNat_len, Int.toNat_natCast, getD_of h]
    rw [sel_pos (by omega), sel_pos (by omega), sel_pos (by omega), show G49 k (((l[t]).1, (l[t]).2.1, (l[t]).2.2.1, (l[t]).2.2.2.1, (l[t]).2.2.2.2.1, (l[t]).2.2.2.2.2.1, ()), ()) = _ from hO, ocall_some, wrap64 (by omega) (by omega)]
    cases notAns l[t] <;> rfl) (fun j => by
    (try simp only [])
    rw [G7000003_2_eq, sel_neg (by simp only [ofNat_len]; omega)]) l.length 0 (by omega) (by simp) k (by omega)
  rw [Int.natCast_zero] at hI
  rw [G7000004_eq, G7000003_eq]
  rcases hI with ⟨e, ha⟩ | ⟨i, hi, e, hp, ha⟩
  · (try simp only [] at e)
    rw [e, ocall_some, esel_inl, ocall_some, sel_pos rfl, filter_none ha]
  · (try simp only [] at e)
    rw [e, ocall_some, esel_inr, ocall_some, sel_neg (by (try simp only []); omega)]
    (try simp only [])
    rw [wrap64 (by omega) (by omega)]
    obtain ⟨v', i', q1, q2, q3⟩ := del_loop notAns l (fun n v i t => G7000004_5 k n (v, (), i, t, ())) (fun j v i t h hv hit => by
      have hO := hO v[t]
      (try simp only [])
      rw [G7000004_5_eq]
      simp only [ofNat_len, Int.toNat_natCast, getD_of h]
      rw [sel_pos (by omega), sel_pos (by omega), sel_pos (by omega), sel_pos (by omega), show G49 k (((v[t]).1, (v[t]).2.1, (v[t]).2.2.1, (v[t]).2.2.2.1, (v[t]).2.2.2.2.1, (v[t]).2.2.2.2.2.1, ()), ()) = _ from hO, ocall_some, wrap64 (by omega) (by omega), wrap64 (by omega) (by omega)]
      rw [sel_pos (by omega), sel_pos (by omega), sel_pos (by omega)]
      cases notAns v[t] <;> rfl) (fun j v i => by
      (try simp only [])
      rw [G7000004_5_eq, sel_neg (by simp only [ofNat_len]; omega)]) (l.length - (i + 1)) (i + 1) i l (by omega) rfl (by omega) (del_first hi hp ha) rfl k (by omega)
    (try simp only [] at q1)
    rw [show ((i : Int) + 1) = ((i + 1 : Nat) : Int) by omega, q1, ocall_some]
    refine (del_end _ v' i' q2).trans ?_
    rw [q3]
def opensB (l : List (List Int)) : List Deal := l.filterMap fun b => if (openF b).2 = 0 then some (openF b).1 else none
def dealsF (l : List (List Int)) (c : Key) : List Deal := (opensB l).filter fun d => !otherD c d
theorem opens_len (l : List (List Int)) : (opensB l).length ≤ l.length := List.length_filterMap_le _ _
theorem dealsF_len (l : List (List Int)) (c : Key) : (dealsF l c).length ≤ l.length := Nat.le_trans (List.length_filter_le _ _) (opens_len l)
def byteLs (l : List (List Int)) : Prop := ∀ b ∈ l, (∀ c ∈ b, byteOK c) ∧ b.length ≤ 3000
theorem deals_loop' (k : Nat) (hk : 4000 < k) (l : List (List Int)) (hb : byteLs l) (hl : l.length ≤ 1000) (c1 : Int) (c2 : Txt) : ∀ (j i : Nat), i + j = l.length → ∀ n, j < n →
    G48_3 k n (opensB (l.take i), l, Int.ofNat l.length, (i : Int), c1, c2, ()) = some (opensB l, c1, c2, ()) := by
  intro j
  induction j with
  | zero =>
    intro i hij n hn
    obtain ⟨n, rfl⟩ : ∃ m, n = m + 1 := ⟨n - 1, by omega⟩
    rw [List.take_of_length_le (by omega), G48_3_eq, sel_neg (by simp only [ofNat_len]; omega)]
  | succ j ih =>
    intro i hij n hn
    obtain ⟨n, rfl⟩ : ∃ m, n = m + 1 := ⟨n - 1, by omega⟩
    have hlt : i < l.length := by omega
    obtain ⟨g1, g2⟩ := hb _ (List.getElem_mem hlt)
    have hO := G80_is k (by omega) l[i] g1 (by omega) (by omega)
    have hi := ih (i + 1) (by omega) n (by omega)
    have hol := opens_len (l.take i)
    rw [List.length_take] at hol
    have e : opensB (l.take (i + 1)) = opensB (l.take i) ++ (if (openF l[i]).2 = 0 then [(openF l[i]).1] else []) := by
      unfold opensB
      rw [takeAt hlt, List.filterMap_append]
      congr 1
      by_cases c : (openF l[i]).2 = 0
      · simp [c]
      · simp [c]
    rw [G48_3_eq]
    simp only [ofNat_len, Int.toNat_natCast, getD_of hlt]
    rw [sel_pos (by omega), sel_pos (by omega), sel_pos (by omega), hO, ocall_some, wrap64 (by omega) (by omega)]
    rw [e] at hi
    by_cases c : (openF l[i]).2 = 0
    · rw [if_pos c] at hi
      rw [sel_pos c, sel_pos (by omega)]
      exact hi
    · rw [if_neg c, List.append_nil] at hi
      rw [sel_neg c]
      exact hi
theorem G48_is (k : Nat) (hk : 4000 < k) (l : List (List Int)) (hb : byteLs l) (hl : l.length ≤ 1000) (c : Key) : G48 k (l, c, ()) = some (dealsF l c, ()) := by
  have hD := G7000002_is k c (opensB l) (by have := opens_len l; omega) (by have := opens_len l; omega)
  have h := deals_loop' k hk l hb hl c.1 c.2.1 l.length 0 (by omega) k (by omega)
  obtain ⟨c1, c2, ⟨⟩⟩ := c
  rw [List.take_zero, Int.natCast_zero] at h
  rw [G48_eq, show G48_3 k k ([], l, Int.ofNat l.length, 0, c1, c2, ()) = _ from h, ocall_some]
  (try simp only [])
  rw [hD, ocall_some]
  rfl
def manyF (l : List Deal) (kind : Int) : Nat := (l.filter fun d => decide (d.1 = kind)).length
theorem many_loop (k : Nat) (l : List Deal) (hl : l.length ≤ 100000) (kind : Int) : ∀ (j i : Nat), i + j = l.length → ∀ n, j < n →
    G52_g0 k n (l, kind, (manyF (l.take i) kind : Int), (i : Int), ()) = some ((manyF l kind : Int), ()) := by
  intro j
  induction j with
  | zero =>
    intro i hij n hn
    obtain ⟨n, rfl⟩ : ∃ m, n = m + 1 := ⟨n - 1, by omega⟩
    rw [List.take_of_length_le (by omega), G52_g0_eq, sel_pos (by simp only [ofNat_len]; omega)]
  | succ j ih =>
    intro i hij n hn
    obtain ⟨n, rfl⟩ : ∃ m, n = m + 1 := ⟨n - 1, by omega⟩
    have hlt : i < l.length := by omega
    have hi := ih (i + 1) (by omega) n (by omega)
    have hm : manyF (l.take i) kind ≤ i := by unfold manyF; have := List.length_filter_le (fun d : Deal => decide (d.1 = kind)) (l.take i); rw [List.length_take] at this; omega
    have e : manyF (l.take (i + 1)) kind = manyF (l.take i) kind + (if (l[i]).1 = kind then 1 else 0) := by
      unfold manyF
      rw [takeAt hlt, List.filter_append, List.length_append]
      by_cases c : (l[i]).1 = kind
      · simp [c]
      · simp [c]
    rw [e] at hi
    rw [G52_g0_eq]
    simp only [ofNat_len, Int.toNat_natCast, getD_of hlt]
    rw [sel_neg (by omega), sel_pos (by omega), sel_pos (by omega), wrap64 (by omega) (by omega), wrap64 (by omega) (by omega)]
    by_cases c : (l[i]).1 = kind
    · rw [if_pos c] at hi
      rw [sel_pos c]
      exact hi
    · rw [if_neg c] at hi
      rw [sel_neg c]
      exact hi
theorem G52_is (k : Nat) (l : List Deal) (hl : l.length ≤ 100000) (hk : l.length < k) (kind : Int) : G52 k (l, kind, ()) = some ((manyF l kind : Int), ()) := by
  rw [G52_eq]
  simp only [ofNat_len]
  by_cases h0 : l.length = 0
  · have : l = [] := List.eq_nil_of_length_eq_zero h0
    subst this
    rw [sel_pos (by simp)]
    rfl
  have hlt : 0 < l.length := by omega
  have h := many_loop k l hl kind (l.length - 1) 1 (by omega) k (by omega)
  have e : manyF (l.take 1) kind = (if (l[0]).1 = kind then 1 else 0) := by
    unfold manyF
    rw [takeAt hlt]
    by_cases c : (l[0]).1 = kind
    · simp [c]
    · simp [c]
  have e0 : l.getD (Int.toNat 0) (0, [], 0, 0, [], [], ()) = l[0] := getD_of hlt _
  rw [e] at h
  rw [sel_neg (by omega), sel_pos (by omega), e0, show IntKind.i64.wrap (0 + 1) = ((1 : Nat) : Int) from rfl]
  by_cases c : (l[0]).1 = kind
  · rw [if_pos c] at h
    rw [sel_pos c, h, ocall_some]
  · rw [if_neg c] at h
    rw [sel_neg c, show (0 : Int) = ((0 : Nat) : Int) from rfl, h, ocall_some]
abbrev Sight := List Deal × Int × Int × Int × Int × Unit
def answersF (l : List Deal) : List Deal := l.filter fun d => !notAns d
def seeF (a i : List (List Int)) (c : Key) : Sight := (answersF (dealsF a c), (manyF (dealsF i c) 1 : Int), (manyF (dealsF i c) 5 : Int), (manyF (dealsF i c) 6 : Int), (manyF (dealsF a c) 4 : Int), ())
theorem G24_is (k : Nat) (hk : 4000 < k) (a i : List (List Int)) (ha : byteLs a) (hi : byteLs i) (la : a.length ≤ 1000) (li : i.length ≤ 1000) (c : Key) : G24 k (a, i, c, ()) = some (seeF a i c, ()) := by
  have h1 := G48_is k hk a ha la c
  have h2 := G48_is k hk i hi li c
  have l1 := dealsF_len a c
  have l2 := dealsF_len i c
  have h3 := G7000004_is k (dealsF a c) (by omega) (by omega)
  have m := fun (l : List Deal) (h : l.length ≤ 1000) (kind : Int) => G52_is k l (by omega) (by omega) kind
  unfold seeF
  obtain ⟨c1, c2, ⟨⟩⟩ := c
  generalize dealsF a (c1, c2, ()) = A at *
  generalize dealsF i (c1, c2, ()) = I at *
  rw [G24_eq, h1, ocall_some, h2, ocall_some, G51_eq, sel_pos (by (try simp only []); omega), ocall_some]
  (try simp only [])
  rw [h3, ocall_some, m A (by omega), ocall_some, m I (by omega), ocall_some, m I (by omega), ocall_some, m I (by omega), ocall_some]
  rfl
end Go.Proofs.YtcgnmecbdleehaaDoor.G
end
section
set_option linter.unusedVariables false
set_option linter.unusedSimpArgs false
set_option maxRecDepth 100000
namespace Go.Proofs.YtcgnmecbdleehaaDoor.G
open Go Go.Proofs.YtcgnmecbdleehaaDoor Th Bits
def ownF (d : Deal) : Bool := !decide (d.2.2.2.2.2.1 = [57, 52]) && !decide (d.2.2.2.2.2.1 = [57, 54])
theorem G56_is (k : Nat) (d : Deal) : G56 k (d, ()) = some (ownF d, ()) := by
  obtain ⟨d1, d2, d3, d4, d5, d6, ⟨⟩⟩ := d
  rw [G56_eq]
  unfold ownF
  cases !decide (d6 = [57, 52]) <;> rfl
def oddF (l : List Deal) : Bool := match l.find? ownF with
  | none => false
  | some f => l.any fun d => ownF d && !decide (d = f)
theorem first_is (k : Nat) (l : List Deal) (hl : l.length ≤ 100000) (hk : l.length < k) :
    (G7000005 k (l, (), ()) = some (-1, ()) ∧ ∀ x ∈ l, ownF x = false) ∨ ∃ t, ∃ h : t < l.length, G7000005 k (l, (), ()) = some ((t : Int), ()) ∧ ownF l[t] = true ∧ ∀ x ∈ l.take t, ownF x = false := by
  have hO := G56_is k
  have hI := idx_loop ownF l (fun n t => G7000005_2 k n (l, (), Int.ofNat l.length, t, ())) (fun j t h => by
    have hO := hO l[t]
    (try simp only [])
    rw [G7000005_2_eq]
    simp only [ofNat_len, Int.toNat_natCast, getD_of h]
    rw [sel_pos (by omega), sel_pos (by omega), sel_pos (by omega), show G56 k (((l[t]).1, (l[t]).2.1, (l[t]).2.2.1, (l[t]).2.2.2.1, (l[t]).2.2.2.2.1, (l[t]).2.2.2.2.2.1, ()), ()) = _ from hO, ocall_some, wrap64 (by omega) (by omega)]
    cases ownF l[t] <;> rfl) (fun j => by
    (try simp only [])
    rw [G7000005_2_eq, sel_neg (by simp only [ofNat_len]; omega)]) l.length 0 (by omega) (by simp) k (by omega)
  rw [Int.natCast_zero] at hI
  rw [G7000005_eq]
  rcases hI with ⟨e, ha⟩ | ⟨i, hi, e, hp, ha⟩
  · (try simp only [] at e)
    exact .inl ⟨by rw [e, ocall_some, esel_inl], ha⟩
  · (try simp only [] at e)
    exact .inr ⟨i, hi, by rw [e, ocall_some, esel_inr], hp, ha⟩
theorem search_is (k : Nat) (l : List Deal) (hl : l.length ≤ 100000) (hk : l.length < k) (c : (Unit × Unit) × (List Deal × Int × Int × Int × Int × Unit) × (Int × Unit) × Unit) (p : Deal → Bool)
    (hp : ∀ d ∈ l, G59 k (d, c) = some (p d, ())) : G7000007 k (l, c, ()) = some (l.any p, ()) := by
  obtain ⟨⟨⟨⟩, ⟨⟩⟩, ⟨v1, v2, v3, v4, v5, ⟨⟩⟩, ⟨v6, ⟨⟩⟩, ⟨⟩⟩ := c
  have hI := idx_loop p l (fun n t => G7000006_2 k n (l, (((), ()), (v1, v2, v3, v4, v5, ()), (v6, ()), ()), Int.ofNat l.length, t, ())) (fun j t h => by
    have hO := hp l[t] (List.getElem_mem h)
    (try simp only [])
    rw [G7000006_2_eq]
    simp only [ofNat_len, Int.toNat_natCast, getD_of h]
    rw [sel_pos (by omega), sel_pos (by omega), sel_pos (by omega), show G59 k (((l[t]).1, (l[t]).2.1, (l[t]).2.2.1, (l[t]).2.2.2.1, (l[t]).2.2.2.2.1, (l[t]).2.2.2.2.2.1, ()), ((), ()), (v1, v2, v3, v4, v5, ()), (v6, ()), ()) = _ from hO, ocall_some, wrap64 (by omega) (by omega)]
    cases p l[t] <;> rfl) (fun j => by
    (try simp only [])
    rw [G7000006_2_eq, sel_neg (by simp only [ofNat_len]; omega)]) l.length 0 (by omega) (by simp) k (by omega)
  rw [Int.natCast_zero] at hI
  rw [G7000007_eq, G7000006_eq]
  rcases hI with ⟨e, ha⟩ | ⟨i, hi, e, hp, ha⟩
  · (try simp only [] at e)
    have h : l.any p = false := by rw [List.any_eq_false]; intro x hx; rw [ha x hx]; simp
    rw [e, ocall_some, esel_inl, ocall_some, h]
    rfl
  · (try simp only [] at e)
    have h : l.any p = true := List.any_eq_true.2 ⟨l[i], List.getElem_mem hi, hp⟩
    rw [e, ocall_some, esel_inr, ocall_some, h, decide_eq_true (by (try simp only []); omega)]
theorem odd_is (k : Nat) (l : List Deal) (hl : l.length ≤ 100000) (hk : l.length < k) (f a b u : Int) :
    (ocall (G7000005 k (l, (), ())) fun r => ocall (G7000007 k (l, (((), ()), (l, f, a, b, u, ()), (r.1, ()), ()), ())) fun r => some (!r.1, ())) = some (!oddF l, ()) := by
  rcases first_is k l hl hk with ⟨e, ha⟩ | ⟨t, ht, e, hp, ha⟩
  · have hs := search_is k l hl hk (((), ()), (l, f, a, b, u, ()), (-1, ()), ()) (fun _ => false) (fun d hd => by
      have h1 := G56_is k d
      have h2 := ha d hd
      obtain ⟨d1, d2, d3, d4, d5, d6, ⟨⟩⟩ := d
      rw [G59_eq, h1, ocall_some, h2]
      rfl)
    have h : oddF l = false := by
      unfold oddF
      rw [List.find?_eq_none.2 (fun x hx => by rw [ha x hx]; simp)]
    rw [e, ocall_some, hs, ocall_some, h]
    have : l.any (fun _ => false) = false := by rw [List.any_eq_false]; simp
    rw [this]
  · have hs := search_is k l hl hk (((), ()), (l, f, a, b, u, ()), ((t : Int), ()), ()) (fun d => ownF d && !decide (d = l[t])) (fun d hd => by
      have h1 := G56_is k d
      have h2 := sameD d l[t]
      obtain ⟨d1, d2, d3, d4, d5, d6, ⟨⟩⟩ := d
      rw [G59_eq, h1, ocall_some]
      simp only [ofNat_len, Int.toNat_natCast, getD_of ht]
      cases ownF (d1, d2, d3, d4, d5, d6, ()) with
      | false => rfl
      | true =>
        rw [sel_true, sel_pos (by omega), sel_pos (by omega), h2]
        rfl)
    have h : oddF l = l.any (fun d => ownF d && !decide (d = l[t])) := by
      unfold oddF
      have : l.find? ownF = some l[t] := by
        rw [List.find?_eq_some_iff_append]
        exact ⟨hp, l.take t, l.drop (t + 1), by rw [← dropAt ht, List.take_append_drop], fun x hx => by rw [ha x hx]; rfl⟩
      rw [this]
    rw [e, ocall_some, hs, ocall_some, h]
def mayF (s : Sight) (tries : Int) : Bool := !decide (1 < s.2.1) && (!decide (1 < s.2.2.1) && (!decide (tries < s.2.2.2.1) && (!(decide (s.2.1 = 0) && !(decide (s.2.2.1 = 0) && decide (s.2.2.2.1 = 0))) && !oddF s.1)))
theorem G26_is (k : Nat) (s : Sight) (hl : s.1.length ≤ 100000) (hk : s.1.length < k) (tries : Int) : G26 k (s, tries, ()) = some (mayF s tries, ()) := by
  obtain ⟨l, f, a, b, u, ⟨⟩⟩ := s
  have h := odd_is k l hl hk f a b u
  rw [G26_eq, h]
  unfold mayF
  cases decide (1 < f) <;> cases decide (1 < a) <;> cases decide (tries < b) <;> cases decide (f = 0) <;> cases decide (a = 0) <;> cases decide (b = 0) <;> rfl
theorem mayF_more {s : Sight} {t : Int} (h : mayF s t = true) : mayF s (t + 1) = true := by
  unfold mayF at h ⊢
  simp only [Bool.and_eq_true, Bool.not_eq_true', decide_eq_false_iff_not] at h ⊢
  exact ⟨h.1, h.2.1, by omega, h.2.2.2⟩
theorem G60_4_is' (k : Nat) (a b : List Deal) (hab : a.length = b.length) (hl : a.length ≤ 1000000000) : ∀ (j i : Nat), i + j = a.length → ∀ n, j < n →
    G60_4 k n (a, b, (i : Int), ()) = some (sel (decide (a.drop i = b.drop i)) (.inl ()) (.inr (false, ()))) := by
  intro j
  induction j with
  | zero =>
    intro i hij n hn
    obtain ⟨n, rfl⟩ : ∃ m, n = m + 1 := ⟨n - 1, by omega⟩
    rw [G60_4_eq, sel_neg (by simp only [ofNat_len]; omega), List.drop_eq_nil_of_le (by omega), List.drop_eq_nil_of_le (by omega)]
    rfl
  | succ j ih =>
    intro i hij n hn
    obtain ⟨n, rfl⟩ : ∃ m, n = m + 1 := ⟨n - 1, by omega⟩
    have hlt : i < a.length := by omega
    have hlt' : i < b.length := by omega
    rw [G60_4_eq]
    simp only [ofNat_len, Int.toNat_natCast, getD_of hlt, getD_of hlt']
    rw [sel_pos (by omega), sel_pos (by omega), sel_pos (by omega), sel_pos (by omega), sel_pos (by omega), sameD, dropAt hlt, dropAt hlt', wrap64 (by omega) (by omega)]
    simp only [List.cons.injEq]
    by_cases c : a[i] = b[i]
    · rw [decide_eq_true c, Bool.not_true, sel_false]
      have := ih (i + 1) (by omega) n (by omega)
      simp only [Int.natCast_add, Int.natCast_one] at this
      rw [this]
      have e : decide (a[i] = b[i] ∧ a.drop (i + 1) = b.drop (i + 1)) = decide (a.drop (i + 1) = b.drop (i + 1)) := decide_eq_decide.2 ⟨fun h => h.2, fun h => ⟨c, h⟩⟩
      rw [e]
    · rw [decide_eq_false c, Bool.not_false, sel_true, decide_eq_false (fun h => c h.1)]; rfl
theorem same_refl (k : Nat) (s : Sight) (hl : s.1.length ≤ 100000) (hk : s.1.length < k) : G28 k (s, s, ()) = some (true, ()) := by
  obtain ⟨l, f, a, b, u, ⟨⟩⟩ := s
  have h := G60_4_is' k l l rfl (by (try simp only [] at hl); omega) l.length 0 (by omega) k hk
  rw [Int.natCast_zero, decide_eq_true rfl, sel_true] at h
  rw [G28_eq, G60_eq, decide_eq_true rfl, Bool.not_true, sel_false, h, ocall_some, esel_inl, ocall_some]
  simp only [decide_true, sel_true]
theorem opens_app (a b : List (List Int)) : opensB (a ++ b) = opensB a ++ opensB b := List.filterMap_append ..
theorem opens_letter {d : Deal} (gd : goodD d) (h : dealOK d = true) : opensB [letterB d] = [d] := by
  unfold opensB
  rw [List.filterMap_cons, open_letter gd h]
  rfl
theorem deals_app (a b : List (List Int)) (c : Key) : dealsF (a ++ b) c = dealsF a c ++ dealsF b c := by unfold dealsF; rw [opens_app, List.filter_append]
theorem deals_letter {d : Deal} (gd : goodD d) (h : dealOK d = true) (c : Key) : dealsF [letterB d] c = if keyD d = c then [d] else [] := by
  unfold dealsF otherD
  rw [opens_letter gd h]
  by_cases e : keyD d = c
  · rw [if_pos e]; simp [e]
  · rw [if_neg e]; simp [e]
theorem many_app (a b : List Deal) (kind : Int) : manyF (a ++ b) kind = manyF a kind + manyF b kind := by unfold manyF; rw [List.filter_append, List.length_append]
theorem ans_app (a b : List Deal) : answersF (a ++ b) = answersF a ++ answersF b := List.filter_append ..
theorem many_one (d : Deal) (kind : Int) : manyF [d] kind = if d.1 = kind then 1 else 0 := by
  unfold manyF
  by_cases c : d.1 = kind
  · simp [c]
  · simp [c]
theorem ans_one (d : Deal) : answersF [d] = if d.1 = 2 then [d] else [] := by
  unfold answersF notAns
  by_cases c : d.1 = 2
  · simp [c]
  · simp [c]
end Go.Proofs.YtcgnmecbdleehaaDoor.G
end
section
set_option linter.unusedVariables false
set_option linter.unusedSimpArgs false
set_option maxRecDepth 100000
namespace Go.Proofs.YtcgnmecbdleehaaDoor.PureTraceOthers
open Go Go.Proofs.YtcgnmecbdleehaaDoor Th Bits G
def dA : G.Deal := (2, [], 0, 1, [82, 82, 78, 48, 48, 48, 48, 48, 48, 48, 48, 49], [48, 48], ())
def dB : G.Deal := (2, [], 0, 1, [82, 82, 78, 48, 48, 48, 48, 48, 48, 48, 48, 49], [54, 56], ())
def dI : G.Deal := (1, [49, 56], 0, 1, [82, 82, 78, 48, 48, 48, 48, 48, 48, 48, 48, 49], [], ())
def kA : G.Key := (1, [82, 82, 78, 48, 48, 48, 48, 48, 48, 48, 48, 49], ())
def kB : G.Key := (2, [82, 82, 78, 48, 48, 48, 48, 48, 48, 48, 48, 49], ())
theorem dA_good : goodD dA := ⟨by decide, by decide⟩
theorem dB_good : goodD dB := ⟨by decide, by decide⟩
theorem dI_good : goodD dI := ⟨by decide, by decide⟩
theorem dA_ok : dealOK dA = true := by decide
theorem dB_ok : dealOK dB = true := by decide
theorem dI_ok : dealOK dI = true := by decide
theorem dA_lens : lens 300 dA := by unfold lens; decide
theorem dB_lens : lens 300 dB := by unfold lens; decide
theorem dI_lens : lens 300 dI := by unfold lens; decide
theorem bytes_letters {l : List G.Deal} (h : ∀ d ∈ l, goodD d ∧ dealOK d = true) : byteLs (l.map letterB) := by
  intro b hb
  obtain ⟨d, hd, rfl⟩ := List.mem_map.1 hb
  have := letter_len (h d hd).1 (h d hd).2
  exact ⟨letter_bytes d, by omega⟩
theorem opens_letters {l : List G.Deal} (h : ∀ d ∈ l, goodD d ∧ dealOK d = true) : opensB (l.map letterB) = l := by
  induction l with
  | nil => rfl
  | cons d l ih =>
    rw [List.map_cons, ← List.singleton_append, opens_app, opens_letter (h d (by simp)).1 (h d (by simp)).2, ih fun x hx => h x (by simp [hx])]
    rfl
theorem awake_is (k : Nat) (hk : 5000 < k) : G21 k () = some (true, ()) := by
  have hA := G25_is k 300 (by omega) (by omega) (by omega) dA dA_good dA_lens
  have hB := G25_is k 300 (by omega) (by omega) (by omega) dB dB_good dB_lens
  have hI := G25_is k 300 (by omega) (by omega) (by omega) dI dI_good dI_lens
  rw [if_pos dA_ok] at hA
  rw [if_pos dB_ok] at hB
  rw [if_pos dI_ok] at hI
  have g1 : ∀ d ∈ [dA, dA], goodD d ∧ dealOK d = true := fun d hd => by simp at hd; rw [hd]; exact ⟨dA_good, dA_ok⟩
  have g2 : ∀ d ∈ [dI], goodD d ∧ dealOK d = true := fun d hd => by simp at hd; rw [hd]; exact ⟨dI_good, dI_ok⟩
  have g3 : ∀ d ∈ [dA, dB], goodD d ∧ dealOK d = true := fun d hd => by
    simp at hd
    rcases hd with rfl | rfl
    · exact ⟨dA_good, dA_ok⟩
    · exact ⟨dB_good, dB_ok⟩
  have g4 : ∀ d ∈ [dA], goodD d ∧ dealOK d = true := fun d hd => by simp at hd; rw [hd]; exact ⟨dA_good, dA_ok⟩
  have g5 : ∀ d ∈ ([] : List G.Deal), goodD d ∧ dealOK d = true := fun d hd => by cases hd
  have s1 := G24_is k (by omega) _ _ (bytes_letters g1) (bytes_letters g2) (by simp) (by simp) kA
  have s2 := G24_is k (by omega) _ _ (bytes_letters g3) (bytes_letters g2) (by simp) (by simp) kA
  have s3 := G24_is k (by omega) _ _ (bytes_letters g4) (bytes_letters g5) (by simp) (by simp) kB
  have e1 : seeF ([dA, dA].map letterB) ([dI].map letterB) kA = ([dA, dA], 1, 0, 0, 0, ()) := by
    unfold seeF dealsF; rw [opens_letters g1, opens_letters g2]; decide
  have e2 : seeF ([dA, dB].map letterB) ([dI].map letterB) kA = ([dA, dB], 1, 0, 0, 0, ()) := by
    unfold seeF dealsF; rw [opens_letters g3, opens_letters g2]; decide
  have e3 : seeF ([dA].map letterB) (([] : List G.Deal).map letterB) kB = ([], 0, 0, 0, 0, ()) := by
    unfold seeF dealsF; rw [opens_letters g4, opens_letters g5]; decide
  rw [e1] at s1
  rw [e2] at s2
  rw [e3] at s3
  have m1 := G26_is k ([dA, dA], 1, 0, 0, 0, ()) (by simp) (by simp; omega) 0
  have m2 := G26_is k ([dA, dB], 1, 0, 0, 0, ()) (by simp) (by simp; omega) 0
  rw [show mayF ([dA, dA], 1, 0, 0, 0, ()) 0 = true from by decide] at m1
  rw [show mayF ([dA, dB], 1, 0, 0, 0, ()) 0 = false from by decide] at m2
  simp only [List.map_cons, List.map_nil] at s1 s2 s3
  generalize letterB dA = bA at *
  generalize letterB dB = bB at *
  generalize letterB dI = bI at *
  rw [G21_eq, show G25 k ((2, [], 0, 1, [82, 82, 78, 48, 48, 48, 48, 48, 48, 48, 48, 49], [48, 48], ()), ()) = _ from hA, ocall_some, show G25 k ((2, [], 0, 1, [82, 82, 78, 48, 48, 48, 48, 48, 48, 48, 48, 49], [54, 56], ()), ()) = _ from hB, ocall_some,
    show G25 k ((1, [49, 56], 0, 1, [82, 82, 78, 48, 48, 48, 48, 48, 48, 48, 48, 49], [], ()), ()) = _ from hI, ocall_some]
  (try simp only [])
  rw [show G24 k ([bA, bA], [bI], (1, [82, 82, 78, 48, 48, 48, 48, 48, 48, 48, 48, 49], ()), ()) = _ from s1, ocall_some, show G24 k ([bA, bB], [bI], (1, [82, 82, 78, 48, 48, 48, 48, 48, 48, 48, 48, 49], ()), ()) = _ from s2, ocall_some]
  (try simp only [])
  rw [m1, ocall_some, m2, ocall_some, show G24 k ([bA], [], (2, [82, 82, 78, 48, 48, 48, 48, 48, 48, 48, 48, 49], ()), ()) = _ from s3, ocall_some]
  rfl
theorem getD_last {α : Type} (l : List α) (x z : α) : (l ++ [x]).getD (Int.ofNat l.length).toNat z = x := by
  show (l ++ [x]).getD l.length z = x
  simp [List.getD]
theorem beq_of {a b : Prop} [Decidable a] [Decidable b] (h : a ↔ b) : (decide a == decide b) = true := by
  have : decide a = decide b := decide_eq_decide.2 h
  rw [this]; simp
theorem rest (k : Nat) (hk : 1000 < k) (d : G.Deal) (c : G.Key) (S T U : Sight) (l1 : S.1.length ≤ 300) (r2 : 0 ≤ S.2.1 ∧ S.2.1 ≤ 300) (r3 : 0 ≤ S.2.2.1 ∧ S.2.2.1 ≤ 300) (r4 : 0 ≤ S.2.2.2.1 ∧ S.2.2.2.1 ≤ 300) (r5 : 0 ≤ S.2.2.2.2.1 ∧ S.2.2.2.2.1 ≤ 300)
    (ht : T = (S.1 ++ (if keyD d = c ∧ d.1 = 2 then [d] else []), S.2.1, S.2.2.1, S.2.2.2.1, S.2.2.2.2.1 + (if keyD d = c ∧ d.1 = 4 then 1 else 0), ()))
    (hu : U = (S.1, S.2.1 + (if keyD d = c ∧ d.1 = 1 then 1 else 0), S.2.2.1 + (if keyD d = c ∧ d.1 = 5 then 1 else 0), S.2.2.2.1 + (if keyD d = c ∧ d.1 = 6 then 1 else 0), S.2.2.2.2.1, ())) :
    (ocall (G27 k (d, ())) fun r_5 => sel (!(sameI r_5.1.1 c.1 && (sameS r_5.1.2.1 c.2.1 && true))) (ocall (G28 k (S, T, ())) fun r_6 => sel r_6.1 (ocall (G28 k (S, U, ())) fun r => some (r.1, ()))
      (some (false, ()))) (sel (decide (d.1 = 2)) (sel (decide (Int.ofNat T.1.length = IntKind.i64.wrap (Int.ofNat S.1.length + 1))) (sel (decide (0 ≤ Int.ofNat S.1.length)) (sel (decide (Int.ofNat S.1.length < Int.ofNat T.1.length)) (sel (sameI (T.1.getD (Int.ofNat
      S.1.length).toNat (0, [], 0, 0, [], [], ())).1 d.1 && (sameS (T.1.getD (Int.ofNat S.1.length).toNat (0, [], 0, 0, [], [], ())).2.1 d.2.1 && (sameI (T.1.getD (Int.ofNat S.1.length).toNat (0, [], 0, 0, [], [], ())).2.2.1 d.2.2.1 && (sameI (T.1.getD (Int.ofNat
      S.1.length).toNat (0, [], 0, 0, [], [], ())).2.2.2.1 d.2.2.2.1 && (sameS (T.1.getD (Int.ofNat S.1.length).toNat (0, [], 0, 0, [], [], ())).2.2.2.2.1 d.2.2.2.2.1 && (sameS (T.1.getD (Int.ofNat S.1.length).toNat (0, [], 0, 0, [], [], ())).2.2.2.2.2.1 d.2.2.2.2.2.1 && true)))))) (some
      (decide (Int.ofNat U.1.length = Int.ofNat S.1.length), ())) (some (false, ()))) none) none) (some (false, ()))) (sel (decide (Int.ofNat T.1.length = Int.ofNat S.1.length)) (sel (decide (T.2.2.2.2.1 = IntKind.i64.wrap (S.2.2.2.2.1 + 1)) == decide (d.1 = 4))
      (sel (decide (U.2.1 = IntKind.i64.wrap (S.2.1 + 1)) == decide (d.1 = 1)) (sel (decide (U.2.2.1 = IntKind.i64.wrap (S.2.2.1 + 1)) == decide (d.1 = 5)) (some (decide (U.2.2.2.1 = IntKind.i64.wrap (S.2.2.2.1 + 1)) == decide (d.1 = 6), ())) (some (false, ()))) (some
      (false, ()))) (some (false, ()))) (some (false, ()))))) = some (true, ()) := by
  have hof : G27 k (d, ()) = some (keyD d, ()) := by
    obtain ⟨d1, d2, d3, d4, d5, d6, ⟨⟩⟩ := d
    rw [G27_eq]; rfl
  rw [hof, ocall_some, sameK']
  by_cases hc : keyD d = c
  case neg =>
    have e1 : T = S := by
      rw [ht, if_neg (fun h => hc h.1), if_neg (fun h => hc h.1), List.append_nil, Int.add_zero]
    have e2 : U = S := by
      rw [hu, if_neg (fun h => hc h.1), if_neg (fun h => hc h.1), if_neg (fun h => hc h.1), Int.add_zero, Int.add_zero, Int.add_zero]
    rw [decide_eq_false hc, Bool.not_false, sel_true, e1, e2, same_refl k S (by omega) (by omega), ocall_some, sel_true, ocall_some]
  rw [decide_eq_true hc, Bool.not_true, sel_false, wrap64 (by simp only [ofNat_len]; omega) (by simp only [ofNat_len]; omega), wrap64 (by omega) (by omega), wrap64 (by omega) (by omega), wrap64 (by omega) (by omega), wrap64 (by omega) (by omega)]
  by_cases h2 : d.1 = 2
  · have eT : T.1 = S.1 ++ [d] := by rw [ht, if_pos ⟨hc, h2⟩]
    have eU : U.1 = S.1 := by rw [hu]
    rw [eT, eU, getD_last, sel_pos h2]
    have hl : (S.1 ++ [d]).length = S.1.length + 1 := by simp
    simp only [ofNat_len]
    rw [sel_pos (by omega), sel_pos (by omega), sel_pos (by omega), sameD, decide_eq_true rfl, sel_true]
    simp
  · have eT : T.1 = S.1 := by rw [ht, if_neg (fun h => h2 h.2), List.append_nil]
    have b4 : T.2.2.2.2.1 = S.2.2.2.2.1 + 1 ↔ d.1 = 4 := by
      rw [ht]
      by_cases h : d.1 = 4
      · (try simp only []); rw [if_pos (show keyD d = c ∧ d.1 = 4 from ⟨hc, h⟩)]; exact ⟨fun _ => h, fun _ => rfl⟩
      · (try simp only []); rw [if_neg (fun x : keyD d = c ∧ d.1 = 4 => h x.2)]; exact ⟨fun x => by omega, fun x => absurd x h⟩
    have b1 : U.2.1 = S.2.1 + 1 ↔ d.1 = 1 := by
      rw [hu]
      by_cases h : d.1 = 1
      · (try simp only []); rw [if_pos (show keyD d = c ∧ d.1 = 1 from ⟨hc, h⟩)]; exact ⟨fun _ => h, fun _ => rfl⟩
      · (try simp only []); rw [if_neg (fun x : keyD d = c ∧ d.1 = 1 => h x.2)]; exact ⟨fun x => by omega, fun x => absurd x h⟩
    have b5 : U.2.2.1 = S.2.2.1 + 1 ↔ d.1 = 5 := by
      rw [hu]
      by_cases h : d.1 = 5
      · (try simp only []); rw [if_pos (show keyD d = c ∧ d.1 = 5 from ⟨hc, h⟩)]; exact ⟨fun _ => h, fun _ => rfl⟩
      · (try simp only []); rw [if_neg (fun x : keyD d = c ∧ d.1 = 5 => h x.2)]; exact ⟨fun x => by omega, fun x => absurd x h⟩
    have b6 : U.2.2.2.1 = S.2.2.2.1 + 1 ↔ d.1 = 6 := by
      rw [hu]
      by_cases h : d.1 = 6
      · (try simp only []); rw [if_pos (show keyD d = c ∧ d.1 = 6 from ⟨hc, h⟩)]; exact ⟨fun _ => h, fun _ => rfl⟩
      · (try simp only []); rw [if_neg (fun x : keyD d = c ∧ d.1 = 6 => h x.2)]; exact ⟨fun x => by omega, fun x => absurd x h⟩
    rw [sel_neg h2, eT, sel_pos rfl, beq_of b4, sel_true, beq_of b1, sel_true, beq_of b5, sel_true, beq_of b6]
theorem main (a i : List (List Int)) (c : G.Key) (d : G.Deal) (tries : Int) (ha : ∀ b ∈ a, ∀ x ∈ b, byteOK x) (hi : ∀ b ∈ i, ∀ x ∈ b, byteOK x) (gd : goodD d) (gt : 0 ≤ tries ∧ tries ≤ 255) : G5 6000 (a, i, c, d, tries, ()) = some (true, ()) := by
  obtain ⟨b1, q1, p1⟩ := G22_is 6000 (by omega) a
  obtain ⟨b2, q2, p2⟩ := G22_is 6000 (by omega) i
  have hsd := shortS 6000 d
  have hL := fun hl => G25_is 6000 300 (by omega) (by omega) (by omega) d gd hl
  have hsee := fun (a i : List (List Int)) (h1 : byteLs a) (h2 : byteLs i) (h3 : a.length ≤ 1000) (h4 : i.length ≤ 1000) => G24_is 6000 (by omega) a i h1 h2 h3 h4 c
  have hrest := fun (S T U : Sight) => rest 6000 (by omega) d c S T U
  have hle := letter_len gd
  have hdl := deals_letter gd (c := c)
  obtain ⟨c1, c2, ⟨⟩⟩ := c
  obtain ⟨d1, d2, d3, d4, d5, d6, ⟨⟩⟩ := d
  rw [G5_eq, awake_is 6000 (by omega), ocall_some]
  rw [show (!((true, ()) : Bool × Unit).1) = false from rfl, sel_false, q1, ocall_some]
  cases b1 with
  | false => rfl
  | true =>
  obtain ⟨la, la2⟩ := p1 rfl
  rw [show (!((true, ()) : Bool × Unit).1) = false from rfl, sel_false, q2, ocall_some]
  cases b2 with
  | false => rfl
  | true =>
  obtain ⟨li, li2⟩ := p2 rfl
  rw [show (!((true, ()) : Bool × Unit).1) = false from rfl, sel_false, G17_eq, ocall_some]
  cases hsc : decide (Int.ofNat (c2 : Txt).length ≤ 300) with
  | false => rfl
  | true =>
  rw [show (!((true, ()) : Bool × Unit).1) = false from rfl, sel_false, hsd, ocall_some]
  by_cases ld : lens 300 (d1, d2, d3, d4, d5, d6, ())
  case neg => rw [decide_eq_false ld]; rfl
  rw [decide_eq_true ld, show (!((true, ()) : Bool × Unit).1) = false from rfl, sel_false]
  have Ba : byteLs a := fun b hb => ⟨ha b hb, la2 b hb⟩
  have Bi : byteLs i := fun b hb => ⟨hi b hb, li2 b hb⟩
  have hS := hsee a i Ba Bi (by omega) (by omega)
  rw [hS, ocall_some, hL ld]
  by_cases ok : dealOK (d1, d2, d3, d4, d5, d6, ()) = true
  case neg => rw [if_neg ok, ocall_some]; rfl
  have hle : (letterB (d1, d2, d3, d4, d5, d6, ())).length ≤ 202 := hle ok
  have hdl : dealsF [letterB (d1, d2, d3, d4, d5, d6, ())] (c1, c2, ()) = if keyD (d1, d2, d3, d4, d5, d6, ()) = (c1, c2, ()) then [(d1, d2, d3, d4, d5, d6, ())] else [] := hdl ok
  rw [if_pos ok, ocall_some]
  have hBl : byteLs [letterB (d1, d2, d3, d4, d5, d6, ())] := fun b hb => by
    rw [List.mem_singleton] at hb; rw [hb]; exact ⟨letter_bytes _, by omega⟩
  generalize letterB (d1, d2, d3, d4, d5, d6, ()) = B at hle hdl hBl
  have hT := hsee (a ++ [B]) i (fun b hb => (List.mem_append.1 hb).elim (Ba b) (hBl b)) Bi (by simp; omega) (by omega)
  have hU := hsee a (B :: i) Ba (fun b hb => (List.mem_cons.1 hb).elim (fun e => hBl b (by rw [e]; simp)) (Bi b)) (by omega) (by simp; omega)
  have l1 := dealsF_len a (c1, c2, ())
  have l2 := dealsF_len i (c1, c2, ())
  have mm := fun (l : List G.Deal) (kind : Int) (h : l.length ≤ 300) => show (0 : Int) ≤ (manyF l kind : Int) ∧ (manyF l kind : Int) ≤ 300 from by
    have : manyF l kind ≤ l.length := by unfold manyF; exact List.length_filter_le _ _
    omega
  have tS : (seeF a i (c1, c2, ())).1.length ≤ 300 := by
    have : (answersF (dealsF a (c1, c2, ()))).length ≤ (dealsF a (c1, c2, ())).length := List.length_filter_le _ _
    show (answersF (dealsF a (c1, c2, ()))).length ≤ 300
    omega
  have eT : seeF (a ++ [B]) i (c1, c2, ()) = ((seeF a i (c1, c2, ())).1 ++ (if keyD (d1, d2, d3, d4, d5, d6, ()) = (c1, c2, ()) ∧ d1 = 2 then [(d1, d2, d3, d4, d5, d6, ())] else []), (seeF a i (c1, c2, ())).2.1, (seeF a i (c1, c2, ())).2.2.1, (seeF a i (c1, c2, ())).2.2.2.1, (seeF a i (c1, c2, ())).2.2.2.2.1 + (if keyD (d1, d2, d3, d4, d5, d6, ()) = (c1, c2, ()) ∧ d1 = 4 then 1 else 0), ()) := by
    unfold seeF
    rw [deals_app, hdl, ans_app, many_app]
    by_cases hc : keyD (d1, d2, d3, d4, d5, d6, ()) = (c1, c2, ())
    · rw [if_pos hc, ans_one, many_one]
      simp only [hc, true_and, Int.natCast_add]
      congr 1
      congr 1
      congr 1
      congr 1
      congr 1
      by_cases h4 : d1 = 4
      · rw [if_pos h4, if_pos h4]; rfl
      · rw [if_neg h4, if_neg h4]; rfl
    · rw [if_neg hc, if_neg (fun h => hc h.1), if_neg (fun h => hc h.1)]
      rfl
  have eU : seeF a (B :: i) (c1, c2, ()) = ((seeF a i (c1, c2, ())).1, (seeF a i (c1, c2, ())).2.1 + (if keyD (d1, d2, d3, d4, d5, d6, ()) = (c1, c2, ()) ∧ d1 = 1 then 1 else 0), (seeF a i (c1, c2, ())).2.2.1 + (if keyD (d1, d2, d3, d4, d5, d6, ()) = (c1, c2, ()) ∧ d1 = 5 then 1 else 0), (seeF a i (c1, c2, ())).2.2.2.1 + (if keyD (d1, d2, d3, d4, d5, d6, ()) = (c1, c2, ()) ∧ d1 = 6 then 1 else 0), (seeF a i (c1, c2, ())).2.2.2.2.1, ()) := by
    unfold seeF
    rw [← List.singleton_append, deals_app, hdl, many_app, many_app, many_app]
    have key : ∀ (x : Int) (m : Nat), ((manyF (if keyD (d1, d2, d3, d4, d5, d6, ()) = (c1, c2, ()) then [(d1, d2, d3, d4, d5, d6, ())] else []) x + m : Nat) : Int) = (m : Int) + (if keyD (d1, d2, d3, d4, d5, d6, ()) = (c1, c2, ()) ∧ d1 = x then 1 else 0) := by
      intro x m
      by_cases hc : keyD (d1, d2, d3, d4, d5, d6, ()) = (c1, c2, ())
      · rw [if_pos hc, many_one]
        by_cases hx : d1 = x
        · rw [if_pos hx, if_pos ⟨hc, hx⟩]; omega
        · rw [if_neg hx, if_neg (fun h => hx h.2)]; omega
      · rw [if_neg hc, if_neg (fun h => hc h.1)]
        show ((0 + m : Nat) : Int) = _
        omega
    rw [key, key, key]
  have hR := hrest (seeF a i (c1, c2, ())) _ _ tS (mm _ _ (by omega)) (mm _ _ (by omega)) (mm _ _ (by omega)) (mm _ _ (by omega)) eT eU
  have hM := fun t => G26_is 6000 (seeF a i (c1, c2, ())) (by omega) (by omega) t
  have hmono := fun t => mayF_more (s := seeF a i (c1, c2, ())) (t := t)
  generalize seeF a i (c1, c2, ()) = S at hR hM hmono
  generalize seeF (a ++ [B]) i (c1, c2, ()) = T at hR hT
  generalize seeF a (B :: i) (c1, c2, ()) = U at hR hU
  rw [show (!decide (((B, 0, ()) : List Int × Int × Unit).2.1 = 0)) = false from rfl, sel_false, sel_pos (by omega), sel_pos (by omega)]
  rw [show G24 6000 (a ++ [((B, 0, ()) : List Int × Int × Unit).1], i, (c1, c2, ()), ()) = _ from hT, ocall_some, sel_pos (by omega)]
  rw [show G24 6000 (a, ((B, 0, ()) : List Int × Int × Unit).1 :: i, (c1, c2, ()), ()) = _ from hU, ocall_some]
  obtain ⟨S1, S2, S3, S4, S5, ⟨⟩⟩ := S
  obtain ⟨T1, T2, T3, T4, T5, ⟨⟩⟩ := T
  obtain ⟨U1, U2, U3, U4, U5, ⟨⟩⟩ := U
  rw [wrap64 (n := tries) (by omega) (by omega), wrap64 (n := tries + 1) (by omega) (by omega)]
  (try simp only [])
  rw [hM tries, ocall_some]
  cases hm : mayF (S1, S2, S3, S4, S5, ()) tries with
  | true =>
    rw [show ((true, ()) : Bool × Unit).1 = true from rfl, sel_true, hM (tries + 1), hmono tries hm, ocall_some, show (!((true, ()) : Bool × Unit).1) = false from rfl, sel_false]
    exact hR
  | false =>
    rw [show ((false, ()) : Bool × Unit).1 = false from rfl, sel_false]
    exact hR
theorem pure (x0 : Ty.den (.slice (.slice (.int .u8)))) (x1 : Ty.den (.slice (.slice (.int .u8)))) (x2 : Ty.den (.st (.cons (.int .u32) (.cons .str .nil)))) (x3 : Ty.den (.st (.cons (.int .i64) (.cons .str (.cons (.int .u64) (.cons (.int .u32) (.cons .str (.cons .str .nil)))))))) (x4 : Ty.den (.int .u8)) (g0 : Ty.Good (.slice (.slice (.int .u8))) x0) (g1 : Ty.Good (.slice (.slice (.int .u8))) x1) (g2 : Ty.Good (.st (.cons (.int .u32) (.cons .str .nil))) x2) (g3 : Ty.Good (.st (.cons (.int .i64) (.cons .str (.cons (.int .u64) (.cons (.int .u32) (.cons .str (.cons .str .nil))))))) x3) (g4 : Ty.Good (.int .u8) x4) : ∃ k, F5 k (x0, (x1, (x2, (x3, (x4, PUnit.unit))))) = some (true, PUnit.unit) :=
  ⟨6000, main x0 x1 x2 x3 x4 (fun b hb c hc => good_u8 ((g0.2.2 b hb).2.2 c hc)) (fun b hb c hc => good_u8 ((g1.2.2 b hb).2.2 c hc)) ⟨good_u64 g3.2.2.1, good_u32 g3.2.2.2.1⟩ (good_u8 g4)⟩
end Go.Proofs.YtcgnmecbdleehaaDoor.PureTraceOthers
end
section
set_option linter.unusedVariables false
set_option linter.unusedSimpArgs false
namespace Go.Proofs.YtcgnmecbdleehaaDoor
open Go Go.ChangeShapes Go.WideShapes Go.ChangeAt Go.RowKit Th
theorem own : ownKnob Tryd.prog.godebug = none := by kernel_rfl
theorem laidOut : laidOutB Tryd.prog = true := by kernel_rfl
theorem gTypes : Tryd.prog.globalNamed "paydesk/deal.types" = some 0 := by kernel_rfl
theorem tTypes : (Tryd.prog.globals[0]?).map (·.type) = some 167 := by kernel_rfl
theorem mapsRowed' : mapsRowed Tryd.prog = true := by kernel_rfl
theorem stopsHeard' : Tryd.prog.stopsHeard = true := by kernel_rfl
theorem stops' : Tryd.prog.stops = [] := by kernel_rfl
theorem stopKnobs' : Tryd.prog.stopKnobs = [] := by kernel_rfl
theorem plainKeys' : Tryd.prog.plainKeys = Rows.tableHoldsRow.plainKeys := by kernel_rfl
def ioL : List Char := [Char.ofNat 104, Char.ofNat 97, Char.ofNat 114, Char.ofNat 110, Char.ofNat 101, Char.ofNat 115, Char.ofNat 115, Char.ofNat 32, Char.ofNat 100, Char.ofNat 52, Char.ofNat 54, Char.ofNat 48, Char.ofNat 48, Char.ofNat 56, Char.ofNat 99, Char.ofNat 102, Char.ofNat 98, Char.ofNat 51, Char.ofNat 101, Char.ofNat 99, Char.ofNat 48, Char.ofNat 101, Char.ofNat 56, Char.ofNat 53, Char.ofNat 52, Char.ofNat 102, Char.ofNat 50, Char.ofNat 98, Char.ofNat 100, Char.ofNat 55, Char.ofNat 51, Char.ofNat 50, Char.ofNat 51, Char.ofNat 99, Char.ofNat 55, Char.ofNat 100, Char.ofNat 50, Char.ofNat 102, Char.ofNat 54, Char.ofNat 97, Char.ofNat 98, Char.ofNat 48, Char.ofNat 55, Char.ofNat 102, Char.ofNat 102, Char.ofNat 101, Char.ofNat 51, Char.ofNat 50, Char.ofNat 52, Char.ofNat 49, Char.ofNat 56, Char.ofNat 56, Char.ofNat 56, Char.ofNat 53, Char.ofNat 101, Char.ofNat 55, Char.ofNat 48, Char.ofNat 49, Char.ofNat 52, Char.ofNat 99, Char.ofNat 100, Char.ofNat 99, Char.ofNat 49, Char.ofNat 55, Char.ofNat 56, Char.ofNat 97, Char.ofNat 56, Char.ofNat 97, Char.ofNat 99, Char.ofNat 51, Char.ofNat 51, Char.ofNat 100, Char.ofNat 32, Char.ofNat 99, Char.ofNat 117, Char.ofNat 116, Char.ofNat 32, Char.ofNat 97, Char.ofNat 116, Char.ofNat 32, Char.ofNat 112, Char.ofNat 97, Char.ofNat 121, Char.ofNat 100, Char.ofNat 101, Char.ofNat 115, Char.ofNat 107, Char.ofNat 47, Char.ofNat 112, Char.ofNat 97, Char.ofNat 121, Char.ofNat 100, Char.ofNat 101, Char.ofNat 115, Char.ofNat 107, Char.ofNat 108, Char.ofNat 97, Char.ofNat 119, Char.ofNat 49, Char.ofNat 49, Char.ofNat 46, Char.ofNat 84, Char.ofNat 97, Char.ofNat 98, Char.ofNat 108, Char.ofNat 101, Char.ofNat 72, Char.ofNat 111, Char.ofNat 108, Char.ofNat 100, Char.ofNat 115, Char.ofNat 32, Char.ofNat 112, Char.ofNat 97, Char.ofNat 121, Char.ofNat 100, Char.ofNat 101, Char.ofNat 115, Char.ofNat 107, Char.ofNat 47, Char.ofNat 112, Char.ofNat 97, Char.ofNat 121, Char.ofNat 100, Char.ofNat 101, Char.ofNat 115, Char.ofNat 107, Char.ofNat 108, Char.ofNat 97, Char.ofNat 119, Char.ofNat 49, Char.ofNat 49, Char.ofNat 46, Char.ofNat 84, Char.ofNat 97, Char.ofNat 98, Char.ofNat 108, Char.ofNat 101, Char.ofNat 83, Char.ofNat 119, Char.ofNat 97, Char.ofNat 112, Char.ofNat 115, Char.ofNat 32, Char.ofNat 112, Char.ofNat 97, Char.ofNat 121, Char.ofNat 100, Char.ofNat 101, Char.ofNat 115, Char.ofNat 107, Char.ofNat 47, Char.ofNat 112, Char.ofNat 97, Char.ofNat 121, Char.ofNat 100, Char.ofNat 101, Char.ofNat 115, Char.ofNat 107, Char.ofNat 108, Char.ofNat 97, Char.ofNat 119, Char.ofNat 50, Char.ofNat 49, Char.ofNat 46, Char.ofNat 84, Char.ofNat 114, Char.ofNat 97, Char.ofNat 99, Char.ofNat 101, Char.ofNat 79, Char.ofNat 116, Char.ofNat 104, Char.ofNat 101, Char.ofNat 114, Char.ofNat 115]
theorem io0 : Tryd.prog.initOrder = String.ofList ioL := by kernel_rfl
theorem io : Tryd.prog.initOrder.toList = ioL := by rw [io0, String.toList_ofList]
def ioW : List (List Char) := wordsSigns ioL
theorem ws : wordsSigns Tryd.prog.initOrder.toList = ioW := by rw [io]; rfl
def mainOf (l : List (List Char)) : Option (Bool × List Char) := match l with
  | h :: s :: _ => if !isSumSigns s then none else if h == "harness".toList then some (true, s) else if h == "ownmain".toList then some (false, s) else none
  | _ => none
theorem mainIs_of {P : Program} {W : List (List Char)} (h : wordsSigns P.initOrder.toList = W) : P.mainIs = mainOf W := by
  unfold Program.mainIs; rw [h]; rfl
theorem sha : (ioL.drop 8).take 64 = "d46008cfb3ec0e854f2bd7323c7d2f6ab07ffe32418885e7014cdc178a8ac33d".toList := by
  have : "d46008cfb3ec0e854f2bd7323c7d2f6ab07ffe32418885e7014cdc178a8ac33d" = String.ofList ((ioL.drop 8).take 64) := by kernel_rfl
  rw [this, String.toList_ofList]
theorem main0 : mainOf ioW = some (true, (ioL.drop 8).take 64) := by kernel_rfl
theorem mainIs' : Tryd.prog.mainIs = some (true, "d46008cfb3ec0e854f2bd7323c7d2f6ab07ffe32418885e7014cdc178a8ac33d".toList) := by
  rw [← sha, ← main0]; exact mainIs_of ws
def mayOf (l : List (List Char)) (laysLater bearsReflect : Bool) (fits : List String → Bool) : Bool := match behindMainWord l with
  | c :: rest =>
    ((c == "gc".toList || c == "spec".toList) && (rest.isEmpty || rest.head? == some "stop".toList)) ||
    (c == "carried".toList && rest.take 2 == ["gc".toList, "cut".toList] && !laysLater && !bearsReflect) ||
    ((stripLifts liftWords (c :: rest)).2.head? == some "cut".toList &&
      ((stripLifts liftWords (c :: rest)).1.contains "finals" || !laysLater) && ((stripLifts liftWords (c :: rest)).1.contains "reflectrows" || !bearsReflect) &&
      ((stripLifts liftWords (c :: rest)).1.contains "reflectrows" || !(stripLifts liftWords (c :: rest)).1.contains "leanrows") &&
      fits (stripLifts liftWords (c :: rest)).1)
  | [] => false
theorem may_of {P : Program} {W : List (List Char)} (h : wordsSigns P.initOrder.toList = W) : P.mayEnter = mayOf W P.laysLater P.bearsReflect P.doorFits := by
  unfold Program.mayEnter; rw [h]; rfl
theorem lays : Tryd.prog.laysLater = false := by kernel_rfl
theorem bears : Tryd.prog.bearsReflect = false := by kernel_rfl
theorem strip0 : mayOf ioW false false (fun l => decide (l = [])) = true := by kernel_rfl
theorem fits0 : Tryd.prog.doorFits [] = true := by kernel_rfl
theorem may_mono {W : List (List Char)} {a b : Bool} {f g : List String → Bool} (hfg : ∀ l, f l = true → g l = true) (h : mayOf W a b f = true) : mayOf W a b g = true := by
  unfold mayOf at h ⊢
  split at h
  · simp only [Bool.or_eq_true, Bool.and_eq_true] at h ⊢
    rcases h with (h | h) | h
    · exact .inl (.inl h)
    · exact .inl (.inr h)
    · exact .inr ⟨h.1, hfg _ h.2⟩
  · exact h
theorem mayEnter' : Tryd.prog.mayEnter = true := by
  rw [may_of ws, lays, bears]
  exact may_mono (fun l h => by rw [decide_eq_true_eq] at h; rw [h]; exact fits0) strip0
def liftsOf (l : List (List Char)) : List String :=
  let r := stripLifts liftWords (behindMainWord l)
  if r.2.head? == some "cut".toList then r.1 else []
theorem headLifts_of {P : Program} {W : List (List Char)} (h : wordsSigns P.initOrder.toList = W) : P.headLifts = liftsOf W := by
  unfold Program.headLifts; rw [h]; rfl
theorem headLifts' : Tryd.prog.headLifts = [] := (headLifts_of ws).trans (by kernel_rfl)
def finalOf (l : List (List Char)) (hl : List String) : Bool :=
  let ws := behindMainWord l
  (ws.head? == some "carried".toList && ws.take 3 != ["carried".toList, "gc".toList, "cut".toList]) || hl.contains "finals"
theorem liftsFinal_of {P : Program} {W : List (List Char)} (h : wordsSigns P.initOrder.toList = W) : P.liftsFinal = finalOf W P.headLifts := by
  unfold Program.liftsFinal; rw [h]; rfl
theorem liftsFinal' : Tryd.prog.liftsFinal = Rows.tableHoldsRow.lifted := by rw [liftsFinal_of ws, headLifts']; kernel_rfl
def makeOf (l : List (List Char)) (hl : List String) : Option Make :=
  match behindMainWord l with
  | c :: rest => if c == "gc".toList || c == "spec".toList then some .whole else if c == "cut".toList || (c == "finals".toList && rest.head? == some "cut".toList) then some .cut else if c == "carried".toList then some .carried else if hl.isEmpty then none else some (.lifted hl)
  | [] => none
theorem make_of {P : Program} {W : List (List Char)} (h : wordsSigns P.initOrder.toList = W) : P.make = makeOf W P.headLifts := by
  unfold Program.make; rw [h]; rfl
theorem make' : Tryd.prog.make = some Rows.tableHoldsRow.make := by rw [make_of ws, headLifts']; kernel_rfl
abbrev laidL : List (String × DataW Unit) := [("paydesk/deal.types", Rows.laid_paydesk_deal_types)]
theorem door_met (os : Os) (args : Array Value) : laidMetH Tryd.prog laidL ((World.doorLaid Tryd.prog 400 os).forCall (fun _ _ => 0) ⟨#[], args, []⟩).memory :=
  laidMetH_of_parts3 (fuel := 8) (laidMet_of_run' 8 (by kernel_rfl) (by kernel_rfl)) (by kernel_rfl) (by kernel_rfl)
theorem glob_of_laid {W : World} (h : laidMetH Tryd.prog laidL W) : GlobOK W (Old W) := by
  rw [MakeChecks.laidMetH_plain _ _ _ (by kernel_rfl)] at h
  obtain ⟨ps, ⟨g0, t0, cs0, f0, p0, q0, hg0, ht0, hv0, hd0, _, _⟩, _, _⟩ := h
  obtain rfl := Option.some.inj (gTypes.symm.trans hg0)
  obtain rfl := Option.some.inj (tTypes.symm.trans ht0)
  obtain ⟨xs, m1, rfl, hx1, hlen, hn8, hel⟩ := DataW.trod_array Tryd.underlying167 hd0
  have c9 : Tryd.prog.cellsOf 9 = 1 := by kernel_rfl
  have cA : Tryd.prog.cellsOf 167 = 8 := by kernel_rfl
  simp only [Prod.mk.injEq] at hx1
  have hx1 : (DataW.agg [.lit (.string []), .lit (.string [48, 49, 48, 48]), .lit (.string [48, 49, 49, 48]), .lit (.string [48, 52, 48, 48]), .lit (.string [48, 52, 49, 48]), .lit (.string [48, 52, 50, 48]), .lit (.string [48, 52, 50, 49]), .lit (.string [48, 52, 51, 48])] : DataW Unit) = .agg (xs.map (·.1)) := hx1.1
  simp only [DataW.agg.injEq] at hx1
  have key : ∀ (j : Nat) (s : List UInt8), ([[], [48, 49, 48, 48], [48, 49, 49, 48], [48, 52, 48, 48], [48, 52, 49, 48], [48, 52, 50, 48], [48, 52, 50, 49], [48, 52, 51, 48]] : List (List UInt8))[j]? = some s → W.cell? ⟨0, j, none⟩ = some (strV s) := by
    intro j s hs
    have hj : j < 8 := by have := (List.getElem?_eq_some_iff.1 hs).1; simpa using this
    have he := hel j hj
    rw [c9, Nat.mul_one] at he
    have hxj : xs[j]? = some xs[j] := by simp [show j < xs.length by omega]
    rw [hxj] at he
    obtain ⟨b, e1, e2, _⟩ := DataW.trod_string Tryd.underlying9 he
    have hlit : xs[j].1 = .lit (.string s) := by
      have e3 : (xs.map (·.1))[j]? = some xs[j].1 := by rw [List.getElem?_map, hxj]; rfl
      rw [← hx1] at e3
      have h8 : j = 0 ∨ j = 1 ∨ j = 2 ∨ j = 3 ∨ j = 4 ∨ j = 5 ∨ j = 6 ∨ j = 7 := by omega
      rcases h8 with rfl | rfl | rfl | rfl | rfl | rfl | rfl | rfl <;> (simp only [List.getElem?_cons_zero, List.getElem?_cons_succ, Option.some.injEq] at e3 hs; subst hs; exact e3.symm)
    rw [e2] at hlit
    have hb : b.data.toList = s := by simpa using hlit
    have hc : cs0[j]? = some (.string b) := by
      have : (cs0.toList.drop j).take 1 = [.string b] := e1
      have h1 : ((cs0.toList.drop j).take 1)[0]? = some (.string b) := by rw [this]; rfl
      rw [List.getElem?_take_of_lt (by omega), List.getElem?_drop, Nat.add_zero, Array.getElem?_toList] at h1
      exact h1
    rw [World.var?_cell gTypes hv0 j, hc]
    unfold strV
    rw [← hb]
  have h0 : 0 < W.heap.size := by
    have := key 0 [] rfl
    unfold World.cell? at this
    split at this
    · rename_i hb; exact (Array.getElem?_eq_some_iff.1 hb).1
    · cases this
  intro n r hr
  have hn : n = 0 := by
    unfold gtab at hr
    cases hb : Nat.beq n 0 with
    | false => rw [hb] at hr; cases hr
    | true => exact Nat.eq_of_beq_eq_true hb
  subst hn
  have hr : r = ⟨9, .str, [[], [48, 49, 48, 48], [48, 49, 49, 48], [48, 52, 48, 48], [48, 52, 49, 48], [48, 52, 50, 48], [48, 52, 50, 49], [48, 52, 51, 48]]⟩ := (Option.some.inj hr).symm
  subst hr
  refine ⟨_, rfl, fun j x hx => ⟨[strV x], rfl, fun i u hu => ?_, rfl⟩⟩
  have hi : i = 0 := by have := (List.getElem?_eq_some_iff.1 hu).1; simp at this; omega
  subst hi
  have hu : u = strV x := by simpa using hu.symm
  subst hu
  have ha : (⟨0, 0, none⟩ : Addr).add (j * (Ty.size .str) + 0) = ⟨0, j, none⟩ := by
    show (⟨0, 0, none⟩ : Addr).add (j * 1 + 0) = _
    unfold Addr.add; split <;> simp_all
  rw [ha]
  exact ⟨key j x hx, h0⟩
end Go.Proofs.YtcgnmecbdleehaaDoor
end
section
set_option linter.unusedVariables false
set_option linter.unusedSimpArgs false
namespace Go.Proofs.YtcgnmecbdleehaaDoor.traceOthers
open Go.ChangeShapes Go.WideShapes Go.ChangeAt Go.RowKit Go.Proofs.YtcgnmecbdleehaaDoor Th G
open Go.ChangeMaps (open_string shut_string)
theorem own : ownKnob Tryd.prog.godebug = none := by kernel_rfl
theorem laidOut : laidOutB Tryd.prog = true := by kernel_rfl
end Go.Proofs.YtcgnmecbdleehaaDoor.traceOthers
end
