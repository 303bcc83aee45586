/- The statement LedgerTwice, out of what its function answers. No condition. -/
import Derived.Test.YtjgnpmdbkgeakaaDoorQLedgerTwice3
import Derived.Test.YtjgnpmdbkgeakaaDoorRows
import Derived.JoinedOf
import Derived.LaidMore
import Derived.FnData
import Derived.ChangeBears2
import Derived.Stop.Joined
import Derived.Carry
import Derived.Test.YtjgnpmdbkgeakaaDoorCards
import Derived.Test.YtjgnpmdbkgeakaaDoorTie
import Derived.SevenTiedAt
section
set_option maxRecDepth 1000000
set_option linter.unusedVariables false
set_option linter.unusedSimpArgs false
namespace Go.Proofs.YtjgnpmdbkgeakaaDoor.G
open Go Go.Proofs.YtjgnpmdbkgeakaaDoor Th
theorem G76_2_eq (k : Nat) (j : Nat) (v0 : List ((Int × List UInt8 × Unit) × Int × Int × Unit)) (v1 v2 : Int) (v3 : List ((Int × List UInt8 × Unit) × Int × Int × Unit)) : G76_2 k (j + 1) (v0, v1, v2, v3, ()) = sel (decide (v2 < v1)) (sel (decide (0 ≤ v2)) (sel (decide (v2 < Int.ofNat
 v0.length)) (ocall (G27 k (((v0.getD v2.toNat ((0, [], ()), 0, 0, ())).1.1, (v0.getD v2.toNat ((0, [], ()), 0, 0, ())).1.2.1, ()), ())) fun r => sel (!r.1) (some (Sum.inr (false, ()))) (sel (decide (1000000000000 ≤ (v0.getD v2.toNat ((0, [],
 ()), 0, 0, ())).2.1)) (some (Sum.inr (false, ()))) (sel (decide ((v0.getD v2.toNat ((0, [], ()), 0, 0, ())).2.2.1 < 1)) (some (Sum.inr (false, ()))) (sel (decide (3 < (v0.getD v2.toNat ((0, [], ()), 0, 0, ())).2.2.1)) (some (Sum.inr
 (false, ()))) (sel (decide (0 < v2)) (sel (decide (0 ≤ IntKind.i64.wrap (v2 - 1))) (sel (decide (IntKind.i64.wrap (v2 - 1) < Int.ofNat v3.length)) (ocall (G29 k (((v3.getD (IntKind.i64.wrap (v2 - 1)).toNat ((0, [], ()), 0, 0, ())).1.1, (v3.getD (IntKind.i64.wrap (v2 -
 1)).toNat ((0, [], ()), 0, 0, ())).1.2.1, ()), ((v0.getD v2.toNat ((0, [], ()), 0, 0, ())).1.1, (v0.getD v2.toNat ((0, [], ()), 0, 0, ())).1.2.1, ()), ())) fun r => sel (decide (0 ≤ r.1)) (some (Sum.inr (false, ())))
 (G76_2 k j (v0, v1, IntKind.i64.wrap (v2 + 1), v3, ()))) none) none) (G76_2 k j (v0, v1, IntKind.i64.wrap (v2 + 1), v3, ()))))))) none) none) (some (Sum.inl (v3, ()))) := by kernel_rfl
noncomputable def G76 (k : Nat) (v : (List ((Int × List UInt8 × Unit) × Int × Int × Unit) × Unit) × Unit) : Option (Bool × Unit) := F76 k v
theorem G76_eq (k : Nat) (v0 : List ((Int × List UInt8 × Unit) × Int × Int × Unit)) : G76 k ((v0, ()), ()) = ocall (G76_2 k k (v0, Int.ofNat v0.length, 0, v0, ())) fun e => esel e (fun v => some (decide (Int.ofNat v.1.length ≤ 256), ())) fun e => some (e.1,
 ()) := by kernel_rfl
noncomputable def G70_2 (k : Nat) (j : Nat) (v : List ((Int × List UInt8 × Unit) × Int × Int × Unit) × Int × Int × Int × List UInt8 × Int × List UInt8 × Int × Int × Unit) : Option (Int × List UInt8 × Int × Int × Unit ⊕ Bool × Int × List UInt8 × Int × Int × Unit) := F70_2 k j v
theorem G70_2_eq (k : Nat) (j : Nat) (v0 : List ((Int × List UInt8 × Unit) × Int × Int × Unit)) (v1 v2 v3 : Int) (v4 : List UInt8) (v5 : Int) (v6 : List UInt8) (v7 v8 : Int) : G70_2 k (j + 1) (v0, v1, v2, v3, v4, v5, v6, v7, v8, ()) = sel (decide (v2 < v1)) (sel (decide (0 ≤ v2)) (sel
 (decide (v2 < Int.ofNat v0.length)) (sel (sameI (v0.getD v2.toNat ((0, [], ()), 0, 0, ())).1.1 v3 && (sameS (v0.getD v2.toNat ((0, [], ()), 0, 0, ())).1.2.1 v4 && true)) (some (Sum.inr (true, (v0.getD v2.toNat ((0, [], ()), 0, 0, ())).1.1, (v0.getD
 v2.toNat ((0, [], ()), 0, 0, ())).1.2.1, (v0.getD v2.toNat ((0, [], ()), 0, 0, ())).2.1, (v0.getD v2.toNat ((0, [], ()), 0, 0, ())).2.2.1, ()))) (G70_2 k j (v0, v1, IntKind.i64.wrap (v2 + 1), v3, v4, v5, v6, v7, v8, ()))) none) none)
 (some (Sum.inl (v5, v6, v7, v8, ()))) := by kernel_rfl
noncomputable def G70 (k : Nat) (v : (List ((Int × List UInt8 × Unit) × Int × Int × Unit) × Unit) × (Int × List UInt8 × Unit) × Unit) : Option (((Int × List UInt8 × Unit) × Int × Int × Unit) × Bool × Unit) := F70 k v
theorem G70_eq (k : Nat) (v0 : List ((Int × List UInt8 × Unit) × Int × Int × Unit)) (v1 : Int) (v2 : List UInt8) : G70 k ((v0, ()), (v1, v2, ()), ()) = ocall (G70_2 k k (v0, Int.ofNat v0.length, 0, v1, v2, 0, [], 0, 0, ())) fun e => esel e (fun v => some (((0, [],
 ()), 0, 0, ()), false, ())) fun e => some (((e.2.1, e.2.2.1, ()), e.2.2.2.1, e.2.2.2.2.1, ()), e.1, ()) := by kernel_rfl
noncomputable def G225 (k : Nat) (v : ((Int × List UInt8 × Unit) × Int × Int × Unit) × (Int × List UInt8 × Unit) × Unit) : Option (Int × Unit) := F225 k v
theorem G225_eq (k : Nat) (v0 : Int) (v1 : List UInt8) (v2 v3 v4 : Int) (v5 : List UInt8) : G225 k (((v0, v1, ()), v2, v3, ()), (v4, v5, ()), ()) = ocall (G29 k ((v0, v1, ()), (v4, v5, ()), ())) fun r => some (r.1, ()) := by kernel_rfl
noncomputable def G7000002_3 (k : Nat) (j : Nat) (v : List ((Int × List UInt8 × Unit) × Int × Int × Unit) × Unit × Int × Int × Int × Int × List UInt8 × Unit) : Option (List ((Int × List UInt8 × Unit) × Int × Int × Unit) × Unit × Int × Int × Int × List UInt8 × Unit) := F7000002_3 k j v
theorem G7000002_3_eq (k : Nat) (j : Nat) (v0 : List ((Int × List UInt8 × Unit) × Int × Int × Unit)) (v1 v2 v3 v4 : Int) (v5 : List UInt8) : G7000002_3 k (j + 1) (v0, (), v1, v2, v3, v4, v5, ()) = sel (decide (v2 < v3)) (sel (decide (0 ≤ IntKind.i64.wrap ((IntKind.u64.wrap
 (IntKind.i64.wrap (v2 + v3))).fdiv (2 ^ min (Int.toNat 1) 64)))) (sel (decide (IntKind.i64.wrap ((IntKind.u64.wrap (IntKind.i64.wrap (v2 + v3))).fdiv (2 ^ min (Int.toNat 1) 64)) < Int.ofNat v0.length)) (ocall (G225 k ((((v0.getD (IntKind.i64.wrap ((IntKind.u64.wrap (IntKind.i64.wrap (v2 + v3))).fdiv
 (2 ^ min (Int.toNat 1) 64))).toNat ((0, [], ()), 0, 0, ())).1.1, (v0.getD (IntKind.i64.wrap ((IntKind.u64.wrap (IntKind.i64.wrap (v2 + v3))).fdiv (2 ^ min (Int.toNat 1) 64))).toNat ((0, [], ()), 0, 0, ())).1.2.1, ()), (v0.getD (IntKind.i64.wrap
 ((IntKind.u64.wrap (IntKind.i64.wrap (v2 + v3))).fdiv (2 ^ min (Int.toNat 1) 64))).toNat ((0, [], ()), 0, 0, ())).2.1, (v0.getD (IntKind.i64.wrap ((IntKind.u64.wrap (IntKind.i64.wrap (v2 + v3))).fdiv (2 ^ min (Int.toNat 1) 64))).toNat ((0, [], ()), 0, 0, ())).2.2.1,
 ()), (v4, v5, ()), ())) fun r => sel (decide (r.1 < 0)) (G7000002_3 k j (v0, (), v1, IntKind.i64.wrap (IntKind.i64.wrap ((IntKind.u64.wrap (IntKind.i64.wrap (v2 + v3))).fdiv (2 ^ min (Int.toNat 1) 64)) + 1), v3, v4, v5, ())) (G7000002_3 k j (v0, (),
 v1, v2, IntKind.i64.wrap ((IntKind.u64.wrap (IntKind.i64.wrap (v2 + v3))).fdiv (2 ^ min (Int.toNat 1) 64)), v4, v5, ()))) none) none) (some (v0, (), v1, v2, v4, v5, ())) := by kernel_rfl
noncomputable def G7000002 (k : Nat) (v : List ((Int × List UInt8 × Unit) × Int × Int × Unit) × (Int × List UInt8 × Unit) × Unit × Unit) : Option (Int × Bool × Unit) := F7000002 k v
theorem G7000002_eq (k : Nat) (v0 : List ((Int × List UInt8 × Unit) × Int × Int × Unit)) (v1 : Int) (v2 : List UInt8) : G7000002 k (v0, (v1, v2, ()), (), ()) = ocall (G7000002_3 k k (v0, (), Int.ofNat v0.length, 0, Int.ofNat v0.length, v1, v2, ())) fun e =>
 sel (decide (e.2.2.2.1 < e.2.2.1)) (sel (decide (0 ≤ e.2.2.2.1)) (sel (decide (e.2.2.2.1 < Int.ofNat e.1.length)) (ocall (G225 k ((((e.1.getD e.2.2.2.1.toNat ((0, [], ()), 0, 0, ())).1.1, (e.1.getD e.2.2.2.1.toNat ((0, [], ()), 0, 0, ())).1.2.1, ()), (e.1.getD
 e.2.2.2.1.toNat ((0, [], ()), 0, 0, ())).2.1, (e.1.getD e.2.2.2.1.toNat ((0, [], ()), 0, 0, ())).2.2.1, ()), (e.2.2.2.2.1, e.2.2.2.2.2.1, ()), ())) fun r => some (e.2.2.2.1, decide (r.1 = 0), ())) none) none) (some (e.2.2.2.1, false,
 ())) := by kernel_rfl
noncomputable def G209 (k : Nat) (v : (List ((Int × List UInt8 × Unit) × Int × Int × Unit) × Unit) × (Int × List UInt8 × Unit) × Unit) : Option (Int × Bool × Unit) := F209 k v
theorem G209_eq (k : Nat) (v0 : List ((Int × List UInt8 × Unit) × Int × Int × Unit)) (v1 : Int) (v2 : List UInt8) : G209 k ((v0, ()), (v1, v2, ()), ()) = ocall (G7000002 k (v0, (v1, v2, ()), (), ())) fun r => some (r.1, r.2.1, ()) := by
 kernel_rfl
noncomputable def G210 (k : Nat) (v : List ((Int × List UInt8 × Unit) × Int × Int × Unit)) : Option (List ((Int × List UInt8 × Unit) × Int × Int × Unit) × Unit) := F210 k v
theorem G210_eq (k : Nat) (v0 : List ((Int × List UInt8 × Unit) × Int × Int × Unit)) : G210 k v0 = sel (decide ((0 + v0.length) * 40 ≤ 140737488355328)) (some (v0, ())) none := by kernel_rfl
noncomputable def G211 (k : Nat) (v : List ((Int × List UInt8 × Unit) × Int × Int × Unit) × Int × List ((Int × List UInt8 × Unit) × Int × Int × Unit) × Unit) : Option (List ((Int × List UInt8 × Unit) × Int × Int × Unit) × Unit) := F211 k v
theorem G211_eq (k : Nat) (v0 : List ((Int × List UInt8 × Unit) × Int × Int × Unit)) (v1 : Int) (v2 : List ((Int × List UInt8 × Unit) × Int × Int × Unit)) : G211 k (v0, v1, v2, ()) = sel (decide (0 ≤ v1)) (sel (decide (v1 ≤ Int.ofNat v0.length)) (sel (decide (v0.length ≤ 1000000)) (sel
 (decide (v2.length = 1)) (some (List.take v1.toNat v0 ++ v2 ++ List.drop v1.toNat v0, ())) none) none) none) none := by kernel_rfl
noncomputable def G188 (k : Nat) (v : (List ((Int × List UInt8 × Unit) × Int × Int × Unit) × Unit) × ((Int × List UInt8 × Unit) × Int × Int × Unit) × Unit) : Option ((List ((Int × List UInt8 × Unit) × Int × Int × Unit) × Unit) × Bool × Unit) := F188 k v
theorem G188_eq (k : Nat) (v0 : List ((Int × List UInt8 × Unit) × Int × Int × Unit)) (v1 : Int) (v2 : List UInt8) (v3 v4 : Int) : G188 k ((v0, ()), ((v1, v2, ()), v3, v4, ()), ()) = ocall (G209 k ((v0, ()), (v1, v2, ()), ())) fun r => sel
 r.2.1 (ocall (G210 k v0) fun r_1 => sel (decide (0 ≤ r.1)) (sel (decide (r.1 < Int.ofNat r_1.1.length)) (sel (decide (r.1.toNat < r_1.1.length)) (some ((r_1.1.set r.1.toNat ((v1, v2, ()), v3, v4, ()), ()), true, ())) none) none) none) (sel (decide (Int.ofNat v0.length
 = 256)) (some ((v0, ()), false, ())) (ocall (G210 k v0) fun r_1 => ocall (G211 k (r_1.1, r.1, [((v1, v2, ()), v3, v4, ())], ())) fun r => some ((r.1, ()), true, ()))) := by kernel_rfl
noncomputable def G136 (k : Nat) (v : (List ((Int × List UInt8 × Unit) × Int × Int × Unit) × Unit) × (Int × List UInt8 × Int × Int × List UInt8 × List UInt8 × Unit) × Bool × Unit) : Option ((List ((Int × List UInt8 × Unit) × Int × Int × Unit) × Unit) × List UInt8 × Unit) := F136 k v
theorem G136_eq (k : Nat) (v0 : List ((Int × List UInt8 × Unit) × Int × Int × Unit)) (v1 : Int) (v2 : List UInt8) (v3 v4 : Int) (v5 v6 : List UInt8) (v7 : Bool) : G136 k ((v0, ()), (v1, v2, v3, v4, v5, v6, ()), v7, ()) = ocall (G26 k ((v1, v2, v3, v4, v5, v6, ()),
 ())) fun r => ocall (G70 k ((v0, ()), (r.1.1, r.1.2.1, ()), ())) fun r => sel r.2.1 (sel (!decide (r.1.2.2.1 = 1)) (some ((v0, ()), [48, 53], ())) (sel r.2.1 (sel (!decide (r.1.2.1 = v3)) (some ((v0, ()), [57, 52], ())) (sel r.2.1 (some
 ((v0, ()), [48, 48], ())) (ocall (G26 k ((v1, v2, v3, v4, v5, v6, ()), ())) fun r => sel v7 (ocall (G188 k ((v0, ()), ((r.1.1, r.1.2.1, ()), v3, 1, ()), ())) fun r => sel (!r.2.1) (some ((v0, ()), [57, 54], ())) (some
 ((r.1.1, ()), [48, 48], ()))) (ocall (G188 k ((v0, ()), ((r.1.1, r.1.2.1, ()), v3, 2, ()), ())) fun r => sel (!r.2.1) (some ((v0, ()), [57, 54], ())) (some ((r.1.1, ()), [48, 53], ())))))) (sel r.2.1 (some ((v0,
 ()), [48, 48], ())) (ocall (G26 k ((v1, v2, v3, v4, v5, v6, ()), ())) fun r => sel v7 (ocall (G188 k ((v0, ()), ((r.1.1, r.1.2.1, ()), v3, 1, ()), ())) fun r => sel (!r.2.1) (some ((v0, ()), [57, 54], ())) (some ((r.1.1,
 ()), [48, 48], ()))) (ocall (G188 k ((v0, ()), ((r.1.1, r.1.2.1, ()), v3, 2, ()), ())) fun r => sel (!r.2.1) (some ((v0, ()), [57, 54], ())) (some ((r.1.1, ()), [48, 53], ()))))))) (sel r.2.1 (sel (!decide (r.1.2.1 =
 v3)) (some ((v0, ()), [57, 52], ())) (sel r.2.1 (some ((v0, ()), [48, 48], ())) (ocall (G26 k ((v1, v2, v3, v4, v5, v6, ()), ())) fun r => sel v7 (ocall (G188 k ((v0, ()), ((r.1.1, r.1.2.1, ()), v3, 1, ()), ())) fun r =>
 sel (!r.2.1) (some ((v0, ()), [57, 54], ())) (some ((r.1.1, ()), [48, 48], ()))) (ocall (G188 k ((v0, ()), ((r.1.1, r.1.2.1, ()), v3, 2, ()), ())) fun r => sel (!r.2.1) (some ((v0, ()), [57, 54], ())) (some ((r.1.1,
 ()), [48, 53], ())))))) (sel r.2.1 (some ((v0, ()), [48, 48], ())) (ocall (G26 k ((v1, v2, v3, v4, v5, v6, ()), ())) fun r => sel v7 (ocall (G188 k ((v0, ()), ((r.1.1, r.1.2.1, ()), v3, 1, ()), ())) fun r => sel (!r.2.1)
 (some ((v0, ()), [57, 54], ())) (some ((r.1.1, ()), [48, 48], ()))) (ocall (G188 k ((v0, ()), ((r.1.1, r.1.2.1, ()), v3, 2, ()), ())) fun r => sel (!r.2.1) (some ((v0, ()), [57, 54], ())) (some ((r.1.1, ()), [48,
 53], ())))))) := by kernel_rfl
noncomputable def G137 (k : Nat) (v : (List ((Int × List UInt8 × Unit) × Int × Int × Unit) × Unit) × (Int × List UInt8 × Int × Int × List UInt8 × List UInt8 × Unit) × Unit) : Option ((List ((Int × List UInt8 × Unit) × Int × Int × Unit) × Unit) × List UInt8 × Unit) := F137 k v
theorem G137_eq (k : Nat) (v0 : List ((Int × List UInt8 × Unit) × Int × Int × Unit)) (v1 : Int) (v2 : List UInt8) (v3 v4 : Int) (v5 v6 : List UInt8) : G137 k ((v0, ()), (v1, v2, v3, v4, v5, v6, ()), ()) = ocall (G26 k ((v1, v2, v3, v4, v5, v6, ()), ())) fun
 r => ocall (G70 k ((v0, ()), (r.1.1, r.1.2.1, ()), ())) fun r => sel (!r.2.1) (ocall (G26 k ((v1, v2, v3, v4, v5, v6, ()), ())) fun r => ocall (G188 k ((v0, ()), ((r.1.1, r.1.2.1, ()), v3, 3, ()), ())) fun r => sel (!r.2.1)
 (some ((v0, ()), [57, 54], ())) (some ((r.1.1, ()), [48, 48], ()))) (ocall (G188 k ((v0, ()), ((r.1.1.1, r.1.1.2.1, ()), r.1.2.1, 3, ()), ())) fun r => sel (!r.2.1) (some ((v0, ()), [57, 54], ())) (some ((r.1.1,
 ()), [48, 48], ()))) := by kernel_rfl
noncomputable def G72 (k : Nat) (v : (List ((Int × List UInt8 × Unit) × Int × Int × Unit) × Unit) × (Int × List UInt8 × Int × Int × List UInt8 × List UInt8 × Unit) × Bool × Unit) : Option ((List ((Int × List UInt8 × Unit) × Int × Int × Unit) × Unit) × (Int × List UInt8 × Int × Int × List
 UInt8 × List UInt8 × Unit) × Int × Unit) := F72 k v
theorem G72_eq (k : Nat) (v0 : List ((Int × List UInt8 × Unit) × Int × Int × Unit)) (v1 : Int) (v2 : List UInt8) (v3 v4 : Int) (v5 v6 : List UInt8) (v7 : Bool) : G72 k ((v0, ()), (v1, v2, v3, v4, v5, v6, ()), v7, ()) = ocall (G76 k ((v0, ()), ())) fun r =>
 sel (!r.1) (some ((v0, ()), (0, [], 0, 0, [], [], ()), 1, ())) (ocall (G33 k ((v1, v2, v3, v4, v5, v6, ()), ())) fun r => sel (!r.1) (some ((v0, ()), (0, [], 0, 0, [], [], ()), 1, ())) (sel (decide (v1 = 1)) (ocall (G136 k ((v0,
 ()), (v1, v2, v3, v4, v5, v6, ()), v7, ())) fun r => some ((r.1.1, ()), (2, [], 0, v4, v5, r.2.1, ()), 0, ())) (sel (decide (v1 = 5)) (sel (decide (v1 = 5)) (ocall (G137 k ((v0, ()), (v1, v2, v3, v4, v5, v6, ()), ())) fun r =>
 some ((r.1.1, ()), (7, [], 0, v4, v5, r.2.1, ()), 0, ())) (some ((v0, ()), (0, [], 0, 0, [], [], ()), 3, ()))) (sel (decide (v1 = 6)) (ocall (G137 k ((v0, ()), (v1, v2, v3, v4, v5, v6, ()), ())) fun r => some ((r.1.1,
 ()), (7, [], 0, v4, v5, r.2.1, ()), 0, ())) (some ((v0, ()), (0, [], 0, 0, [], [], ()), 3, ())))))) := by kernel_rfl
noncomputable def G78_5 (k : Nat) (j : Nat) (v : (Nat × Nat) × List ((Int × List UInt8 × Unit) × Int × Int × Unit) × Int × Int × Unit) : Option ((Nat × Nat) × Unit) := F78_5 k j v
theorem G78_5_eq (k : Nat) (j : Nat) (v0 v1 : Nat) (v2 : List ((Int × List UInt8 × Unit) × Int × Int × Unit)) (v3 v4 : Int) : G78_5 k (j + 1) ((v0, v1), v2, v3, v4, ()) = sel (decide (v4 < v3)) (sel (decide (0 ≤ v4)) (sel (decide (v4 < Int.ofNat v2.length)) (sel (decide ((v2.getD v4.toNat
 ((0, [], ()), 0, 0, ())).2.2.1 = 1)) (sel (cOK BinOp.add v0 v1 (fltOf (v2.getD v4.toNat ((0, [], ()), 0, 0, ())).2.1) 0) (G78_5 k j (((cVal BinOp.add v0 v1 (fltOf (v2.getD v4.toNat ((0, [], ()), 0, 0, ())).2.1) 0).1, (cVal BinOp.add v0 v1 (fltOf
 (v2.getD v4.toNat ((0, [], ()), 0, 0, ())).2.1) 0).2), v2, v3, IntKind.i64.wrap (v4 + 1), ())) none) (sel (decide ((v2.getD v4.toNat ((0, [], ()), 0, 0, ())).2.2.1 = 3)) (sel (cOK BinOp.mul (fltOf (v2.getD v4.toNat ((0, [], ()), 0, 0, ())).2.1)
 0 0 4607182418800017408) (sel (cOK BinOp.add v0 v1 (cVal BinOp.mul (fltOf (v2.getD v4.toNat ((0, [], ()), 0, 0, ())).2.1) 0 0 4607182418800017408).1 (cVal BinOp.mul (fltOf (v2.getD v4.toNat ((0, [], ()), 0, 0, ())).2.1) 0 0 4607182418800017408).2) (G78_5 k j (((cVal
 BinOp.add v0 v1 (cVal BinOp.mul (fltOf (v2.getD v4.toNat ((0, [], ()), 0, 0, ())).2.1) 0 0 4607182418800017408).1 (cVal BinOp.mul (fltOf (v2.getD v4.toNat ((0, [], ()), 0, 0, ())).2.1) 0 0 4607182418800017408).2).1, (cVal BinOp.add v0 v1 (cVal BinOp.mul (fltOf
 (v2.getD v4.toNat ((0, [], ()), 0, 0, ())).2.1) 0 0 4607182418800017408).1 (cVal BinOp.mul (fltOf (v2.getD v4.toNat ((0, [], ()), 0, 0, ())).2.1) 0 0 4607182418800017408).2).2), v2, v3, IntKind.i64.wrap (v4 + 1), ())) none) none) (G78_5 k j ((v0, v1), v2, v3,
 IntKind.i64.wrap (v4 + 1), ())))) none) none) (some ((v0, v1), ())) := by kernel_rfl
noncomputable def G78 (k : Nat) (v : (List ((Int × List UInt8 × Unit) × Int × Int × Unit) × Unit) × Unit) : Option ((Nat × Nat) × Unit) := F78 k v
theorem G78_eq (k : Nat) (v0 : List ((Int × List UInt8 × Unit) × Int × Int × Unit)) : G78 k ((v0, ()), ()) = ocall (G76 k ((v0, ()), ())) fun r => sel (!r.1) (some ((0, 0), ())) (ocall (G78_5 k k ((0, 0), v0, Int.ofNat v0.length, 0, ())) fun e =>
 some ((e.1.1, e.1.2), ())) := by kernel_rfl
noncomputable def G68 (k : Nat) (v : Unit) : Option (Bool × Unit) := F68 k v
theorem G68_eq (k : Nat) : G68 k () = ocall (G72 k (([], ()), (1, [49, 56], 500, 1, [82, 82, 78, 48, 48, 48, 48, 48, 48, 48, 48, 49], [], ()), true, ())) fun r => ocall (G72 k ((r.1.1, ()), (5, [49, 56], 500, 1, [82, 82, 78, 48, 48, 48, 48, 48, 48, 48, 48,
 49], [], ()), true, ())) fun r_1 => ocall (G72 k ((r_1.1.1, ()), (1, [49, 56], 500, 1, [82, 82, 78, 48, 48, 48, 48, 48, 48, 48, 48, 49], [], ()), true, ())) fun r_2 => ocall (G26 k ((1, [49, 56], 500, 1, [82, 82, 78, 48, 48, 48, 48, 48, 48, 48, 48, 49], [],
 ()), ())) fun r_3 => ocall (G70 k ((r_1.1.1, ()), (r_3.1.1, r_3.1.2.1, ()), ())) fun r_4 => sel (decide (r.2.2.1 = 0)) (sel (decide (r_1.2.2.1 = 0)) (sel (decide (r_2.2.2.1 = 0)) (sel (decide (r.2.1.1 = 2)) (sel (decide (r.2.1.2.2.2.2.2.1 = [48, 48])) (sel
 (decide (r_1.2.1.1 = 7)) (sel (decide (r_1.2.1.2.2.2.2.2.1 = [48, 48])) (sel (decide (r_2.2.1.2.2.2.2.2.1 = [48, 53])) (sel r_4.2.1 (sel (decide (r_4.1.2.2.1 = 3)) (sel (decide (r_4.1.2.1 = 500)) (ocall (G78 k ((r.1.1, ()), ())) fun r => sel (cSame r.1.1 r.1.2 4647503709213818880 0)
 (ocall (G78 k ((r_1.1.1, ()), ())) fun r => sel (cSame r.1.1 r.1.2 0 4647503709213818880) (ocall (G76 k ((r_1.1.1, ()), ())) fun r => some (r.1, ())) (some (false, ()))) (some (false, ()))) (some (false, ()))) (some (false,
 ()))) (some (false, ()))) (some (false, ()))) (some (false, ()))) (some (false, ()))) (some (false, ()))) (some (false, ()))) (some (false, ()))) (some (false, ()))) (some (false, ())) := by kernel_rfl
noncomputable def G69_2 (k : Nat) (j : Nat) (v : Int × List ((Int × List UInt8 × Unit) × Int × Int × Unit) × Unit) : Option (List ((Int × List UInt8 × Unit) × Int × Int × Unit) × Unit ⊕ Bool × Unit) := F69_2 k j v
theorem G69_2_eq (k : Nat) (j : Nat) (v0 : Int) (v1 : List ((Int × List UInt8 × Unit) × Int × Int × Unit)) : G69_2 k (j + 1) (v0, v1, ()) = sel (decide (v0 < Int.ofNat v1.length)) (sel (decide (v0 < 300)) (sel (decide (0 ≤ v0)) (sel (decide (v0 < Int.ofNat v1.length)) (ocall (G25 k
 (((v1.getD v0.toNat ((0, [], ()), 0, 0, ())).1.1, (v1.getD v0.toNat ((0, [], ()), 0, 0, ())).1.2.1, ()), ())) fun r => sel (!r.1) (some (Sum.inr (false, ()))) (G69_2 k j (IntKind.i64.wrap (v0 + 1), v1, ()))) none) none) (some (Sum.inl
 (v1, ())))) (some (Sum.inl (v1, ()))) := by kernel_rfl
noncomputable def G69 (k : Nat) (v : (List ((Int × List UInt8 × Unit) × Int × Int × Unit) × Unit) × Unit) : Option (Bool × Unit) := F69 k v
theorem G69_eq (k : Nat) (v0 : List ((Int × List UInt8 × Unit) × Int × Int × Unit)) : G69 k ((v0, ()), ()) = ocall (G69_2 k k (0, v0, ())) fun e => esel e (fun v => some (decide (Int.ofNat v.1.length ≤ 300), ())) fun e => some (e.1, ()) := by kernel_rfl
noncomputable def G77_4 (k : Nat) (j : Nat) (v : Int × List ((Int × List UInt8 × Unit) × Int × Int × Unit) × List ((Int × List UInt8 × Unit) × Int × Int × Unit) × Unit) : Option (Unit ⊕ Bool × Unit) := F77_4 k j v
theorem G77_4_eq (k : Nat) (j : Nat) (v0 : Int) (v1 v2 : List ((Int × List UInt8 × Unit) × Int × Int × Unit)) : G77_4 k (j + 1) (v0, v1, v2, ()) = sel (decide (v0 < Int.ofNat v1.length)) (sel (decide (0 ≤ v0)) (sel (decide (v0 < Int.ofNat v1.length)) (sel (decide (0 ≤ v0)) (sel (decide (v0
 < Int.ofNat v2.length)) (sel (!(sameI (v1.getD v0.toNat ((0, [], ()), 0, 0, ())).1.1 (v2.getD v0.toNat ((0, [], ()), 0, 0, ())).1.1 && (sameS (v1.getD v0.toNat ((0, [], ()), 0, 0, ())).1.2.1 (v2.getD v0.toNat ((0, [], ()), 0, 0,
 ())).1.2.1 && true) && (sameI (v1.getD v0.toNat ((0, [], ()), 0, 0, ())).2.1 (v2.getD v0.toNat ((0, [], ()), 0, 0, ())).2.1 && (sameI (v1.getD v0.toNat ((0, [], ()), 0, 0, ())).2.2.1 (v2.getD v0.toNat ((0, [], ()), 0, 0,
 ())).2.2.1 && true)))) (some (Sum.inr (false, ()))) (G77_4 k j (IntKind.i64.wrap (v0 + 1), v1, v2, ()))) none) none) none) none) (some (Sum.inl ())) := by kernel_rfl
noncomputable def G77 (k : Nat) (v : (List ((Int × List UInt8 × Unit) × Int × Int × Unit) × Unit) × (List ((Int × List UInt8 × Unit) × Int × Int × Unit) × Unit) × Unit) : Option (Bool × Unit) := F77 k v
theorem G77_eq (k : Nat) (v0 v1 : List ((Int × List UInt8 × Unit) × Int × Int × Unit)) : G77 k ((v0, ()), (v1, ()), ()) = sel (!decide (Int.ofNat v0.length = Int.ofNat v1.length)) (some (false, ())) (ocall (G77_4 k k (0, v0, v1, ())) fun e => esel e (fun v
 => some (true, ())) fun e => some (e.1, ())) := by kernel_rfl
noncomputable def G16 (k : Nat) (v : (List ((Int × List UInt8 × Unit) × Int × Int × Unit) × Unit) × (Int × List UInt8 × Int × Int × List UInt8 × List UInt8 × Unit) × Bool × Bool × Unit) : Option (Bool × Unit) := F16 k v
theorem G16_eq (k : Nat) (v0 : List ((Int × List UInt8 × Unit) × Int × Int × Unit)) (v1 : Int) (v2 : List UInt8) (v3 v4 : Int) (v5 v6 : List UInt8) (v7 v8 : Bool) : G16 k ((v0, ()), (v1, v2, v3, v4, v5, v6, ()), v7, v8, ()) = ocall (G68 k ()) fun r => sel (!r.1)
 (some (false, ())) (ocall (G69 k ((v0, ()), ())) fun r => sel (!r.1) (some (true, ())) (ocall (G24 k ((v1, v2, v3, v4, v5, v6, ()), ())) fun r => sel (!r.1) (some (true, ())) (ocall (G72 k ((v0, ()), (v1, v2, v3, v4, v5, v6,
 ()), v7, ())) fun r => ocall (G72 k ((r.1.1, ()), (v1, v2, v3, v4, v5, v6, ()), v8, ())) fun r_1 => sel (decide (r.2.2.1 = r_1.2.2.1)) (sel (sameI r.2.1.1 r_1.2.1.1 && (sameS r.2.1.2.1 r_1.2.1.2.1 && (sameI r.2.1.2.2.1 r_1.2.1.2.2.1 && (sameI r.2.1.2.2.2.1
 r_1.2.1.2.2.2.1 && (sameS r.2.1.2.2.2.2.1 r_1.2.1.2.2.2.2.1 && (sameS r.2.1.2.2.2.2.2.1 r_1.2.1.2.2.2.2.2.1 && true)))))) (ocall (G77 k ((r.1.1, ()), (r_1.1.1, ()), ())) fun r => some (r.1, ())) (some (false, ()))) (some (false, ()))))) := by
 kernel_rfl
end Go.Proofs.YtjgnpmdbkgeakaaDoor.G
end
section
set_option linter.unusedVariables false
set_option linter.unusedSimpArgs false
set_option maxRecDepth 100000
namespace Go.Proofs.YtjgnpmdbkgeakaaDoor.G
open Go Go.Proofs.YtjgnpmdbkgeakaaDoor Th
def zeroHo : Hold := ((0, [], ()), 0, 0, ())
def holdOK (h : Hold) : Bool := keyOK h.1 && (decide (h.2.1 < 1000000000000) && (decide (1 ≤ h.2.2.1) && decide (h.2.2.1 ≤ 3)))
def ledOK (l : List Hold) : Bool := l.all holdOK && orderedH l && decide (l.length ≤ 256)
def goodHo (h : Hold) : Prop := (0 ≤ h.1.1 ∧ h.1.1 ≤ 4294967295) ∧ 0 ≤ h.2.1 ∧ h.2.1 ≤ 18446744073709551615
def goodHs (l : List Hold) : Prop := ∀ h ∈ l, goodHo h
def lensHs (l : List Hold) : Prop := ∀ h ∈ l, h.1.2.1.length ≤ 300
theorem led_parts {l : List Hold} (h : ledOK l = true) : l.all holdOK = true ∧ orderedH l = true ∧ l.length ≤ 256 := by
  unfold ledOK at h
  simp only [Bool.and_eq_true, decide_eq_true_eq] at h
  exact ⟨h.1.1, h.1.2, h.2⟩
theorem hold_parts {h : Hold} (e : holdOK h = true) : keyOK h.1 = true ∧ h.2.1 < 1000000000000 ∧ 1 ≤ h.2.2.1 ∧ h.2.2.1 ≤ 3 := by
  unfold holdOK at e
  simpa [Bool.and_eq_true, decide_eq_true_eq] using e
theorem sameHo (a b : Hold) : (sameI a.1.1 b.1.1 && (sameS a.1.2.1 b.1.2.1 && true) && (sameI a.2.1 b.2.1 && (sameI a.2.2.1 b.2.2.1 && true))) = decide (a = b) := by
  have hk := sameK a.1 b.1
  rw [hk]
  obtain ⟨a1, a2, a3, ⟨⟩⟩ := a
  obtain ⟨b1, b2, b3, ⟨⟩⟩ := b
  simp only [sameI]
  by_cases h1 : a1 = b1 <;> by_cases h2 : a2 = b2 <;> by_cases h3 : a3 = b3 <;> simp [h1, h2, h3]
theorem led_loop (k : Nat) (hk : 1000 < k) (l : List Hold) (hl : lensHs l) (hg : goodHs l) (hn : l.length ≤ 1000) : ∀ (j i : Nat), i + 1 + j = l.length → ∀ n, j < n →
    G76_2 k n (l, (l.length : Int), ((i + 1 : Nat) : Int), l, ()) = some (sel ((l.drop (i + 1)).all holdOK && orderedH (l.drop i)) (.inl (l, ())) (.inr (false, ()))) := by
  intro j
  induction j with
  | zero =>
    intro i hij n hn'
    obtain ⟨n, rfl⟩ : ∃ m, n = m + 1 := ⟨n - 1, by omega⟩
    have hd : l.drop (i + 1) = [] := List.drop_eq_nil_of_le (by omega)
    rw [G76_2_eq, sel_neg (by omega), List.drop_eq_getElem_cons (show i < l.length by omega), hd]
    rfl
  | succ j ih =>
    intro i hij n hn'
    obtain ⟨n, rfl⟩ : ∃ m, n = m + 1 := ⟨n - 1, by omega⟩
    have hlt : i + 1 < l.length := by omega
    have hlt0 : i < l.length := by omega
    have hm := List.getElem_mem hlt
    have hR : G27 k (((l[i + 1]).1.1, (l[i + 1]).1.2.1, ()), ()) = _ := G27_is k 300 (by omega) (by omega) l[i + 1].1 (hl _ hm) (by omega) (hg _ hm).1
    have hO : G29 k (((l[i]).1.1, (l[i]).1.2.1, ()), ((l[i + 1]).1.1, (l[i + 1]).1.2.1, ()), ()) = _ := G29_is k (by omega) l[i].1 l[i + 1].1
    have hw : IntKind.i64.wrap (((i + 1 : Nat) : Int) + 1) = ((i + 1 + 1 : Nat) : Int) := by rw [wrap64 (by omega) (by omega)]; omega
    have hw2 : IntKind.i64.wrap (((i + 1 : Nat) : Int) - 1) = (i : Int) := by rw [wrap64 (by omega) (by omega)]; omega
    rw [G76_2_eq]
    simp only [ofNat_len, hw, hw2, Int.toNat_natCast, getD_of hlt, getD_of hlt0]
    rw [sel_pos (by omega), sel_pos (by omega), sel_pos (by omega), hR, ocall_some]
    have hd0 : l.drop i = l[i] :: l[i + 1] :: l.drop (i + 1 + 1) := by rw [List.drop_eq_getElem_cons hlt0, List.drop_eq_getElem_cons hlt]
    have hi := ih (i + 1) (by omega) n (by omega)
    rw [List.drop_eq_getElem_cons hlt] at hi ⊢
    rw [hd0]
    simp only [List.all_cons, orderedH]
    rw [show holdOK l[i + 1] = (keyOK (l[i + 1]).1 && (decide ((l[i + 1]).2.1 < (1000000000000 : Int)) && (decide ((1 : Int) ≤ (l[i + 1]).2.2.1) && decide ((l[i + 1]).2.2.1 ≤ (3 : Int))))) from rfl]
    cases keyOK (l[i + 1]).1 with
    | false => rfl
    | true =>
    simp only [Bool.not_true, sel_false, Bool.true_and]
    by_cases c1 : (l[i + 1]).2.1 < 1000000000000
    case neg => rw [sel_pos (by omega), decide_eq_false c1]; rfl
    rw [sel_neg (by omega), decide_eq_true c1]
    by_cases c2 : (1 : Int) ≤ (l[i + 1]).2.2.1
    case neg => rw [sel_pos (by omega), decide_eq_false c2]; rfl
    rw [sel_neg (by omega), decide_eq_true c2]
    by_cases c3 : (l[i + 1]).2.2.1 ≤ 3
    case neg => rw [sel_pos (by omega), decide_eq_false c3]; rfl
    rw [sel_neg (by omega), decide_eq_true c3, sel_pos (by omega), sel_pos (by omega), sel_pos (by omega), hO, ocall_some]
    by_cases ho : ordK l[i].1 l[i + 1].1 = -1
    · simp only [ho, decide_true, Bool.true_and]
      rw [sel_neg (by decide)]
      exact hi
    · have := ordK_cases l[i].1 l[i + 1].1
      rw [sel_pos (show (0 : Int) ≤ ordK l[i].1 l[i + 1].1 by omega), decide_eq_false ho]
      simp
theorem G76_is (k : Nat) (hk : 1001 < k) (l : List Hold) (hl : lensHs l) (hg : goodHs l) (hn : l.length ≤ 1000) : G76 k ((l, ()), ()) = some (ledOK l, ()) := by
  have hlp := led_loop k (by omega) l hl hg hn
  rw [G76_eq]
  unfold ledOK
  obtain ⟨k', rfl⟩ : ∃ m, k = m + 1 := ⟨k - 1, by omega⟩
  have h1 : G76_2 (k' + 1) (k' + 1) (l, (l.length : Int), 0, l, ()) = some (sel (l.all holdOK && orderedH l) (.inl (l, ())) (.inr (false, ()))) := by
    rw [G76_2_eq]
    by_cases h0 : l.length = 0
    · obtain rfl : l = [] := List.eq_nil_of_length_eq_zero h0
      rw [sel_neg (by simp)]; rfl
    have hlt : 0 < l.length := by omega
    have hm := List.getElem_mem hlt
    have e0 : l.getD (Int.toNat 0) ((0, [], ()), 0, 0, ()) = l[0] := getD_of hlt _
    have hR : G27 (k' + 1) (((l[0]).1.1, (l[0]).1.2.1, ()), ()) = _ := G27_is (k' + 1) 300 (by omega) (by omega) l[0].1 (hl _ hm) (by omega) (hg _ hm).1
    simp only [e0, ofNat_len]
    have hw : IntKind.i64.wrap (0 + 1) = ((0 + 1 : Nat) : Int) := rfl
    rw [sel_pos (by omega), sel_pos (by omega), sel_pos (by omega), hR, ocall_some, hw, hlp (l.length - 1) 0 (by omega) k' (by omega)]
    have hd : l = l[0] :: l.drop 1 := by
      have := List.drop_eq_getElem_cons hlt
      rwa [List.drop_zero] at this
    have ha : l.all holdOK = (holdOK l[0] && (l.drop 1).all holdOK) := by
      conv => lhs; rw [hd]
      rfl
    rw [ha, List.drop_zero, show holdOK l[0] = (keyOK (l[0]).1 && (decide ((l[0]).2.1 < (1000000000000 : Int)) && (decide ((1 : Int) ≤ (l[0]).2.2.1) && decide ((l[0]).2.2.1 ≤ (3 : Int))))) from rfl]
    cases keyOK (l[0]).1 with
    | false => rfl
    | true =>
    simp only [Bool.not_true, sel_false, Bool.true_and]
    by_cases c1 : (l[0]).2.1 < 1000000000000
    case neg => rw [sel_pos (by omega), decide_eq_false c1]; rfl
    rw [sel_neg (by omega), decide_eq_true c1]
    by_cases c2 : (1 : Int) ≤ (l[0]).2.2.1
    case neg => rw [sel_pos (by omega), decide_eq_false c2]; rfl
    rw [sel_neg (by omega), decide_eq_true c2]
    by_cases c3 : (l[0]).2.2.1 ≤ 3
    case neg => rw [sel_pos (by omega), decide_eq_false c3]; rfl
    rw [sel_neg (by omega), decide_eq_true c3, sel_neg (by omega)]
    rfl
  simp only [ofNat_len]
  rw [h1, ocall_some]
  cases c : (l.all holdOK && orderedH l) with
  | true =>
    rw [sel_true, esel_inl, Bool.true_and]
    simp only [ofNat_len]
    rw [show decide ((l.length : Int) ≤ 256) = decide (l.length ≤ 256) from decide_eq_decide.2 (by omega)]
  | false => rw [sel_false, esel_inr]; rfl
theorem bsH_loop (k : Nat) (hk : 2 < k) (l : List Hold) (hn : l.length ≤ 1000) (ho : orderedH l = true) (key : Key) (v1 : Int) : ∀ (d i j : Nat), i ≤ j → j ≤ l.length → j - i ≤ d → (∀ x (hx : x < l.length), x < i → ordK l[x].1 key = -1) → (∀ x (hx : x < l.length), j ≤ x → ordK l[x].1 key ≠ -1) → ∀ n, d < n →
    G7000002_3 k n (l, (), v1, (i : Int), (j : Int), key.1, key.2.1, ()) = some (l, (), v1, ((posEH l key : Nat) : Int), key.1, key.2.1, ()) := by
  intro d
  induction d with
  | zero =>
    intro i j hij hj hd h1 h2 n hn'
    obtain ⟨n, rfl⟩ : ∃ m, n = m + 1 := ⟨n - 1, by omega⟩
    obtain rfl : i = j := by omega
    rw [G7000002_3_eq, sel_neg (by omega), posE_ofH key l i hj h1 h2]
  | succ d ih =>
    intro i j hij hj hd h1 h2 n hn'
    obtain ⟨n, rfl⟩ : ∃ m, n = m + 1 := ⟨n - 1, by omega⟩
    rw [G7000002_3_eq]
    by_cases hlt : i < j
    case neg =>
      obtain rfl : i = j := by omega
      rw [sel_neg (by omega), posE_ofH key l i hj h1 h2]
    have hm : (i + j) / 2 < l.length := by omega
    have hm1 : i ≤ (i + j) / 2 := by omega
    have hm2 : (i + j) / 2 < j := by omega
    simp only [mid_is i j (by omega)]
    generalize (i + j) / 2 = h at hm hm1 hm2
    have hC : G225 k ((((l[h]).1.1, (l[h]).1.2.1, ()), (l[h]).2.1, (l[h]).2.2.1, ()), (key.1, key.2.1, ()), ()) = some (ordK l[h].1 key, ()) := by
      rw [G225_eq]
      rw [show G29 k (((l[h]).1.1, (l[h]).1.2.1, ()), (key.1, key.2.1, ()), ()) = _ from G29_is k hk l[h].1 key, ocall_some]
    simp only [ofNat_len, Int.toNat_natCast, getD_of hm]
    rw [sel_pos (by omega), sel_pos (by omega), sel_pos (by omega), hC, ocall_some]
    have hw : IntKind.i64.wrap ((h : Int) + 1) = ((h + 1 : Nat) : Int) := by rw [wrap64 (by omega) (by omega)]; omega
    have hcs := ordK_cases l[h].1 key
    by_cases c : ordK l[h].1 key = -1
    · rw [sel_pos (show ordK l[h].1 key < 0 by omega), hw]
      refine ih (h + 1) j (by omega) hj (by omega) (fun x hx hxi => ?_) h2 n (by omega)
      rcases Nat.lt_or_eq_of_le (Nat.le_of_lt_succ hxi) with c2 | c2
      · exact ordK_trans (ordered_getH ho x h c2 hm) c
      · simp only [c2]; exact c
    · rw [sel_neg (show ¬ ordK l[h].1 key < 0 by omega)]
      refine ih i h hm1 (by omega) (by omega) h1 (fun x hx hxi => ?_) n (by omega)
      rcases Nat.lt_or_eq_of_le hxi with c2 | c2
      · exact fun e => c (ordK_trans (ordered_getH ho h x c2 hx) e)
      · simp only [← c2]; exact c
theorem G209_is (k : Nat) (hk : 1001 < k) (l : List Hold) (hn : l.length ≤ 1000) (ho : orderedH l = true) (key : Key) : G209 k ((l, ()), key, ()) = some (((posEH l key : Nat) : Int), hasAtH l key, ()) := by
  have hb := bsH_loop k (by omega) l hn ho key (l.length : Int) l.length 0 l.length (Nat.zero_le _) (Nat.le_refl _) (by omega) (fun x hx h => absurd h (Nat.not_lt_zero _)) (fun x hx h => by omega) k (by omega)
  rw [Int.natCast_zero] at hb
  have hp := posE_leH l key
  have hC := fun (h : posEH l key < l.length) => show G225 k ((((l[posEH l key]).1.1, (l[posEH l key]).1.2.1, ()), (l[posEH l key]).2.1, (l[posEH l key]).2.2.1, ()), (key.1, key.2.1, ()), ()) = some (ordK l[posEH l key].1 key, ()) from by
    rw [G225_eq]
    rw [show G29 k (((l[posEH l key]).1.1, (l[posEH l key]).1.2.1, ()), (key.1, key.2.1, ()), ()) = _ from G29_is k (by omega) l[posEH l key].1 key, ocall_some]
  unfold hasAtH
  obtain ⟨k1, k2, ⟨⟩⟩ := key
  (try simp only [] at hb hC)
  rw [G209_eq, G7000002_eq]
  simp only [ofNat_len]
  rw [hb, ocall_some]
  simp only [ofNat_len, Int.toNat_natCast]
  generalize posEH l (k1, k2, ()) = p at hp hC
  by_cases h : p < l.length
  · have hC := hC h
    simp only [getD_of h]
    rw [sel_pos (by omega), sel_pos (by omega), sel_pos (by omega), hC, ocall_some, ocall_some, List.getElem?_eq_getElem h]
    (try simp only [])
    rw [show decide (ordK l[p].1 (k1, k2, ()) = 0) = decide (l[p].1 = (k1, k2, ())) from decide_eq_decide.2 ordK_zero]
  · rw [sel_neg (by omega), ocall_some, List.getElem?_eq_none (by omega)]
theorem findH_loop (k : Nat) (l : List Hold) (hn : l.length ≤ 1000000) (key : Key) (v5 : Int) (v6 : Txt) (v7 v8 : Int) : ∀ (j i : Nat), i + j = l.length → ∀ n, j < n →
    G70_2 k n (l, (l.length : Int), (i : Int), key.1, key.2.1, v5, v6, v7, v8, ()) = some (match findEH (l.drop i) key with
      | some e => .inr (true, e.1.1, e.1.2.1, e.2.1, e.2.2.1, ())
      | none => .inl (v5, v6, v7, v8, ())) := by
  intro j
  induction j with
  | zero =>
    intro i hij n hn'
    obtain ⟨n, rfl⟩ : ∃ m, n = m + 1 := ⟨n - 1, by omega⟩
    rw [G70_2_eq, sel_neg (by omega), List.drop_eq_nil_of_le (by omega)]
    rfl
  | succ j ih =>
    intro i hij n hn'
    obtain ⟨n, rfl⟩ : ∃ m, n = m + 1 := ⟨n - 1, by omega⟩
    have hlt : i < l.length := by omega
    have hi := ih (i + 1) (by omega) n (by omega)
    have hw : IntKind.i64.wrap ((i : Int) + 1) = ((i + 1 : Nat) : Int) := by rw [wrap64 (by omega) (by omega)]; omega
    have hs : (sameI (l[i]).1.1 key.1 && (sameS (l[i]).1.2.1 key.2.1 && true)) = decide ((l[i]).1 = key) := sameK (l[i]).1 key
    rw [G70_2_eq]
    simp only [ofNat_len, Int.toNat_natCast, getD_of hlt, hw]
    rw [sel_pos (by omega), sel_pos (by omega), sel_pos (by omega), hs, List.drop_eq_getElem_cons hlt]
    unfold findEH at hi ⊢
    rw [List.find?_cons]
    unfold keyIsH at hi ⊢
    cases c : decide ((l[i]).1 = key) with
    | true => rfl
    | false => exact hi
theorem G70_is (k : Nat) (l : List Hold) (hn : l.length ≤ 1000000) (hk : l.length < k) (key : Key) : G70 k ((l, ()), key, ()) = some (match findEH l key with | some e => (e, true, ()) | none => (zeroHo, false, ())) := by
  have h := findH_loop k l hn key 0 [] 0 0 l.length 0 (by omega) k hk
  rw [List.drop_zero, Int.natCast_zero] at h
  obtain ⟨k1, k2, ⟨⟩⟩ := key
  rw [G70_eq]
  simp only [ofNat_len] at h ⊢
  rw [h, ocall_some]
  cases findEH l (k1, k2, ()) with
  | some e => rfl
  | none => rfl
def withL (l : List Hold) (h : Hold) : List Hold × Bool := if hasAtH l h.1 = true then (l.set (posEH l h.1) h, true) else if l.length = 256 then (l, false) else (insLH l h, true)
theorem hClone (k : Nat) (l : List Hold) (h : l.length ≤ 1000) : G210 k l = some (l, ()) := by
  rw [G210_eq, sel_pos (by omega)]
theorem G188_is (k : Nat) (hk : 1001 < k) (l : List Hold) (hn : l.length ≤ 1000) (ho : orderedH l = true) (h : Hold) : G188 k ((l, ()), h, ()) = some (((withL l h).1, ()), (withL l h).2, ()) := by
  have hP := G209_is k hk l hn ho h.1
  have hlt := @hasAt_ltH l h.1
  have hp := posE_leH l h.1
  unfold withL insLH
  obtain ⟨⟨e1, e2, ⟨⟩⟩, e3, e4, ⟨⟩⟩ := h
  (try simp only [] at hP hlt hp ⊢)
  rw [G188_eq, hP, ocall_some]
  cases hh : hasAtH l (e1, e2, ()) with
  | true =>
    obtain ⟨h4, _⟩ := hlt hh
    rw [if_pos rfl]
    generalize posEH l (e1, e2, ()) = p at h4
    simp only [sel_true]
    rw [hClone k l hn, ocall_some]
    simp only [ofNat_len, Int.toNat_natCast]
    rw [sel_pos (by omega), sel_pos (by omega), sel_pos (by omega)]
  | false =>
    rw [if_neg (by simp)]
    simp only [sel_false, ofNat_len]
    by_cases h7 : l.length = 256
    · rw [sel_pos (by omega), if_pos h7]
    rw [sel_neg (by omega), if_neg h7, hClone k l hn, ocall_some, G211_eq]
    simp only [ofNat_len]
    rw [sel_pos (by omega), sel_pos (by omega), sel_pos (by omega), sel_pos (by simp), ocall_some, Int.toNat_natCast]
end Go.Proofs.YtjgnpmdbkgeakaaDoor.G
end
section
set_option linter.unusedVariables false
set_option linter.unusedSimpArgs false
set_option maxRecDepth 100000
namespace Go.Proofs.YtjgnpmdbkgeakaaDoor.G
open Go Go.Proofs.YtjgnpmdbkgeakaaDoor Th
def keyD (d : Deal) : Key := (d.2.2.2.1, d.2.2.2.2.1, ())
def askL (l : List Hold) (d : Deal) (ap : Bool) : List Hold × Txt := match findEH l (keyD d) with
  | some h => if h.2.2.1 = 1 then (if h.2.1 = d.2.2.1 then (l, [48, 48]) else (l, [57, 52])) else (l, [48, 53])
  | none => if (withL l (keyD d, d.2.2.1, if ap = true then 1 else 2, ())).2 = true then ((withL l (keyD d, d.2.2.1, if ap = true then 1 else 2, ())).1, if ap = true then [48, 48] else [48, 53]) else (l, [57, 54])
def backL (l : List Hold) (h : Hold) : List Hold × Txt := if (withL l h).2 = true then ((withL l h).1, [48, 48]) else (l, [57, 54])
def advL (l : List Hold) (d : Deal) : List Hold × Txt := match findEH l (keyD d) with
  | some h => backL l (h.1, h.2.1, 3, ())
  | none => backL l (keyD d, d.2.2.1, 3, ())
def doL (l : List Hold) (d : Deal) (ap : Bool) : List Hold × Deal × Int := if ledOK l = true ∧ dealOK d = true then
    (if d.1 = 1 then ((askL l d ap).1, (2, [], 0, d.2.2.2.1, d.2.2.2.2.1, (askL l d ap).2, ()), 0)
     else if d.1 = 5 ∨ d.1 = 6 then ((advL l d).1, (7, [], 0, d.2.2.2.1, d.2.2.2.2.1, (advL l d).2, ()), 0) else (l, zeroD, 3))
  else (l, zeroD, 1)
theorem G136_is (k : Nat) (hk : 1001 < k) (l : List Hold) (hn : l.length ≤ 1000) (ho : orderedH l = true) (d : Deal) (ap : Bool) : G136 k ((l, ()), d, ap, ()) = some (((askL l d ap).1, ()), (askL l d ap).2, ()) := by
  have hF := G70_is k l (by omega) (by omega) (keyD d)
  have hW := fun h => G188_is k hk l hn ho h
  unfold askL
  obtain ⟨d1, d2, d3, d4, d5, d6, ⟨⟩⟩ := d
  unfold keyD at hF ⊢
  (try simp only [] at hF ⊢)
  rw [G136_eq, G26_is, ocall_some]
  (try simp only [])
  rw [hF, ocall_some]
  cases findEH l (d4, d5, ()) with
  | some h =>
    simp only [sel_true]
    by_cases c : h.2.2.1 = 1
    case neg => rw [sel_not, sel_neg c, if_neg c]
    rw [sel_not, sel_pos c, if_pos c]
    by_cases c2 : h.2.1 = d3
    · rw [sel_not, sel_pos c2, if_pos c2]
    · rw [sel_not, sel_neg c2, if_neg c2]
  | none =>
    simp only [sel_false]
    rw [ocall_some]
    (try simp only [])
    cases ap with
    | true =>
      simp only [sel_true]
      rw [hW, ocall_some]
      simp only [if_true]
      cases (withL l ((d4, d5, ()), d3, 1, ())).2 <;> rfl
    | false =>
      simp only [sel_false]
      rw [hW, ocall_some]
      simp only [Bool.false_eq_true, if_false]
      cases (withL l ((d4, d5, ()), d3, 2, ())).2 <;> rfl
theorem G137_is (k : Nat) (hk : 1001 < k) (l : List Hold) (hn : l.length ≤ 1000) (ho : orderedH l = true) (d : Deal) : G137 k ((l, ()), d, ()) = some (((advL l d).1, ()), (advL l d).2, ()) := by
  have hF := G70_is k l (by omega) (by omega) (keyD d)
  have hW := fun h => G188_is k hk l hn ho h
  unfold advL backL
  obtain ⟨d1, d2, d3, d4, d5, d6, ⟨⟩⟩ := d
  unfold keyD at hF ⊢
  (try simp only [] at hF ⊢)
  rw [G137_eq, G26_is, ocall_some]
  (try simp only [])
  rw [hF, ocall_some]
  cases findEH l (d4, d5, ()) with
  | some h =>
    have hW' : G188 k ((l, ()), ((h.1.1, h.1.2.1, ()), h.2.1, 3, ()), ()) = _ := hW (h.1, h.2.1, 3, ())
    simp only [Bool.not_true, sel_false]
    rw [hW', ocall_some]
    (try simp only [])
    cases (withL l (h.1, h.2.1, 3, ())).2 <;> rfl
  | none =>
    simp only [Bool.not_false, sel_true]
    rw [ocall_some]
    (try simp only [])
    rw [hW, ocall_some]
    (try simp only [])
    cases (withL l ((d4, d5, ()), d3, 3, ())).2 <;> rfl
theorem G72_is (k : Nat) (hk : 1001 < k) (l : List Hold) (hl : lensHs l) (hg : goodHs l) (hn : l.length ≤ 1000) (d : Deal) (hd : lens 300 d) (gd : goodD d) (ap : Bool) : G72 k ((l, ()), d, ap, ()) = some (((doL l d ap).1, ()), (doL l d ap).2.1, (doL l d ap).2.2, ()) := by
  have hR := G76_is k hk l hl hg hn
  have hD := G33_is k 300 (by omega) (by omega) d hd gd
  have hA := fun ho => G136_is k hk l hn ho d ap
  have hV := fun ho => G137_is k hk l hn ho d
  unfold doL
  obtain ⟨d1, d2, d3, d4, d5, d6, ⟨⟩⟩ := d
  rw [G72_eq, hR, ocall_some]
  cases hs : ledOK l with
  | false => rw [if_neg (by simp)]; rfl
  | true =>
  obtain ⟨_, ho, _⟩ := led_parts hs
  have hA := hA ho
  have hV := hV ho
  simp only [Bool.not_true, sel_false]
  rw [hD, ocall_some]
  cases he : dealOK (d1, d2, d3, d4, d5, d6, ()) with
  | false => rw [if_neg (by simp)]; rfl
  | true =>
  simp only [Bool.not_true, sel_false]
  first | rw [if_pos (⟨rfl, rfl⟩ : true = true ∧ true = true)] | rw [if_pos (⟨trivial, trivial⟩ : True ∧ True)]
  by_cases c1 : d1 = 1
  · rw [sel_pos c1, if_pos c1, hA, ocall_some]
  rw [sel_neg c1, if_neg c1]
  by_cases c5 : d1 = 5
  · rw [sel_pos c5, sel_pos c5, if_pos (.inl c5), hV, ocall_some]
  rw [sel_neg c5]
  by_cases c6 : d1 = 6
  · rw [sel_pos c6, if_pos (.inr c6), hV, ocall_some]
  · rw [sel_neg c6, if_neg (by omega)]; rfl
def dL1 : Deal := (1, [49, 56], 500, 1, [82, 82, 78, 48, 48, 48, 48, 48, 48, 48, 48, 49], [], ())
def dL5 : Deal := (5, [49, 56], 500, 1, [82, 82, 78, 48, 48, 48, 48, 48, 48, 48, 48, 49], [], ())
def hL1 : Hold := ((1, [82, 82, 78, 48, 48, 48, 48, 48, 48, 48, 48, 49], ()), 500, 1, ())
def hL3 : Hold := ((1, [82, 82, 78, 48, 48, 48, 48, 48, 48, 48, 48, 49], ()), 500, 3, ())
theorem goodHL {l : List Hold} (h : ∀ e ∈ l, e = hL1 ∨ e = hL3) : lensHs l ∧ goodHs l := by
  constructor <;> intro e he <;> rcases h e he with rfl | rfl <;> (first | decide | exact ⟨⟨by decide, by decide⟩, by decide, by decide⟩)
theorem sumL1 (k : Nat) (hk : 1001 < k) : ∃ x y, G78 k (([hL1], ()), ()) = some ((x, y), ()) ∧ cSame x y 4647503709213818880 0 = true := by
  obtain ⟨g1, g2⟩ := goodHL (l := [hL1]) (by simp)
  have hR := G76_is k hk [hL1] g1 g2 (by simp)
  rw [show ledOK [hL1] = true from by kernel_rfl] at hR
  obtain ⟨m, rfl⟩ : ∃ m, k = m + 1 + 1 := ⟨k - 2, by omega⟩
  have c1 : cOK BinOp.add 0 0 (fltOf 500) 0 = true := by kernel_rfl
  have e0 : ([hL1] : List Hold).getD (Int.toNat 0) ((0, [], ()), 0, 0, ()) = ((1, [82, 82, 78, 48, 48, 48, 48, 48, 48, 48, 48, 49], ()), 500, 1, ()) := rfl
  have e1 : Int.ofNat ([hL1] : List Hold).length = 1 := rfl
  have hw : IntKind.i64.wrap (0 + 1) = 1 := rfl
  have hl : G78_5 (m + 1 + 1) (m + 1 + 1) ((0, 0), [hL1], 1, 0, ()) = some (((cVal BinOp.add 0 0 (fltOf 500) 0).1, (cVal BinOp.add 0 0 (fltOf 500) 0).2), ()) := by
    rw [G78_5_eq]
    simp only [e0, e1, hw]
    rw [sel_pos (by decide), sel_pos (by decide), sel_pos (by decide), sel_pos trivial, c1, sel_true, G78_5_eq, sel_neg (by decide)]
  refine ⟨(cVal BinOp.add 0 0 (fltOf 500) 0).1, (cVal BinOp.add 0 0 (fltOf 500) 0).2, ?_, ?_⟩
  · rw [G78_eq, hR, ocall_some]
    simp only [Bool.not_true, sel_false, e1]
    rw [hl, ocall_some]
  · kernel_rfl
theorem sumL3 (k : Nat) (hk : 1001 < k) : ∃ x y, G78 k (([hL3], ()), ()) = some ((x, y), ()) ∧ cSame x y 0 4647503709213818880 = true := by
  obtain ⟨g1, g2⟩ := goodHL (l := [hL3]) (by simp)
  have hR := G76_is k hk [hL3] g1 g2 (by simp)
  rw [show ledOK [hL3] = true from by kernel_rfl] at hR
  obtain ⟨m, rfl⟩ : ∃ m, k = m + 1 + 1 := ⟨k - 2, by omega⟩
  have c1 : cOK BinOp.mul (fltOf 500) 0 0 4607182418800017408 = true := by kernel_rfl
  have c2 : cOK BinOp.add 0 0 (cVal BinOp.mul (fltOf 500) 0 0 4607182418800017408).1 (cVal BinOp.mul (fltOf 500) 0 0 4607182418800017408).2 = true := by kernel_rfl
  have e0 : ([hL3] : List Hold).getD (Int.toNat 0) ((0, [], ()), 0, 0, ()) = ((1, [82, 82, 78, 48, 48, 48, 48, 48, 48, 48, 48, 49], ()), 500, 3, ()) := rfl
  have e1 : Int.ofNat ([hL3] : List Hold).length = 1 := rfl
  have hw : IntKind.i64.wrap (0 + 1) = 1 := rfl
  have hl : G78_5 (m + 1 + 1) (m + 1 + 1) ((0, 0), [hL3], 1, 0, ()) = some (((cVal BinOp.add 0 0 (cVal BinOp.mul (fltOf 500) 0 0 4607182418800017408).1 (cVal BinOp.mul (fltOf 500) 0 0 4607182418800017408).2).1, (cVal BinOp.add 0 0 (cVal BinOp.mul (fltOf 500) 0 0 4607182418800017408).1 (cVal BinOp.mul (fltOf 500) 0 0 4607182418800017408).2).2), ()) := by
    rw [G78_5_eq]
    simp only [e0, e1, hw]
    rw [sel_pos (by decide), sel_pos (by decide), sel_pos (by decide), sel_neg (by decide), sel_pos trivial, c1, sel_true, c2, sel_true, G78_5_eq, sel_neg (by decide)]
  refine ⟨(cVal BinOp.add 0 0 (cVal BinOp.mul (fltOf 500) 0 0 4607182418800017408).1 (cVal BinOp.mul (fltOf 500) 0 0 4607182418800017408).2).1, (cVal BinOp.add 0 0 (cVal BinOp.mul (fltOf 500) 0 0 4607182418800017408).1 (cVal BinOp.mul (fltOf 500) 0 0 4607182418800017408).2).2, ?_, ?_⟩
  · rw [G78_eq, hR, ocall_some]
    simp only [Bool.not_true, sel_false, e1]
    rw [hl, ocall_some]
  · kernel_rfl
theorem G68_is (k : Nat) (hk : 2000 < k) : G68 k () = some (true, ()) := by
  have g0 := goodHL (l := []) (by simp)
  have g1 := goodHL (l := [hL1]) (by simp)
  have g3 := goodHL (l := [hL3]) (by simp)
  have d1 : lens 300 dL1 ∧ goodD dL1 := ⟨⟨by decide, by decide, by decide⟩, by decide, by decide⟩
  have d5 : lens 300 dL5 ∧ goodD dL5 := ⟨⟨by decide, by decide, by decide⟩, by decide, by decide⟩
  have h1 := G72_is k (by omega) [] g0.1 g0.2 (by simp) dL1 d1.1 d1.2 true
  have h2 := G72_is k (by omega) [hL1] g1.1 g1.2 (by simp) dL5 d5.1 d5.2 true
  have h3 := G72_is k (by omega) [hL3] g3.1 g3.2 (by simp) dL1 d1.1 d1.2 true
  have h4 := G70_is k [hL3] (by simp) (by simp; omega) (1, [82, 82, 78, 48, 48, 48, 48, 48, 48, 48, 48, 49], ())
  have h5 := G76_is k (by omega) [hL3] g3.1 g3.2 (by simp)
  rw [show doL [] dL1 true = ([hL1], (2, [], 0, 1, [82, 82, 78, 48, 48, 48, 48, 48, 48, 48, 48, 49], [48, 48], ()), 0) from by kernel_rfl] at h1
  rw [show doL [hL1] dL5 true = ([hL3], (7, [], 0, 1, [82, 82, 78, 48, 48, 48, 48, 48, 48, 48, 48, 49], [48, 48], ()), 0) from by kernel_rfl] at h2
  rw [show doL [hL3] dL1 true = ([hL3], (2, [], 0, 1, [82, 82, 78, 48, 48, 48, 48, 48, 48, 48, 48, 49], [48, 53], ()), 0) from by kernel_rfl] at h3
  rw [show findEH [hL3] (1, [82, 82, 78, 48, 48, 48, 48, 48, 48, 48, 48, 49], ()) = some hL3 from by kernel_rfl] at h4
  rw [show ledOK [hL3] = true from by kernel_rfl] at h5
  obtain ⟨x1, y1, s1, t1⟩ := sumL1 k (by omega)
  obtain ⟨x3, y3, s3, t3⟩ := sumL3 k (by omega)
  simp only [dL1, dL5] at h1 h2 h3
  rw [G68_eq, h1, ocall_some]
  (try simp only [])
  rw [h2, ocall_some]
  (try simp only [])
  rw [h3, ocall_some, G26_is, ocall_some]
  (try simp only [])
  rw [h4, ocall_some]
  simp only [hL3, decide_true, sel_true] at *
  rw [s1, ocall_some]
  simp only [t1, sel_true]
  rw [s3, ocall_some]
  simp only [t3, sel_true]
  rw [h5, ocall_some]
end Go.Proofs.YtjgnpmdbkgeakaaDoor.G
end
section
set_option linter.unusedVariables false
set_option linter.unusedSimpArgs false
set_option maxRecDepth 100000
namespace Go.Proofs.YtjgnpmdbkgeakaaDoor.G
open Go Go.Proofs.YtjgnpmdbkgeakaaDoor Th
theorem ordered_keys : ∀ (l m : List Hold), l.map (·.1) = m.map (·.1) → orderedH l = orderedH m := by
  intro l
  induction l with
  | nil => intro m h; cases m with
    | nil => rfl
    | cons b t => cases h
  | cons a t ih =>
    intro m h
    cases m with
    | nil => cases h
    | cons b u =>
      have h1 : a.1 = b.1 := (List.cons.inj h).1
      have h2 : t.map (·.1) = u.map (·.1) := (List.cons.inj h).2
      cases t with
      | nil =>
        cases u with
        | nil => rfl
        | cons c v => cases h2
      | cons c v =>
        cases u with
        | nil => cases h2
        | cons d w =>
          have h3 : c.1 = d.1 := (List.cons.inj h2).1
          simp only [orderedH]
          rw [h1, h3, ih (d :: w) h2]
theorem set_keys {l : List Hold} {p : Nat} (hp : p < l.length) {h : Hold} (hk : h.1 = (l[p]).1) : (l.set p h).map (·.1) = l.map (·.1) := by
  rw [List.map_set, hk]
  apply List.ext_getElem?
  intro i
  rw [List.getElem?_set]
  by_cases e : p = i
  · subst e
    rw [if_pos rfl, if_pos (by simpa using hp), List.getElem?_map, List.getElem?_eq_getElem hp]
    rfl
  · rw [if_neg e]
theorem set_pos {l : List Hold} (ho : orderedH l = true) {key : Key} (hh : hasAtH l key = true) {h : Hold} (hk : h.1 = key) : posEH (l.set (posEH l key) h) key = posEH l key := by
  obtain ⟨hp, he⟩ := hasAt_ltH hh
  refine posE_ofH key _ _ (by rw [List.length_set]; omega) (fun x hx hxp => ?_) (fun x hx hxp => ?_)
  · rw [List.getElem_set_ne (by omega)]
    exact posE_ltH key l x (by rw [List.length_set] at hx; exact hx) hxp
  · rcases Nat.lt_or_eq_of_le hxp with c | c
    · rw [List.getElem_set_ne (by omega)]
      exact posE_geH ho key x (by rw [List.length_set] at hx; exact hx) hxp
    · simp only [← c, List.getElem_set_self]
      rw [hk, ordK_zero.2 rfl]; decide
theorem set_get {l : List Hold} {key : Key} (hh : hasAtH l key = true) (h : Hold) : (l.set (posEH l key) h)[posEH l key]? = some h := by
  obtain ⟨hp, _⟩ := hasAt_ltH hh
  rw [List.getElem?_set, if_pos rfl, if_pos hp]
theorem set_has {l : List Hold} (ho : orderedH l = true) {key : Key} (hh : hasAtH l key = true) {h : Hold} (hk : h.1 = key) : hasAtH (l.set (posEH l key) h) key = true := by
  unfold hasAtH
  rw [set_pos ho hh hk, set_get hh]
  exact decide_eq_true hk
theorem set_ordered {l : List Hold} (ho : orderedH l = true) {key : Key} (hh : hasAtH l key = true) {h : Hold} (hk : h.1 = key) : orderedH (l.set (posEH l key) h) = true := by
  obtain ⟨hp, he⟩ := hasAt_ltH hh
  rw [ordered_keys _ l (set_keys hp (by rw [hk, he]))]
  exact ho
theorem set_find {l : List Hold} (ho : orderedH l = true) {key : Key} (hh : hasAtH l key = true) {h : Hold} (hk : h.1 = key) : findEH (l.set (posEH l key) h) key = some h := by
  rw [has_findH (set_ordered ho hh hk), if_pos (set_has ho hh hk), set_pos ho hh hk, set_get hh]
theorem set_ok {l : List Hold} (ok : ledOK l = true) {key : Key} (hh : hasAtH l key = true) {h : Hold} (hk : h.1 = key) (hok : holdOK h = true) : ledOK (l.set (posEH l key) h) = true := by
  obtain ⟨h1, h2, h3⟩ := led_parts ok
  unfold ledOK
  rw [set_ordered h2 hh hk, decide_eq_true (show (l.set (posEH l key) h).length ≤ 256 by rw [List.length_set]; exact h3)]
  have ha : (l.set (posEH l key) h).all holdOK = true := List.all_eq_true.2 fun x hx => by
    rcases List.mem_or_eq_of_mem_set hx with hx | hx
    · exact List.all_eq_true.1 h1 x hx
    · rw [hx]; exact hok
  rw [ha]; rfl
theorem insH_ok {l : List Hold} {h : Hold} (ok : ledOK l = true) (hok : holdOK h = true) (hh : hasAtH l h.1 = false) (h7 : l.length ≠ 256) : ledOK (insLH l h) = true := by
  obtain ⟨h1, h2, h3⟩ := led_parts ok
  unfold ledOK
  rw [ins_orderedH h l h2 hh, decide_eq_true (show (insLH l h).length ≤ 256 by rw [ins_lengthH]; omega)]
  have ha : (insLH l h).all holdOK = true := List.all_eq_true.2 fun x hx => by
    rcases ins_memH hx with hx | hx
    · exact List.all_eq_true.1 h1 x hx
    · rw [hx]; exact hok
  rw [ha]; rfl
theorem find_mem {l : List Hold} {key : Key} {h : Hold} (e : findEH l key = some h) : h ∈ l ∧ h.1 = key := by
  have h2 : keyIsH key h = true := List.find?_some e
  exact ⟨List.mem_of_find?_eq_some e, of_decide_eq_true h2⟩
theorem has_none {l : List Hold} (ho : orderedH l = true) {key : Key} (e : findEH l key = none) : hasAtH l key = false := by
  rw [has_findH ho] at e
  cases c : hasAtH l key with
  | false => rfl
  | true =>
    obtain ⟨hp, _⟩ := hasAt_ltH c
    rw [if_pos c, List.getElem?_eq_getElem hp] at e; cases e
theorem with_set {l : List Hold} {h : Hold} (hh : hasAtH l h.1 = true) : withL l h = (l.set (posEH l h.1) h, true) := by unfold withL; rw [if_pos hh]
theorem with_full {l : List Hold} {h : Hold} (hh : hasAtH l h.1 = false) (h7 : l.length = 256) : withL l h = (l, false) := by unfold withL; rw [if_neg (by rw [hh]; simp), if_pos h7]
theorem with_ins {l : List Hold} {h : Hold} (hh : hasAtH l h.1 = false) (h7 : l.length ≠ 256) : withL l h = (insLH l h, true) := by unfold withL; rw [if_neg (by rw [hh]; simp), if_neg h7]
theorem with_again {l : List Hold} (ho : orderedH l = true) {h : Hold} (hm : (withL l h).2 = true) : findEH (withL l h).1 h.1 = some h ∧ withL (withL l h).1 h = ((withL l h).1, true) := by
  cases hh : hasAtH l h.1 with
  | true =>
    rw [with_set hh]
    refine ⟨set_find ho hh rfl, ?_⟩
    rw [with_set (set_has ho hh rfl), set_pos ho hh rfl, List.set_set]
  | false =>
    by_cases h7 : l.length = 256
    · rw [with_full hh h7] at hm; cases hm
    rw [with_ins hh h7]
    refine ⟨ins_findH l h (ins_orderedH h l ho hh), ?_⟩
    rw [with_set (ins_hasH l h), ins_posH, ins_setH l h h rfl]
theorem with_ok {l : List Hold} (ok : ledOK l = true) {h : Hold} (hok : holdOK h = true) (hm : (withL l h).2 = true) : ledOK (withL l h).1 = true := by
  cases hh : hasAtH l h.1 with
  | true => rw [with_set hh]; exact set_ok ok hh rfl hok
  | false =>
    by_cases h7 : l.length = 256
    · rw [with_full hh h7] at hm; cases hm
    rw [with_ins hh h7]; exact insH_ok ok hok hh h7
theorem with_mem {l : List Hold} {h x : Hold} (hx : x ∈ (withL l h).1) : x ∈ l ∨ x = h := by
  unfold withL at hx
  split at hx
  · exact List.mem_or_eq_of_mem_set hx
  · split at hx
    · exact .inl hx
    · exact ins_memH hx
theorem with_len (l : List Hold) (h : Hold) : (withL l h).1.length ≤ l.length + 1 := by
  unfold withL
  split
  · rw [List.length_set]; exact Nat.le_succ _
  · split
    · exact Nat.le_succ _
    · rw [ins_lengthH]; exact Nat.le_refl _
theorem doL_bad {l : List Hold} {d : Deal} {ap : Bool} (h : ¬ (ledOK l = true ∧ dealOK d = true)) : doL l d ap = (l, zeroD, 1) := by unfold doL; rw [if_neg h]
theorem ask_holdOK {d : Deal} (h : dealOK d = true) (h1 : asksK d.1 = true) {st : Int} (s1 : 1 ≤ st) (s3 : st ≤ 3) : holdOK (keyD d, d.2.2.1, st, ()) = true := by
  obtain ⟨_, _, hs, hr, hc⟩ := ok_parts h
  rcases hc with ⟨_, _, _, ha, _⟩ | ⟨h0, _⟩
  · unfold holdOK keyOK keyD
    (try simp only [])
    rw [decide_eq_true hs, hr, decide_eq_true ha, decide_eq_true s1, decide_eq_true s3]; rfl
  · rw [h1] at h0; cases h0
theorem doL_twice (l : List Hold) (d : Deal) (a b : Bool) : doL (doL l d a).1 d b = doL l d a := by
  by_cases ok : ledOK l = true ∧ dealOK d = true
  case neg => rw [doL_bad ok]; exact doL_bad ok
  obtain ⟨_, ho, _⟩ := led_parts ok.1
  have hdo : ∀ ap, doL l d ap = if d.1 = 1 then ((askL l d ap).1, (2, [], 0, d.2.2.2.1, d.2.2.2.2.1, (askL l d ap).2, ()), 0)
     else if d.1 = 5 ∨ d.1 = 6 then ((advL l d).1, (7, [], 0, d.2.2.2.1, d.2.2.2.2.1, (advL l d).2, ()), 0) else (l, zeroD, 3) := fun ap => by unfold doL; rw [if_pos ok]
  by_cases c1 : d.1 = 1
  · have hask : asksK d.1 = true := by rw [c1]; rfl
    have key : ledOK (askL l d a).1 = true ∧ askL (askL l d a).1 d b = askL l d a := by
      unfold askL
      cases hf : findEH l (keyD d) with
      | some h =>
        (try simp only [])
        by_cases c2 : h.2.2.1 = 1
        · by_cases c3 : h.2.1 = d.2.2.1
          · simp only [if_pos c2, if_pos c3, hf]; exact ⟨ok.1, trivial⟩
          · simp only [if_pos c2, if_neg c3, hf]; exact ⟨ok.1, trivial⟩
        · simp only [if_neg c2, hf]; exact ⟨ok.1, trivial⟩
      | none =>
        have hh := has_none ho hf
        have st : ∀ c : Bool, (1 : Int) ≤ (if c = true then 1 else 2) ∧ (if c = true then (1 : Int) else 2) ≤ 3 := fun c => by cases c <;> simp
        by_cases h7 : l.length = 256
        · have hw : ∀ c : Bool, withL l (keyD d, d.2.2.1, if c = true then 1 else 2, ()) = (l, false) := fun c => with_full hh h7
          simp only [hw, Bool.false_eq_true, if_false, hf]
          first | exact ⟨ok.1, trivial⟩ | exact ⟨ok.1, rfl⟩ | exact ok.1
        · have hw : withL l (keyD d, d.2.2.1, if a = true then 1 else 2, ()) = (insLH l (keyD d, d.2.2.1, if a = true then 1 else 2, ()), true) := with_ins hh h7
          have ok2 := insH_ok ok.1 (ask_holdOK ok.2 hask (st a).1 (st a).2) hh h7
          obtain ⟨_, ho2, _⟩ := led_parts ok2
          have hf2 := ins_findH l (keyD d, d.2.2.1, if a = true then 1 else 2, ()) ho2
          simp only [hw, if_true]
          refine ⟨ok2, ?_⟩
          rw [hf2]
          cases a with
          | true => simp
          | false => simp
    have h2 : doL (askL l d a).1 d b = ((askL (askL l d a).1 d b).1, (2, [], 0, d.2.2.2.1, d.2.2.2.2.1, (askL (askL l d a).1 d b).2, ()), 0) := by unfold doL; rw [if_pos ⟨key.1, ok.2⟩, if_pos c1]
    rw [hdo, if_pos c1]
    (try simp only [])
    rw [h2, key.2]
  · by_cases c5 : d.1 = 5 ∨ d.1 = 6
    · have hask : asksK d.1 = true := by rcases c5 with h | h <;> rw [h] <;> rfl
      have back : ∀ h : Hold, h.1 = keyD d → h.2.2.1 = 3 → holdOK h = true → (∀ m, ledOK m = true → findEH m (keyD d) = some h → advL m d = backL m h) → ledOK (backL l h).1 = true ∧ (advL l d = backL l h → advL (backL l h).1 d = backL l h) := by
        intro h hk h3 hok hadv
        unfold backL
        by_cases hm : (withL l h).2 = true
        · obtain ⟨w1, w2⟩ := with_again ho hm
          have ok2 := with_ok ok.1 hok hm
          rw [if_pos hm]
          refine ⟨ok2, fun _ => ?_⟩
          (try simp only [])
          rw [hadv _ ok2 (by rw [← hk]; exact w1)]
          unfold backL
          rw [w2]; rfl
        · rw [if_neg hm]
          refine ⟨ok.1, fun e => ?_⟩
          (try simp only [])
          rw [e]
      have key : ledOK (advL l d).1 = true ∧ advL (advL l d).1 d = advL l d := by
        have adv : ∀ (h : Hold), h.1 = keyD d → h.2.2.1 = 3 → ∀ m, ledOK m = true → findEH m (keyD d) = some h → advL m d = backL m h := by
          intro h hk h3 m _ e
          unfold advL
          rw [e]
          obtain ⟨x1, x2, x3, ⟨⟩⟩ := h
          (try simp only [] at h3 ⊢)
          rw [h3]
        cases hf : findEH l (keyD d) with
        | some h =>
          obtain ⟨hm, hk⟩ := find_mem hf
          obtain ⟨p1, p2, _, _⟩ := hold_parts (List.all_eq_true.1 (led_parts ok.1).1 h hm)
          have hok : holdOK (h.1, h.2.1, 3, ()) = true := by
            unfold holdOK
            (try simp only [])
            rw [p1, decide_eq_true p2]; rfl
          have e : advL l d = backL l (h.1, h.2.1, 3, ()) := by unfold advL; rw [hf]
          obtain ⟨b1, b2⟩ := back (h.1, h.2.1, 3, ()) hk rfl hok (adv _ hk rfl)
          rw [e]
          exact ⟨b1, b2 e⟩
        | none =>
          have e : advL l d = backL l (keyD d, d.2.2.1, 3, ()) := by unfold advL; rw [hf]
          obtain ⟨b1, b2⟩ := back (keyD d, d.2.2.1, 3, ()) rfl rfl (ask_holdOK ok.2 hask (by decide) (by decide)) (adv _ rfl rfl)
          rw [e]
          exact ⟨b1, b2 e⟩
      have h2 : doL (advL l d).1 d b = ((advL (advL l d).1 d).1, (7, [], 0, d.2.2.2.1, d.2.2.2.2.1, (advL (advL l d).1 d).2, ()), 0) := by unfold doL; rw [if_pos ⟨key.1, ok.2⟩, if_neg c1, if_pos c5]
      rw [hdo, if_neg c1, if_pos c5]
      (try simp only [])
      rw [h2, key.2]
    · rw [hdo, if_neg c1, if_neg c5]
      (try simp only [])
      rw [hdo, if_neg c1, if_neg c5]
end Go.Proofs.YtjgnpmdbkgeakaaDoor.G
end
section
set_option linter.unusedVariables false
set_option linter.unusedSimpArgs false
set_option maxRecDepth 100000
namespace Go.Proofs.YtjgnpmdbkgeakaaDoor.G
open Go Go.Proofs.YtjgnpmdbkgeakaaDoor Th
theorem shortK (k : Nat) (a : Key) : G25 k (a, ()) = some (decide (a.2.1.length ≤ 300), ()) := by
  rw [G25_eq]
  have : decide ((Int.ofNat a.2.1.length) ≤ 300) = decide (a.2.1.length ≤ 300) := decide_eq_decide.2 (by simp only [Int.ofNat_eq_natCast]; omega)
  simp only [this]
theorem shortH_loop (k : Nat) (l : List Hold) : ∀ (j i : Nat), i + j = (l.take 300).length → ∀ n, j < n →
    G69_2 k n ((i : Int), l, ()) = some (sel (((l.take 300).drop i).all (fun e => decide (e.1.2.1.length ≤ 300))) (.inl (l, ())) (.inr (false, ()))) := by
  intro j
  induction j with
  | zero =>
    intro i hij n hn
    obtain ⟨n, rfl⟩ : ∃ m, n = m + 1 := ⟨n - 1, by omega⟩
    rw [List.drop_eq_nil_of_le (by omega), G69_2_eq]
    rw [List.length_take] at hij
    simp only [ofNat_len]
    by_cases h : i < l.length
    · rw [sel_pos (by omega), sel_neg (by omega)]; rfl
    · rw [sel_neg (by omega)]; rfl
  | succ j ih =>
    intro i hij n hn
    obtain ⟨n, rfl⟩ : ∃ m, n = m + 1 := ⟨n - 1, by omega⟩
    have hlt' : i < (l.take 300).length := by omega
    have hij' := hij
    rw [List.length_take] at hij'
    have hlt : i < l.length := by omega
    have hw : IntKind.i64.wrap ((i : Int) + 1) = ((i + 1 : Nat) : Int) := by rw [wrap64 (by omega) (by omega)]; omega
    have he : (l.take 300)[i] = l[i] := List.getElem_take
    have hS : G25 k (((l[i]).1.1, (l[i]).1.2.1, ()), ()) = _ := shortK k l[i].1
    rw [G69_2_eq]
    simp only [ofNat_len, Int.toNat_natCast, getD_of hlt]
    rw [sel_pos (by omega), sel_pos (by omega), sel_pos (by omega), sel_pos (by omega), hS, ocall_some, List.drop_eq_getElem_cons hlt', he, List.all_cons]
    by_cases c : (l[i]).1.2.1.length ≤ 300
    · rw [decide_eq_true c, Bool.not_true, sel_false, hw, ih (i + 1) (by omega) n (by omega), Bool.true_and]
    · rw [decide_eq_false c, Bool.not_false, sel_true, Bool.false_and]; rfl
theorem G69_is (k : Nat) (hk : 301 < k) (l : List Hold) : ∃ b, G69 k ((l, ()), ()) = some (b, ()) ∧ (b = true → l.length ≤ 300 ∧ lensHs l) := by
  have h := shortH_loop k l (l.take 300).length 0 (by omega) k (by rw [List.length_take]; omega)
  rw [List.drop_zero, Int.natCast_zero] at h
  rw [G69_eq, h, ocall_some]
  cases c : (l.take 300).all (fun e => decide (e.1.2.1.length ≤ 300)) with
  | true =>
    rw [sel_true, esel_inl]
    refine ⟨_, rfl, fun h => ?_⟩
    have hle : l.length ≤ 300 := by have := of_decide_eq_true h; simp only [ofNat_len] at this; omega
    rw [List.take_of_length_le (by omega)] at c
    exact ⟨hle, fun e he => by simpa using List.all_eq_true.1 c e he⟩
  | false =>
    rw [sel_false, esel_inr]
    exact ⟨_, rfl, fun h => absurd h (by simp)⟩
theorem sameH_loop (k : Nat) (a b : List Hold) (hab : a.length = b.length) (hl : a.length ≤ 1000000) : ∀ (j i : Nat), i + j = a.length → ∀ n, j < n →
    G77_4 k n ((i : Int), a, b, ()) = some (sel (decide (a.drop i = b.drop i)) (.inl ()) (.inr (false, ()))) := by
  intro j
  induction j with
  | zero =>
    intro i hij n hn
    obtain ⟨n, rfl⟩ : ∃ m, n = m + 1 := ⟨n - 1, by omega⟩
    rw [G77_4_eq, sel_neg (by simp only [ofNat_len]; omega), List.drop_eq_nil_of_le (by omega), List.drop_eq_nil_of_le (by omega), decide_eq_true rfl]
    rfl
  | succ j ih =>
    intro i hij n hn
    obtain ⟨n, rfl⟩ : ∃ m, n = m + 1 := ⟨n - 1, by omega⟩
    have hlt : i < a.length := by omega
    have hlt' : i < b.length := by omega
    have hw : IntKind.i64.wrap ((i : Int) + 1) = ((i + 1 : Nat) : Int) := by rw [wrap64 (by omega) (by omega)]; omega
    rw [G77_4_eq]
    simp only [ofNat_len, Int.toNat_natCast, getD_of hlt, getD_of hlt', hw]
    rw [sel_pos (by omega), sel_pos (by omega), sel_pos (by omega), sel_pos (by omega), sel_pos (by omega), sameHo, List.drop_eq_getElem_cons hlt, List.drop_eq_getElem_cons hlt', ih (i + 1) (by omega) n (by omega)]
    by_cases c : a[i] = b[i]
    · rw [decide_eq_true c, Bool.not_true, sel_false]
      have e : decide (a[i] :: a.drop (i + 1) = b[i] :: b.drop (i + 1)) = decide (a.drop (i + 1) = b.drop (i + 1)) := decide_eq_decide.2 ⟨fun h => (List.cons.inj h).2, fun h => by rw [c, h]⟩
      rw [e]
    · rw [decide_eq_false c, Bool.not_false, sel_true, decide_eq_false (fun h => c (List.cons.inj h).1)]; rfl
theorem G77_is (k : Nat) (a b : List Hold) (hl : a.length ≤ 1000000) (hk : a.length < k) : G77 k ((a, ()), (b, ()), ()) = some (decide (a = b), ()) := by
  rw [G77_eq]
  simp only [ofNat_len]
  by_cases h2 : a.length = b.length
  case neg => rw [sel_not, sel_neg (by omega), decide_eq_false (fun e => h2 (by rw [e]))]
  have := sameH_loop k a b h2 hl a.length 0 (by omega) k hk
  simp only [List.drop_zero, Int.natCast_zero] at this
  rw [sel_not, sel_pos (by omega), this, ocall_some]
  cases decide (a = b) <;> rfl
theorem do_in {l : List Hold} {d : Deal} {ap : Bool} {x : Hold} (hx : x ∈ (doL l d ap).1) : x ∈ l ∨ (∃ h, h ∈ l ∧ x.1 = h.1 ∧ x.2.1 = h.2.1) ∨ (x.1 = keyD d ∧ x.2.1 = d.2.2.1) := by
  have wi : ∀ {h : Hold}, x ∈ (withL l h).1 → x ∈ l ∨ x = h := fun h => with_mem h
  have bk : ∀ {h : Hold}, x ∈ (backL l h).1 → x ∈ l ∨ x = h := fun {h} e => by
    unfold backL at e
    split at e
    · exact wi e
    · exact .inl e
  unfold doL at hx
  split at hx
  · split at hx
    · unfold askL at hx
      split at hx
      · split at hx
        · split at hx <;> exact .inl hx
        · exact .inl hx
      · split at hx <;> split at hx
        · rcases wi hx with e | e
          · exact .inl e
          · rw [e]; exact .inr (.inr ⟨rfl, rfl⟩)
        · exact .inl hx
        · rcases wi hx with e | e
          · exact .inl e
          · rw [e]; exact .inr (.inr ⟨rfl, rfl⟩)
        · exact .inl hx
    · split at hx
      · unfold advL at hx
        split at hx
        · rename_i h hf
          rcases bk hx with e | e
          · exact .inl e
          · rw [e]; exact .inr (.inl ⟨h, (find_mem hf).1, rfl, rfl⟩)
        · rcases bk hx with e | e
          · exact .inl e
          · rw [e]; exact .inr (.inr ⟨rfl, rfl⟩)
      · exact .inl hx
  · exact .inl hx
theorem do_lens {l : List Hold} {d : Deal} (ap : Bool) (hl : lensHs l) (hd : lens 300 d) : lensHs (doL l d ap).1 := fun x hx => by
  rcases do_in hx with h | ⟨h, hm, e, _⟩ | ⟨e, _⟩
  · exact hl x h
  · rw [e]; exact hl h hm
  · rw [e]; exact hd.2.1
theorem do_good {l : List Hold} {d : Deal} (ap : Bool) (hl : goodHs l) (hd : goodD d) : goodHs (doL l d ap).1 := fun x hx => by
  rcases do_in hx with h | ⟨h, hm, e, e2⟩ | ⟨e, e2⟩
  · exact hl x h
  · unfold goodHo; rw [e, e2]; exact hl h hm
  · unfold goodHo; rw [e, e2]; exact ⟨hd.2, hd.1⟩
theorem back_len (l : List Hold) (h : Hold) : (backL l h).1.length ≤ l.length + 1 := by
  unfold backL
  split
  · exact with_len l h
  · exact Nat.le_succ _
theorem do_len (l : List Hold) (d : Deal) (ap : Bool) : (doL l d ap).1.length ≤ l.length + 1 := by
  unfold doL
  split
  · split
    · unfold askL
      split
      · split
        · split <;> exact Nat.le_succ _
        · exact Nat.le_succ _
      · split <;> split
        · exact with_len _ _
        · exact Nat.le_succ _
        · exact with_len _ _
        · exact Nat.le_succ _
    · split
      · unfold advL
        split
        · exact back_len _ _
        · exact back_len _ _
      · exact Nat.le_succ _
  · exact Nat.le_succ _
end Go.Proofs.YtjgnpmdbkgeakaaDoor.G
end
section
set_option linter.unusedVariables false
set_option linter.unusedSimpArgs false
set_option maxRecDepth 100000
namespace Go.Proofs.YtjgnpmdbkgeakaaDoor.PureLedgerTwice
open Go Go.Proofs.YtjgnpmdbkgeakaaDoor Th G
theorem shortDL (k : Nat) (d : Deal) : G24 k (d, ()) = some (decide (lens 300 d), ()) := by
  obtain ⟨kind, pan, amt, stan, rrn, code, ⟨⟩⟩ := d
  rw [G24_eq]
  simp only [ofNat_len]
  by_cases h : lens 300 (kind, pan, amt, stan, rrn, code, ())
  · have h1 : pan.length ≤ 300 := h.1
    have h2 : rrn.length ≤ 300 := h.2.1
    have h3 : code.length ≤ 300 := h.2.2
    rw [sel_pos (by omega), sel_pos (by omega), decide_eq_true h, decide_eq_true (show (code.length : Int) ≤ 300 by omega)]
  · rw [decide_eq_false h]
    by_cases h1 : pan.length ≤ 300
    · rw [sel_pos (by omega)]
      by_cases h2 : rrn.length ≤ 300
      · have h3 : ¬ code.length ≤ 300 := fun e => h ⟨h1, h2, e⟩
        rw [sel_pos (by omega), decide_eq_false (show ¬ (code.length : Int) ≤ 300 by omega)]
      · rw [sel_neg (by omega)]
    · rw [sel_neg (by omega)]
theorem main (l : List Hold) (d : Deal) (a b : Bool) (hg : goodHs l) (gd : goodD d) : G16 5000 ((l, ()), d, a, b, ()) = some (true, ()) := by
  have hS := shortDL 5000 d
  have h1 := fun hl hn hd => G72_is 5000 (by omega) l hl hg hn d hd gd a
  have h2 := fun hl hn hd => G72_is 5000 (by omega) (doL l d a).1 (do_lens a hl hd) (do_good a hg gd) hn d hd gd b
  have hl2 := do_len l d a
  have tw := doL_twice l d a b
  have sD := sameD (doL l d a).2.1 (doL l d a).2.1
  rw [decide_eq_true rfl] at sD
  obtain ⟨s, hs, hs2⟩ := G69_is 5000 (by omega) l
  obtain ⟨d1, d2, d3, d4, d5, d6, ⟨⟩⟩ := d
  rw [G16_eq, G68_is 5000 (by omega), ocall_some]
  simp only [Bool.not_true, sel_false]
  rw [hs, ocall_some]
  cases s with
  | false => rfl
  | true =>
  obtain ⟨hn, hl⟩ := hs2 rfl
  simp only [Bool.not_true, sel_false]
  rw [hS, ocall_some]
  by_cases hd : lens 300 (d1, d2, d3, d4, d5, d6, ())
  case neg => rw [decide_eq_false hd]; rfl
  rw [decide_eq_true hd]
  simp only [Bool.not_true, sel_false]
  rw [h1 hl (by omega) hd, ocall_some]
  (try simp only [])
  rw [h2 hl (by omega) hd, ocall_some, tw]
  simp only [decide_true, sel_true]
  rw [sD, sel_true, G77_is 5000 _ _ (by omega) (by omega), decide_eq_true rfl, ocall_some]
theorem pure (x0 : Ty.den (.st (.cons (.slice (.st (.cons (.st (.cons (.int .u32) (.cons .str .nil))) (.cons (.int .u64) (.cons (.int .i64) .nil))))) .nil))) (x1 : Ty.den (.st (.cons (.int .i64) (.cons .str (.cons (.int .u64) (.cons (.int .u32) (.cons .str (.cons .str .nil)))))))) (x2 : Ty.den .bool) (x3 : Ty.den .bool) (g0 : Ty.Good (.st (.cons (.slice (.st (.cons (.st (.cons (.int .u32) (.cons .str .nil))) (.cons (.int .u64) (.cons (.int .i64) .nil))))) .nil)) x0) (g1 : Ty.Good (.st (.cons (.int .i64) (.cons .str (.cons (.int .u64) (.cons (.int .u32) (.cons .str (.cons .str .nil))))))) x1) (g2 : Ty.Good .bool x2) (g3 : Ty.Good .bool x3) : ∃ k, F16 k (x0, (x1, (x2, (x3, PUnit.unit)))) = some (true, PUnit.unit) :=
  ⟨5000, main x0.1 x1 x2 x3 (fun h hh => have g := g0.1.2.2 h hh; ⟨good_u32 g.1.1, good_u64 g.2.1⟩) ⟨good_u64 g1.2.2.1, good_u32 g1.2.2.2.1⟩⟩
end Go.Proofs.YtjgnpmdbkgeakaaDoor.PureLedgerTwice
end
section
set_option linter.unusedVariables false
set_option linter.unusedSimpArgs false
namespace Go.Proofs.YtjgnpmdbkgeakaaDoor
open Go Go.ChangeShapes Go.WideShapes Go.ChangeAt Go.RowKit Th
theorem own : ownKnob Tryd.prog.godebug = none := by kernel_rfl
theorem laidOut : laidOutB Tryd.prog = true := by kernel_rfl
theorem gTypes : Tryd.prog.globalNamed "paydesk/deal.types" = some 0 := by kernel_rfl
theorem tTypes : (Tryd.prog.globals[0]?).map (·.type) = some 229 := by kernel_rfl
theorem mapsRowed' : mapsRowed Tryd.prog = true := by kernel_rfl
theorem stopsHeard' : Tryd.prog.stopsHeard = true := by kernel_rfl
theorem stops' : Tryd.prog.stops = [] := by kernel_rfl
theorem stopKnobs' : Tryd.prog.stopKnobs = [] := by kernel_rfl
theorem plainKeys' : Tryd.prog.plainKeys = Rows.keyRightRow.plainKeys := by kernel_rfl
def ioL : List Char := [Char.ofNat 104, Char.ofNat 97, Char.ofNat 114, Char.ofNat 110, Char.ofNat 101, Char.ofNat 115, Char.ofNat 115, Char.ofNat 32, Char.ofNat 52, Char.ofNat 98, Char.ofNat 55, Char.ofNat 54, Char.ofNat 48, Char.ofNat 97, Char.ofNat 99, Char.ofNat 102, Char.ofNat 49, Char.ofNat 97, Char.ofNat 100, Char.ofNat 99, Char.ofNat 54, Char.ofNat 100, Char.ofNat 51, Char.ofNat 54, Char.ofNat 49, Char.ofNat 50, Char.ofNat 51, Char.ofNat 50, Char.ofNat 57, Char.ofNat 97, Char.ofNat 98, Char.ofNat 51, Char.ofNat 99, Char.ofNat 50, Char.ofNat 48, Char.ofNat 101, Char.ofNat 99, Char.ofNat 48, Char.ofNat 49, Char.ofNat 52, Char.ofNat 53, Char.ofNat 53, Char.ofNat 56, Char.ofNat 101, Char.ofNat 50, Char.ofNat 54, Char.ofNat 55, Char.ofNat 99, Char.ofNat 52, Char.ofNat 57, Char.ofNat 52, Char.ofNat 101, Char.ofNat 54, Char.ofNat 53, Char.ofNat 52, Char.ofNat 48, Char.ofNat 49, Char.ofNat 57, Char.ofNat 99, Char.ofNat 97, Char.ofNat 98, Char.ofNat 49, Char.ofNat 57, Char.ofNat 50, Char.ofNat 49, Char.ofNat 49, Char.ofNat 98, Char.ofNat 102, Char.ofNat 49, Char.ofNat 57, Char.ofNat 54, Char.ofNat 49, Char.ofNat 32, Char.ofNat 99, Char.ofNat 117, Char.ofNat 116, Char.ofNat 32, Char.ofNat 97, Char.ofNat 116, Char.ofNat 32, Char.ofNat 112, Char.ofNat 97, Char.ofNat 121, Char.ofNat 100, Char.ofNat 101, Char.ofNat 115, Char.ofNat 107, Char.ofNat 47, Char.ofNat 112, Char.ofNat 97, Char.ofNat 121, Char.ofNat 100, Char.ofNat 101, Char.ofNat 115, Char.ofNat 107, Char.ofNat 108, Char.ofNat 97, Char.ofNat 119, Char.ofNat 48, Char.ofNat 55, Char.ofNat 46, Char.ofNat 75, Char.ofNat 101, Char.ofNat 121, Char.ofNat 82, Char.ofNat 105, Char.ofNat 103, Char.ofNat 104, Char.ofNat 116, Char.ofNat 32, Char.ofNat 112, Char.ofNat 97, Char.ofNat 121, Char.ofNat 100, Char.ofNat 101, Char.ofNat 115, Char.ofNat 107, Char.ofNat 47, Char.ofNat 112, Char.ofNat 97, Char.ofNat 121, Char.ofNat 100, Char.ofNat 101, Char.ofNat 115, Char.ofNat 107, Char.ofNat 108, Char.ofNat 97, Char.ofNat 119, Char.ofNat 48, Char.ofNat 55, Char.ofNat 46, Char.ofNat 75, Char.ofNat 101, Char.ofNat 121, Char.ofNat 79, Char.ofNat 114, Char.ofNat 100, Char.ofNat 101, Char.ofNat 114, Char.ofNat 32, Char.ofNat 112, Char.ofNat 97, Char.ofNat 121, Char.ofNat 100, Char.ofNat 101, Char.ofNat 115, Char.ofNat 107, Char.ofNat 47, Char.ofNat 112, Char.ofNat 97, Char.ofNat 121, Char.ofNat 100, Char.ofNat 101, Char.ofNat 115, Char.ofNat 107, Char.ofNat 108, Char.ofNat 97, Char.ofNat 119, Char.ofNat 48, Char.ofNat 55, Char.ofNat 46, Char.ofNat 75, Char.ofNat 101, Char.ofNat 121, Char.ofNat 83, Char.ofNat 104, Char.ofNat 97, Char.ofNat 114, Char.ofNat 100, Char.ofNat 115, Char.ofNat 32, Char.ofNat 112, Char.ofNat 97, Char.ofNat 121, Char.ofNat 100, Char.ofNat 101, Char.ofNat 115, Char.ofNat 107, Char.ofNat 47, Char.ofNat 112, Char.ofNat 97, Char.ofNat 121, Char.ofNat 100, Char.ofNat 101, Char.ofNat 115, Char.ofNat 107, Char.ofNat 108, Char.ofNat 97, Char.ofNat 119, Char.ofNat 48, Char.ofNat 54, Char.ofNat 46, Char.ofNat 68, Char.ofNat 101, Char.ofNat 97, Char.ofNat 108, Char.ofNat 82, Char.ofNat 105, Char.ofNat 103, Char.ofNat 104, Char.ofNat 116, Char.ofNat 32, Char.ofNat 112, Char.ofNat 97, Char.ofNat 121, Char.ofNat 100, Char.ofNat 101, Char.ofNat 115, Char.ofNat 107, Char.ofNat 47, Char.ofNat 112, Char.ofNat 97, Char.ofNat 121, Char.ofNat 100, Char.ofNat 101, Char.ofNat 115, Char.ofNat 107, Char.ofNat 108, Char.ofNat 97, Char.ofNat 119, Char.ofNat 48, Char.ofNat 54, Char.ofNat 46, Char.ofNat 68, Char.ofNat 101, Char.ofNat 97, Char.ofNat 108, Char.ofNat 66, Char.ofNat 97, Char.ofNat 99, Char.ofNat 107, Char.ofNat 32, Char.ofNat 112, Char.ofNat 97, Char.ofNat 121, Char.ofNat 100, Char.ofNat 101, Char.ofNat 115, Char.ofNat 107, Char.ofNat 47, Char.ofNat 112, Char.ofNat 97, Char.ofNat 121, Char.ofNat 100, Char.ofNat 101, Char.ofNat 115, Char.ofNat 107, Char.ofNat 108, Char.ofNat 97, Char.ofNat 119, Char.ofNat 49, Char.ofNat 50, Char.ofNat 46, Char.ofNat 67, Char.ofNat 111, Char.ofNat 114, Char.ofNat 101, Char.ofNat 82, Char.ofNat 105, Char.ofNat 103, Char.ofNat 104, Char.ofNat 116, Char.ofNat 32, Char.ofNat 112, Char.ofNat 97, Char.ofNat 121, Char.ofNat 100, Char.ofNat 101, Char.ofNat 115, Char.ofNat 107, Char.ofNat 47, Char.ofNat 112, Char.ofNat 97, Char.ofNat 121, Char.ofNat 100, Char.ofNat 101, Char.ofNat 115, Char.ofNat 107, Char.ofNat 108, Char.ofNat 97, Char.ofNat 119, Char.ofNat 49, Char.ofNat 50, Char.ofNat 46, Char.ofNat 67, Char.ofNat 111, Char.ofNat 114, Char.ofNat 101, Char.ofNat 83, Char.ofNat 116, Char.ofNat 101, Char.ofNat 112, Char.ofNat 115, Char.ofNat 32, Char.ofNat 112, Char.ofNat 97, Char.ofNat 121, Char.ofNat 100, Char.ofNat 101, Char.ofNat 115, Char.ofNat 107, Char.ofNat 47, Char.ofNat 112, Char.ofNat 97, Char.ofNat 121, Char.ofNat 100, Char.ofNat 101, Char.ofNat 115, Char.ofNat 107, Char.ofNat 108, Char.ofNat 97, Char.ofNat 119, Char.ofNat 49, Char.ofNat 50, Char.ofNat 46, Char.ofNat 67, Char.ofNat 111, Char.ofNat 114, Char.ofNat 101, Char.ofNat 79, Char.ofNat 110, Char.ofNat 99, Char.ofNat 101, Char.ofNat 32, Char.ofNat 112, Char.ofNat 97, Char.ofNat 121, Char.ofNat 100, Char.ofNat 101, Char.ofNat 115, Char.ofNat 107, Char.ofNat 47, Char.ofNat 112, Char.ofNat 97, Char.ofNat 121, Char.ofNat 100, Char.ofNat 101, Char.ofNat 115, Char.ofNat 107, Char.ofNat 108, Char.ofNat 97, Char.ofNat 119, Char.ofNat 49, Char.ofNat 50, Char.ofNat 46, Char.ofNat 67, Char.ofNat 111, Char.ofNat 114, Char.ofNat 101, Char.ofNat 82, Char.ofNat 101, Char.ofNat 115, Char.ofNat 116, Char.ofNat 115, Char.ofNat 32, Char.ofNat 112, Char.ofNat 97, Char.ofNat 121, Char.ofNat 100, Char.ofNat 101, Char.ofNat 115, Char.ofNat 107, Char.ofNat 47, Char.ofNat 112, Char.ofNat 97, Char.ofNat 121, Char.ofNat 100, Char.ofNat 101, Char.ofNat 115, Char.ofNat 107, Char.ofNat 108, Char.ofNat 97, Char.ofNat 119, Char.ofNat 49, Char.ofNat 48, Char.ofNat 46, Char.ofNat 83, Char.ofNat 104, Char.ofNat 97, Char.ofNat 114, Char.ofNat 100, Char.ofNat 82, Char.ofNat 105, Char.ofNat 103, Char.ofNat 104, Char.ofNat 116, Char.ofNat 32, Char.ofNat 112, Char.ofNat 97, Char.ofNat 121, Char.ofNat 100, Char.ofNat 101, Char.ofNat 115, Char.ofNat 107, Char.ofNat 47, Char.ofNat 112, Char.ofNat 97, Char.ofNat 121, Char.ofNat 100, Char.ofNat 101, Char.ofNat 115, Char.ofNat 107, Char.ofNat 108, Char.ofNat 97, Char.ofNat 119, Char.ofNat 49, Char.ofNat 48, Char.ofNat 46, Char.ofNat 83, Char.ofNat 104, Char.ofNat 97, Char.ofNat 114, Char.ofNat 100, Char.ofNat 83, Char.ofNat 119, Char.ofNat 97, Char.ofNat 112, Char.ofNat 115, Char.ofNat 32, Char.ofNat 112, Char.ofNat 97, Char.ofNat 121, Char.ofNat 100, Char.ofNat 101, Char.ofNat 115, Char.ofNat 107, Char.ofNat 47, Char.ofNat 112, Char.ofNat 97, Char.ofNat 121, Char.ofNat 100, Char.ofNat 101, Char.ofNat 115, Char.ofNat 107, Char.ofNat 108, Char.ofNat 97, Char.ofNat 119, Char.ofNat 49, Char.ofNat 53, Char.ofNat 46, Char.ofNat 76, Char.ofNat 101, Char.ofNat 100, Char.ofNat 103, Char.ofNat 101, Char.ofNat 114, Char.ofNat 82, Char.ofNat 105, Char.ofNat 103, Char.ofNat 104, Char.ofNat 116, Char.ofNat 32, Char.ofNat 112, Char.ofNat 97, Char.ofNat 121, Char.ofNat 100, Char.ofNat 101, Char.ofNat 115, Char.ofNat 107, Char.ofNat 47, Char.ofNat 112, Char.ofNat 97, Char.ofNat 121, Char.ofNat 100, Char.ofNat 101, Char.ofNat 115, Char.ofNat 107, Char.ofNat 108, Char.ofNat 97, Char.ofNat 119, Char.ofNat 49, Char.ofNat 53, Char.ofNat 46, Char.ofNat 76, Char.ofNat 101, Char.ofNat 100, Char.ofNat 103, Char.ofNat 101, Char.ofNat 114, Char.ofNat 79, Char.ofNat 110, Char.ofNat 99, Char.ofNat 101, Char.ofNat 32, Char.ofNat 112, Char.ofNat 97, Char.ofNat 121, Char.ofNat 100, Char.ofNat 101, Char.ofNat 115, Char.ofNat 107, Char.ofNat 47, Char.ofNat 112, Char.ofNat 97, Char.ofNat 121, Char.ofNat 100, Char.ofNat 101, Char.ofNat 115, Char.ofNat 107, Char.ofNat 108, Char.ofNat 97, Char.ofNat 119, Char.ofNat 49, Char.ofNat 53, Char.ofNat 46, Char.ofNat 76, Char.ofNat 101, Char.ofNat 100, Char.ofNat 103, Char.ofNat 101, Char.ofNat 114, Char.ofNat 84, Char.ofNat 119, Char.ofNat 105, Char.ofNat 99, Char.ofNat 101, Char.ofNat 32, Char.ofNat 112, Char.ofNat 97, Char.ofNat 121, Char.ofNat 100, Char.ofNat 101, Char.ofNat 115, Char.ofNat 107, Char.ofNat 47, Char.ofNat 112, Char.ofNat 97, Char.ofNat 121, Char.ofNat 100, Char.ofNat 101, Char.ofNat 115, Char.ofNat 107, Char.ofNat 108, Char.ofNat 97, Char.ofNat 119, Char.ofNat 48, Char.ofNat 54, Char.ofNat 46, Char.ofNat 68, Char.ofNat 101, Char.ofNat 97, Char.ofNat 108, Char.ofNat 66, Char.ofNat 121, Char.ofNat 116, Char.ofNat 101, Char.ofNat 115, Char.ofNat 32, Char.ofNat 112, Char.ofNat 97, Char.ofNat 121, Char.ofNat 100, Char.ofNat 101, Char.ofNat 115, Char.ofNat 107, Char.ofNat 47, Char.ofNat 112, Char.ofNat 97, Char.ofNat 121, Char.ofNat 100, Char.ofNat 101, Char.ofNat 115, Char.ofNat 107, Char.ofNat 108, Char.ofNat 97, Char.ofNat 119, Char.ofNat 49, Char.ofNat 52, Char.ofNat 46, Char.ofNat 76, Char.ofNat 105, Char.ofNat 110, Char.ofNat 101, Char.ofNat 82, Char.ofNat 105, Char.ofNat 103, Char.ofNat 104, Char.ofNat 116, Char.ofNat 32, Char.ofNat 112, Char.ofNat 97, Char.ofNat 121, Char.ofNat 100, Char.ofNat 101, Char.ofNat 115, Char.ofNat 107, Char.ofNat 47, Char.ofNat 112, Char.ofNat 97, Char.ofNat 121, Char.ofNat 100, Char.ofNat 101, Char.ofNat 115, Char.ofNat 107, Char.ofNat 108, Char.ofNat 97, Char.ofNat 119, Char.ofNat 49, Char.ofNat 52, Char.ofNat 46, Char.ofNat 76, Char.ofNat 105, Char.ofNat 110, Char.ofNat 101, Char.ofNat 80, Char.ofNat 97, Char.ofNat 114, Char.ofNat 116, Char.ofNat 115, Char.ofNat 32, Char.ofNat 112, Char.ofNat 97, Char.ofNat 121, Char.ofNat 100, Char.ofNat 101, Char.ofNat 115, Char.ofNat 107, Char.ofNat 47, Char.ofNat 112, Char.ofNat 97, Char.ofNat 121, Char.ofNat 100, Char.ofNat 101, Char.ofNat 115, Char.ofNat 107, Char.ofNat 108, Char.ofNat 97, Char.ofNat 119, Char.ofNat 49, Char.ofNat 52, Char.ofNat 46, Char.ofNat 76, Char.ofNat 105, Char.ofNat 110, Char.ofNat 101, Char.ofNat 69, Char.ofNat 118, Char.ofNat 101, Char.ofNat 110, Char.ofNat 116, Char.ofNat 115, Char.ofNat 32, Char.ofNat 112, Char.ofNat 97, Char.ofNat 121, Char.ofNat 100, Char.ofNat 101, Char.ofNat 115, Char.ofNat 107, Char.ofNat 47, Char.ofNat 112, Char.ofNat 97, Char.ofNat 121, Char.ofNat 100, Char.ofNat 101, Char.ofNat 115, Char.ofNat 107, Char.ofNat 108, Char.ofNat 97, Char.ofNat 119, Char.ofNat 49, Char.ofNat 55, Char.ofNat 46, Char.ofNat 80, Char.ofNat 111, Char.ofNat 115, Char.ofNat 116, Char.ofNat 66, Char.ofNat 97, Char.ofNat 99, Char.ofNat 107, Char.ofNat 32, Char.ofNat 112, Char.ofNat 97, Char.ofNat 121, Char.ofNat 100, Char.ofNat 101, Char.ofNat 115, Char.ofNat 107, Char.ofNat 47, Char.ofNat 112, Char.ofNat 97, Char.ofNat 121, Char.ofNat 100, Char.ofNat 101, Char.ofNat 115, Char.ofNat 107, Char.ofNat 108, Char.ofNat 97, Char.ofNat 119, Char.ofNat 50, Char.ofNat 49, Char.ofNat 46, Char.ofNat 84, Char.ofNat 114, Char.ofNat 97, Char.ofNat 99, Char.ofNat 101, Char.ofNat 79, Char.ofNat 116, Char.ofNat 104, Char.ofNat 101, Char.ofNat 114, Char.ofNat 115]
theorem io0 : Tryd.prog.initOrder = String.ofList ioL := by kernel_rfl
theorem io : Tryd.prog.initOrder.toList = ioL := by rw [io0, String.toList_ofList]
def ioW : List (List Char) := wordsSigns ioL
theorem ws : wordsSigns Tryd.prog.initOrder.toList = ioW := by rw [io]; rfl
def mainOf (l : List (List Char)) : Option (Bool × List Char) := match l with
  | h :: s :: _ => if !isSumSigns s then none else if h == "harness".toList then some (true, s) else if h == "ownmain".toList then some (false, s) else none
  | _ => none
theorem mainIs_of {P : Program} {W : List (List Char)} (h : wordsSigns P.initOrder.toList = W) : P.mainIs = mainOf W := by
  unfold Program.mainIs; rw [h]; rfl
theorem sha : (ioL.drop 8).take 64 = "4b760acf1adc6d3612329ab3c20ec014558e267c494e654019cab19211bf1961".toList := by
  have : "4b760acf1adc6d3612329ab3c20ec014558e267c494e654019cab19211bf1961" = String.ofList ((ioL.drop 8).take 64) := by kernel_rfl
  rw [this, String.toList_ofList]
theorem main0 : mainOf ioW = some (true, (ioL.drop 8).take 64) := by kernel_rfl
theorem mainIs' : Tryd.prog.mainIs = some (true, "4b760acf1adc6d3612329ab3c20ec014558e267c494e654019cab19211bf1961".toList) := by
  rw [← sha, ← main0]; exact mainIs_of ws
def mayOf (l : List (List Char)) (laysLater bearsReflect : Bool) (fits : List String → Bool) : Bool := match behindMainWord l with
  | c :: rest =>
    ((c == "gc".toList || c == "spec".toList) && (rest.isEmpty || rest.head? == some "stop".toList)) ||
    (c == "carried".toList && rest.take 2 == ["gc".toList, "cut".toList] && !laysLater && !bearsReflect) ||
    ((stripLifts liftWords (c :: rest)).2.head? == some "cut".toList &&
      ((stripLifts liftWords (c :: rest)).1.contains "finals" || !laysLater) && ((stripLifts liftWords (c :: rest)).1.contains "reflectrows" || !bearsReflect) &&
      ((stripLifts liftWords (c :: rest)).1.contains "reflectrows" || !(stripLifts liftWords (c :: rest)).1.contains "leanrows") &&
      fits (stripLifts liftWords (c :: rest)).1)
  | [] => false
theorem may_of {P : Program} {W : List (List Char)} (h : wordsSigns P.initOrder.toList = W) : P.mayEnter = mayOf W P.laysLater P.bearsReflect P.doorFits := by
  unfold Program.mayEnter; rw [h]; rfl
theorem lays : Tryd.prog.laysLater = false := by kernel_rfl
theorem bears : Tryd.prog.bearsReflect = false := by kernel_rfl
theorem strip0 : mayOf ioW false false (fun l => decide (l = [])) = true := by kernel_rfl
theorem fits0 : Tryd.prog.doorFits [] = true := by kernel_rfl
theorem may_mono {W : List (List Char)} {a b : Bool} {f g : List String → Bool} (hfg : ∀ l, f l = true → g l = true) (h : mayOf W a b f = true) : mayOf W a b g = true := by
  unfold mayOf at h ⊢
  split at h
  · simp only [Bool.or_eq_true, Bool.and_eq_true] at h ⊢
    rcases h with (h | h) | h
    · exact .inl (.inl h)
    · exact .inl (.inr h)
    · exact .inr ⟨h.1, hfg _ h.2⟩
  · exact h
theorem mayEnter' : Tryd.prog.mayEnter = true := by
  rw [may_of ws, lays, bears]
  exact may_mono (fun l h => by rw [decide_eq_true_eq] at h; rw [h]; exact fits0) strip0
def liftsOf (l : List (List Char)) : List String :=
  let r := stripLifts liftWords (behindMainWord l)
  if r.2.head? == some "cut".toList then r.1 else []
theorem headLifts_of {P : Program} {W : List (List Char)} (h : wordsSigns P.initOrder.toList = W) : P.headLifts = liftsOf W := by
  unfold Program.headLifts; rw [h]; rfl
theorem headLifts' : Tryd.prog.headLifts = [] := (headLifts_of ws).trans (by kernel_rfl)
def finalOf (l : List (List Char)) (hl : List String) : Bool :=
  let ws := behindMainWord l
  (ws.head? == some "carried".toList && ws.take 3 != ["carried".toList, "gc".toList, "cut".toList]) || hl.contains "finals"
theorem liftsFinal_of {P : Program} {W : List (List Char)} (h : wordsSigns P.initOrder.toList = W) : P.liftsFinal = finalOf W P.headLifts := by
  unfold Program.liftsFinal; rw [h]; rfl
theorem liftsFinal' : Tryd.prog.liftsFinal = Rows.keyRightRow.lifted := by rw [liftsFinal_of ws, headLifts']; kernel_rfl
def makeOf (l : List (List Char)) (hl : List String) : Option Make :=
  match behindMainWord l with
  | c :: rest => if c == "gc".toList || c == "spec".toList then some .whole else if c == "cut".toList || (c == "finals".toList && rest.head? == some "cut".toList) then some .cut else if c == "carried".toList then some .carried else if hl.isEmpty then none else some (.lifted hl)
  | [] => none
theorem make_of {P : Program} {W : List (List Char)} (h : wordsSigns P.initOrder.toList = W) : P.make = makeOf W P.headLifts := by
  unfold Program.make; rw [h]; rfl
theorem make' : Tryd.prog.make = some Rows.keyRightRow.make := by rw [make_of ws, headLifts']; kernel_rfl
abbrev laidL : List (String × DataW Unit) := [("paydesk/deal.types", Rows.laid_paydesk_deal_types)]
theorem door_met (os : Os) (args : Array Value) : laidMetH Tryd.prog laidL ((World.doorLaid Tryd.prog 400 os).forCall (fun _ _ => 0) ⟨#[], args, []⟩).memory :=
  laidMetH_of_parts3 (fuel := 8) (laidMet_of_run' 8 (by kernel_rfl) (by kernel_rfl)) (by kernel_rfl) (by kernel_rfl)
theorem glob_of_laid {W : World} (h : laidMetH Tryd.prog laidL W) : GlobOK W (Old W) := by
  rw [MakeChecks.laidMetH_plain _ _ _ (by kernel_rfl)] at h
  obtain ⟨ps, ⟨g0, t0, cs0, f0, p0, q0, hg0, ht0, hv0, hd0, _, _⟩, _, _⟩ := h
  obtain rfl := Option.some.inj (gTypes.symm.trans hg0)
  obtain rfl := Option.some.inj (tTypes.symm.trans ht0)
  obtain ⟨xs, m1, rfl, hx1, hlen, hn8, hel⟩ := DataW.trod_array Tryd.underlying229 hd0
  have c9 : Tryd.prog.cellsOf 9 = 1 := by kernel_rfl
  have cA : Tryd.prog.cellsOf 229 = 8 := by kernel_rfl
  simp only [Prod.mk.injEq] at hx1
  have hx1 : (DataW.agg [.lit (.string []), .lit (.string [48, 49, 48, 48]), .lit (.string [48, 49, 49, 48]), .lit (.string [48, 52, 48, 48]), .lit (.string [48, 52, 49, 48]), .lit (.string [48, 52, 50, 48]), .lit (.string [48, 52, 50, 49]), .lit (.string [48, 52, 51, 48])] : DataW Unit) = .agg (xs.map (·.1)) := hx1.1
  simp only [DataW.agg.injEq] at hx1
  have key : ∀ (j : Nat) (s : List UInt8), ([[], [48, 49, 48, 48], [48, 49, 49, 48], [48, 52, 48, 48], [48, 52, 49, 48], [48, 52, 50, 48], [48, 52, 50, 49], [48, 52, 51, 48]] : List (List UInt8))[j]? = some s → W.cell? ⟨0, j, none⟩ = some (strV s) := by
    intro j s hs
    have hj : j < 8 := by have := (List.getElem?_eq_some_iff.1 hs).1; simpa using this
    have he := hel j hj
    rw [c9, Nat.mul_one] at he
    have hxj : xs[j]? = some xs[j] := by simp [show j < xs.length by omega]
    rw [hxj] at he
    obtain ⟨b, e1, e2, _⟩ := DataW.trod_string Tryd.underlying9 he
    have hlit : xs[j].1 = .lit (.string s) := by
      have e3 : (xs.map (·.1))[j]? = some xs[j].1 := by rw [List.getElem?_map, hxj]; rfl
      rw [← hx1] at e3
      have h8 : j = 0 ∨ j = 1 ∨ j = 2 ∨ j = 3 ∨ j = 4 ∨ j = 5 ∨ j = 6 ∨ j = 7 := by omega
      rcases h8 with rfl | rfl | rfl | rfl | rfl | rfl | rfl | rfl <;> (simp only [List.getElem?_cons_zero, List.getElem?_cons_succ, Option.some.injEq] at e3 hs; subst hs; exact e3.symm)
    rw [e2] at hlit
    have hb : b.data.toList = s := by simpa using hlit
    have hc : cs0[j]? = some (.string b) := by
      have : (cs0.toList.drop j).take 1 = [.string b] := e1
      have h1 : ((cs0.toList.drop j).take 1)[0]? = some (.string b) := by rw [this]; rfl
      rw [List.getElem?_take_of_lt (by omega), List.getElem?_drop, Nat.add_zero, Array.getElem?_toList] at h1
      exact h1
    rw [World.var?_cell gTypes hv0 j, hc]
    unfold strV
    rw [← hb]
  have h0 : 0 < W.heap.size := by
    have := key 0 [] rfl
    unfold World.cell? at this
    split at this
    · rename_i hb; exact (Array.getElem?_eq_some_iff.1 hb).1
    · cases this
  intro n r hr
  have hn : n = 0 := by
    unfold gtab at hr
    cases hb : Nat.beq n 0 with
    | false => rw [hb] at hr; cases hr
    | true => exact Nat.eq_of_beq_eq_true hb
  subst hn
  have hr : r = ⟨9, .str, [[], [48, 49, 48, 48], [48, 49, 49, 48], [48, 52, 48, 48], [48, 52, 49, 48], [48, 52, 50, 48], [48, 52, 50, 49], [48, 52, 51, 48]]⟩ := (Option.some.inj hr).symm
  subst hr
  refine ⟨_, rfl, fun j x hx => ⟨[strV x], rfl, fun i u hu => ?_, rfl⟩⟩
  have hi : i = 0 := by have := (List.getElem?_eq_some_iff.1 hu).1; simp at this; omega
  subst hi
  have hu : u = strV x := by simpa using hu.symm
  subst hu
  have ha : (⟨0, 0, none⟩ : Addr).add (j * (Ty.size .str) + 0) = ⟨0, j, none⟩ := by
    show (⟨0, 0, none⟩ : Addr).add (j * 1 + 0) = _
    unfold Addr.add; split <;> simp_all
  rw [ha]
  exact ⟨key j x hx, h0⟩
end Go.Proofs.YtjgnpmdbkgeakaaDoor
end
section
set_option linter.unusedVariables false
set_option linter.unusedSimpArgs false
namespace Go.Proofs.YtjgnpmdbkgeakaaDoor.ledgerTwice
open Go.ChangeShapes Go.WideShapes Go.ChangeAt Go.RowKit Go.Proofs.YtjgnpmdbkgeakaaDoor Th G
open Go.ChangeMaps (open_string shut_string)
theorem own : ownKnob Tryd.prog.godebug = none := by kernel_rfl
theorem laidOut : laidOutB Tryd.prog = true := by kernel_rfl
set_option maxRecDepth 100000 in
theorem lifted (os : Os) (started : os.Started) (H : Type) (enc : TypeId × Value → H) :
    ReturnsInHanded {} Tryd.checked os 16 .any (fun w args => (Rows.ledgerTwiceSpec.pre enc Tryd.prog Tryd.f16 [] false w args ∧ laidMetH Tryd.prog laidL w) ∧ sizedMet enc Tryd.prog Tryd.f16 (OpenSpec.ofChange Rows.ledgerTwiceSpec) false w args) (Rows.ledgerTwiceSpec.post enc Tryd.prog Tryd.f16 false true false false) := by
  refine returnsInHanded_of_change_and (C := Tryd.checked) (X := fun w _ => laidMetH Tryd.prog laidL w) (fun _ _ _ hh h => h.of_heap hh) own started (by kernel_rfl) Tryd.func16
    (ChangeSpec.witness_shaped (enc := enc) (C := Tryd.checked) (os := os) (X := fun w _ => laidMetH Tryd.prog laidL w) false (World.doorLaid Tryd.prog 400 os) #[.agg #[.slice none 0 0], .agg #[.int .i64 0, .string ByteArray.empty, .int .u64 0, .int .u32 0, .string ByteArray.empty, .string ByteArray.empty], .bool false, .bool false] 8 rfl (World.shaped_of_RefB (by kernel_rfl) (by kernel_rfl)) (by kernel_rfl) (by kernel_rfl) (by kernel_rfl) (door_met os _)) ?_
  intro W base args ds gs before hval0 hW hcnd hsz0 hL _
  have hsz : (DataW.weightsEach Tryd.prog (Tryd.f16.params.toList ++ Rows.ledgerTwiceSpec.plain.varTypes Tryd.prog) (ds ++ gs)).all (· ≤ reachBytes) = true := hsz0
  have hval : ∀ (j : Nat) t v, Tryd.f16.params[j]? = some t → args[j]? = some v → Value.okWide Tryd.prog W .any base t v := hval0
  have hW' := hW
  obtain ⟨p, q, hA0, hV, rfl, hfz, hnd⟩ := hW
  have hA : DataW.TrodAll enc Tryd.prog W 0 (fun _ => true) true Tryd.f16.params.toList args.toList ds p := hA0
  rw [Tryd.params16] at hA hval hsz
  obtain ⟨v0, vs0, d0, ds0, p0, q0, hargs, rfl, rfl, h0, r0⟩ := trodAll_cons hA
  obtain ⟨v1, vs1, d1, ds1, p1, q1, rfl, rfl, rfl, h1, r1⟩ := trodAll_cons r0
  obtain ⟨v2, vs2, d2, ds2, p2, q2, rfl, rfl, rfl, h2, r2⟩ := trodAll_cons r1
  obtain ⟨v3, vs3, d3, ds3, p3, q3, rfl, rfl, rfl, h3, r3⟩ := trodAll_cons r2
  obtain ⟨rfl, rfl, rfl⟩ := trodAll_nil r3
  obtain rfl : args = #[v0, v1, v2, v3] := by cases args; simp_all
  obtain ⟨rfl, rfl⟩ := trodVars_none hV
  obtain ⟨x0, a0, g0⟩ := open_arg (T := (.st (.cons (.slice (.st (.cons (.st (.cons (.int .u32) (.cons .str .nil))) (.cons (.int .u64) (.cons (.int .i64) .nil))))) .nil))) (by kernel_rfl) (hval 0 89 v0 rfl rfl) h0 (weights_of hsz (j := 0) (t := 89) rfl rfl)
  have k0 := h0
  have lt0 : ∀ x ∈ p0, x.block < W.heap.size := by obtain ⟨m, hm⟩ := k0; exact DataW.trod_lt m _ _ _ hm
  obtain ⟨x1, a1, g1⟩ := open_arg (T := (.st (.cons (.int .i64) (.cons .str (.cons (.int .u64) (.cons (.int .u32) (.cons .str (.cons .str .nil)))))))) (by kernel_rfl) (hval 1 25 v1 rfl rfl) h1 (weights_of hsz (j := 1) (t := 25) rfl rfl)
  have k1 := h1
  have lt1 : ∀ x ∈ p1, x.block < W.heap.size := by obtain ⟨m, hm⟩ := k1; exact DataW.trod_lt m _ _ _ hm
  obtain ⟨x2, a2, g2⟩ := open_arg (T := .bool) (by kernel_rfl) (hval 2 4 v2 rfl rfl) h2 (weights_of hsz (j := 2) (t := 4) rfl rfl)
  have k2 := h2
  have lt2 : ∀ x ∈ p2, x.block < W.heap.size := by obtain ⟨m, hm⟩ := k2; exact DataW.trod_lt m _ _ _ hm
  obtain ⟨x3, a3, g3⟩ := open_arg (T := .bool) (by kernel_rfl) (hval 3 4 v3 rfl rfl) h3 (weights_of hsz (j := 3) (t := 4) rfl rfl)
  have k3 := h3
  have lt3 : ∀ x ∈ p3, x.block < W.heap.size := by obtain ⟨m, hm⟩ := k3; exact DataW.trod_lt m _ _ _ hm
  obtain ⟨k, hk⟩ := PureLedgerTwice.pure x0 x1 x2 x3 g0 g1 g2 g3
  clear hA0 hval0 hsz0 hsz
  refine (law_of (fn16 k [Ty.av (.st (.cons (.slice (.st (.cons (.st (.cons (.int .u32) (.cons .str .nil))) (.cons (.int .u64) (.cons (.int .i64) .nil))))) .nil)) x0, Ty.av (.st (.cons (.int .i64) (.cons .str (.cons (.int .u64) (.cons (.int .u32) (.cons .str (.cons .str .nil))))))) x1, Ty.av .bool x2, Ty.av .bool x3] (x0, (x1, (x2, (x3, PUnit.unit)))) (true, PUnit.unit) rfl rfl hk) (glob_of_laid hL) (us := [v0, v1, v2, v3]) ⟨a0, a1, a2, a3, trivial⟩).mono fun e W' ⟨he, bel⟩ => ?_
  subst he
  exact ⟨_, rfl, _, _, _, [], _, [], hW', trodAll_mk1 (shut_bool Tryd.underlying4 _), (trodAll_cons_mk (Below.trod laidOut (by kernel_rfl) (of_decide_eq_true (by kernel_rfl)) k0 bel lt0) (trodAll_cons_mk (Below.trod laidOut (by kernel_rfl) (of_decide_eq_true (by kernel_rfl)) k1 bel lt1) (trodAll_cons_mk (Below.trod laidOut (by kernel_rfl) (of_decide_eq_true (by kernel_rfl)) k2 bel lt2) (trodAll_cons_mk (Below.trod laidOut (by kernel_rfl) (of_decide_eq_true (by kernel_rfl)) k3 bel lt3) trodAll_mk0)))), rfl, bel.frame _, fun h => by cases h⟩
theorem inP : Tryd.prog.inPlace 16 = ["slices.overlaps[paydesk/api.Hold]"] := by kernel_rfl
theorem unf : Tryd.prog.unfollowed 16 = true := by kernel_rfl
theorem rec' : Tryd.prog.recurses 16 = true := by kernel_rfl
theorem nam : Tryd.prog.varsNamed 16 = ["paydesk/deal.types"] := by kernel_rfl
theorem lk : false = Tryd.prog.looks [] := by kernel_rfl
theorem gb : false = Rows.ledgerTwiceRow.goesBy Tryd.prog := by kernel_rfl
theorem facts : joinedFacts Tryd.prog 16 Tryd.f16 Rows.ledgerTwiceSpec Rows.ledgerTwiceRow = true := by
  unfold joinedFacts
  rw [laidOut, mapsRowed', stopsHeard', mayEnter', plainKeys', liftsFinal', make', stops', stopKnobs', inP, unf, rec', nam]
  kernel_rfl
theorem over : Rows.ledgerTwiceRow.holds Tryd.pinned (OpenSpec.ofChange Rows.ledgerTwiceSpec) :=
  OpenClaim.holds_of_wide 16 Tryd.f16 rfl rfl rfl rfl rfl rfl rfl ⟨rfl, rfl, rfl, rfl, rfl⟩ rfl rfl rfl rfl rfl (by kernel_rfl) Tryd.func16 facts
    (of_decide_eq_true (by kernel_rfl)) (by unfold Func.isWrapper; first | (rw [if_pos (by decide +kernel)]; kernel_rfl) | (rw [if_neg (by decide +kernel)]; exact ⟨rfl, rfl⟩))
    (fun os started H enc _ => lifted os started H enc)
end Go.Proofs.YtjgnpmdbkgeakaaDoor.ledgerTwice
namespace Go.Proofs.YtjgnpmdbkgeakaaDoor
theorem ledgerTwice_card_holds : Rows.LedgerTwiceCardSaid :=
  Claim7.holds_tied_plain_at .later [] [.data] true (true, "4b760acf1adc6d3612329ab3c20ec014558e267c494e654019cab19211bf1961") false
    ledgerTwice.over (fun _ h => by cases h) (by kernel_rfl) (fun _ h => by cases h) ledgerTwice_row_tie rfl ⟨rfl, rfl⟩ mainIs' rfl
    (fun f fn hf hfn => by
      obtain rfl : f = 16 := Option.some.inj ((show Tryd.prog.funcNamed "paydesk/paydesklaw15.LedgerTwice" = some 16 by kernel_rfl).symm.trans hf) |>.symm
      obtain rfl : fn = Tryd.f16 := (Option.some.inj (Tryd.func16.symm.trans hfn)).symm
      exact ⟨ledgerTwice.lk, fun j t ht => by
        rw [Tryd.params16] at ht
        have hm : t ∈ [89, 25, 4, 4] := by simpa using Array.mem_of_getElem? ht
        have hall : ([89, 25, 4, 4].all fun u => !Tryd.prog.wantsStandIn u) = true := by kernel_rfl
        exact (show Tryd.prog.wantsStandIn t = false by simpa using List.all_eq_true.1 hall t hm)⟩)
    ledgerTwice.gb
end Go.Proofs.YtjgnpmdbkgeakaaDoor
end
