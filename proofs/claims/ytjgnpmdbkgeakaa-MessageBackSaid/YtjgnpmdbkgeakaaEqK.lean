/- What each function's run comes to, as a plain function. -/
import Derived.Test.YtjgnpmdbkgeakaaG
import Derived.KernelRfl
set_option maxRecDepth 1000000
set_option linter.unusedVariables false
set_option linter.unusedSimpArgs false
namespace Go.Proofs.Ytjgnpmdbkgeakaa.G
open Go Go.Proofs.Ytjgnpmdbkgeakaa Th
noncomputable def G10_2 (k : Nat) (j : Nat) (v : Int × List (Int × Int × Int × Unit) × Int × Int × Int × Int × Int × Unit) : Option (Int × Int × Int × Unit ⊕ Bool × Int × Int × Int × Unit) := F10_2 k j v
theorem G10_2_eq (k : Nat) (j : Nat) (v0 : Int) (v1 : List (Int × Int × Int × Unit)) (v2 v3 v4 v5 v6 : Int) : G10_2 k (j + 1) (v0, v1, v2, v3, v4, v5, v6, ()) = sel (decide (v3 < v2)) (sel (decide (0 ≤ v3)) (sel (decide (v3 < Int.ofNat v1.length)) (sel (decide (v3.toNat < v1.length)) (sel
 (decide ((v1.getD v3.toNat (0, 0, 0, ())).1 = v0)) (some (Sum.inr (true, (v1.getD v3.toNat (0, 0, 0, ())).1, (v1.getD v3.toNat (0, 0, 0, ())).2.1, (v1.getD v3.toNat (0, 0, 0, ())).2.2.1, ()))) (G10_2 k j (v0, v1, v2, IntKind.i64.wrap (v3 + 1), v4, v5, v6,
 ()))) none) none) none) (some (Sum.inl (v4, v5, v6, ()))) := by kernel_rfl
noncomputable def G10 (k : Nat) (v : Int × Unit) : Option ((Int × Int × Int × Unit) × Bool × Unit) := F10 k v
theorem G10_eq (k : Nat) (v0 : Int) : G10 k (v0, ()) = ocall (G10_2 k k (v0, [(2, 3, 19, ()), (3, 1, 6, ()), (4, 1, 12, ()), (7, 1, 10, ()), (11, 1, 6, ()), (12, 1, 6, ()), (37, 2, 12, ()), (38, 2, 6, ()), (39, 2, 2,
 ()), (41, 2, 8, ()), (44, 4, 25, ()), (48, 5, 999, ()), (49, 1, 3, ()), (90, 1, 42, ()), (120, 5, 999, ())], Int.ofNat 15, 0, 0, 0, 0, ())) fun e => esel e (fun v => some ((0, 0, 0, ()), false, ())) fun e => some
 ((e.2.1, e.2.2.1, e.2.2.2.1, ()), e.1, ()) := by kernel_rfl
noncomputable def G30 (k : Nat) (v : (Int × Int × Int × Unit) × Unit) : Option ((Int × Int × Unit) × Unit ⊕ (Int × Unit) × Unit) := F30 k v
theorem G30_eq (k : Nat) (v0 v1 v2 : Int) : G30 k ((v0, v1, v2, ()), ()) = sel (decide (v1 = 3)) (sel (decide (v1 = 3)) (some (Sum.inl ((2, v2, ()), ()))) (sel (decide (v1 = 5)) (some (Sum.inl ((3, v2, ()), ()))) (some (Sum.inr ((v2, ()),
 ()))))) (sel (decide (v1 = 4)) (some (Sum.inl ((2, v2, ()), ()))) (sel (decide (v1 = 5)) (some (Sum.inl ((3, v2, ()), ()))) (some (Sum.inr ((v2, ()), ()))))) := by kernel_rfl
noncomputable def G87 (k : Nat) (v : (Int × Int × Unit) × Int × Unit) : Option (Bool × Unit) := F87 k v
theorem G87_eq (k : Nat) (v0 v1 v2 : Int) : G87 k ((v0, v1, ()), v2, ()) = sel (decide (1 ≤ v2)) (some (decide (v2 ≤ v1), ())) (some (false, ())) := by kernel_rfl
noncomputable def G89 (k : Nat) (v : (Int × Unit) × Int × Unit) : Option (Bool × Unit) := F89 k v
theorem G89_eq (k : Nat) (v0 v1 : Int) : G89 k ((v0, ()), v1, ()) = some (decide (v1 = v0), ()) := by kernel_rfl
noncomputable def G50_g0 (k : Nat) (j : Nat) (v : List UInt8 × Int × Unit) : Option (Bool × Unit) := F50_g0 k j v
theorem G50_g0_eq (k : Nat) (j : Nat) (v0 : List UInt8) (v1 : Int) : G50_g0 k (j + 1) (v0, v1, ()) = sel (decide (v1 = Int.ofNat v0.length)) (some (decide (0 < v1), ())) (sel (decide (0 ≤ v1)) (sel (decide (v1 < Int.ofNat v0.length)) (sel (decide (Int.ofNat (v0.getD v1.toNat 0).toNat
 < 48)) (some (false, ())) (sel (decide (0 ≤ v1)) (sel (decide (v1 < Int.ofNat v0.length)) (sel (decide (57 < Int.ofNat (v0.getD v1.toNat 0).toNat)) (some (false, ())) (G50_g0 k j (v0, IntKind.i64.wrap (v1 + 1), ()))) none) none)) none) none) := by kernel_rfl
noncomputable def G50 (k : Nat) (v : List UInt8 × Unit) : Option (Bool × Unit) := F50 k v
theorem G50_eq (k : Nat) (v0 : List UInt8) : G50 k (v0, ()) = sel (decide (0 = Int.ofNat v0.length)) (some (false, ())) (sel (decide (0 < Int.ofNat v0.length)) (sel (decide (Int.ofNat (v0.getD (Int.toNat 0) 0).toNat < 48)) (some (false, ())) (sel (decide (0 < Int.ofNat
 v0.length)) (sel (decide (57 < Int.ofNat (v0.getD (Int.toNat 0) 0).toNat)) (some (false, ())) (ocall (G50_g0 k k (v0, IntKind.i64.wrap (0 + 1), ())) fun e => some (e.1, ()))) none)) none) := by kernel_rfl
noncomputable def G33 (k : Nat) (v : (Int × Int × Int × Unit) × List UInt8 × Unit) : Option (Bool × Unit) := F33 k v
theorem G33_eq (k : Nat) (v0 v1 v2 : Int) (v3 : List UInt8) : G33 k ((v0, v1, v2, ()), v3, ()) = sel (decide (v3.length ≤ 9223372036854775807)) (ocall (G50 k (v3, ())) fun r => some (Signs.signsOf v1 r.1 v3, ())) none := by kernel_rfl
noncomputable def G14 (k : Nat) (v : Int × List UInt8 × Unit) : Option (Bool × Unit) := F14 k v
theorem G14_eq (k : Nat) (v0 : Int) (v1 : List UInt8) : G14 k (v0, v1, ()) = ocall (G10 k (v0, ())) fun r => sel r.2.1 (ocall (G30 k ((r.1.1, r.1.2.1, r.1.2.2.1, ()), ())) fun r_1 => esel r_1 (fun v => ocall (G87 k ((v.1.1, v.1.2.1, ()), Int.ofNat v1.length,
 ())) fun r_2 => sel r_2.1 (ocall (G33 k ((r.1.1, r.1.2.1, r.1.2.2.1, ()), v1, ())) fun r => some (r.1, ())) (some (false, ()))) fun e => ocall (G89 k ((e.1.1, ()), Int.ofNat v1.length, ())) fun r_2 => sel r_2.1 (ocall (G33 k ((r.1.1, r.1.2.1,
 r.1.2.2.1, ()), v1, ())) fun r => some (r.1, ())) (some (false, ()))) (some (false, ())) := by kernel_rfl
noncomputable def G49 (k : Nat) (v : List UInt8 × Unit) : Option (Bool × Unit) := F49 k v
theorem G49_eq (k : Nat) (v0 : List UInt8) : G49 k (v0, ()) = sel (decide (v0 = [48, 49, 48, 48])) (sel (decide (v0 = [48, 49, 48, 48])) (some (true, ())) (some (false, ()))) (sel (decide (v0 = [48, 49, 49, 48])) (sel (decide (v0 = [48, 49, 49, 48])) (some (true, ()))
 (some (false, ()))) (sel (decide (v0 = [48, 52, 48, 48])) (sel (decide (v0 = [48, 52, 48, 48])) (some (true, ())) (some (false, ()))) (sel (decide (v0 = [48, 52, 49, 48])) (sel (decide (v0 = [48, 52, 49, 48])) (some (true, ())) (some (false, ()))) (sel (decide
 (v0 = [48, 52, 50, 48])) (sel (decide (v0 = [48, 52, 50, 48])) (some (true, ())) (some (false, ()))) (sel (decide (v0 = [48, 52, 50, 49])) (sel (decide (v0 = [48, 52, 50, 49])) (some (true, ())) (some (false, ()))) (sel (decide (v0 = [48, 52, 51, 48])) (some (true,
 ())) (some (false, ())))))))) := by kernel_rfl
noncomputable def G27_3 (k : Nat) (j : Nat) (v : Int × List (Int × List UInt8 × Unit) × Int × Int × List UInt8 × List (Int × List UInt8 × Unit) × Unit) : Option (List UInt8 × List (Int × List UInt8 × Unit) × Unit ⊕ Bool × Unit) := F27_3 k j v
theorem G27_3_eq (k : Nat) (j : Nat) (v0 : Int) (v1 : List (Int × List UInt8 × Unit)) (v2 v3 : Int) (v4 : List UInt8) (v5 : List (Int × List UInt8 × Unit)) : G27_3 k (j + 1) (v0, v1, v2, v3, v4, v5, ()) = sel (decide (v3 < v2)) (sel (decide (0 ≤ v3)) (sel (decide (v3 < Int.ofNat
 v1.length)) (sel (decide ((v1.getD v3.toNat (0, [], ())).1 ≤ v0)) (some (Sum.inr (false, ()))) (ocall (G14 k ((v1.getD v3.toNat (0, [], ())).1, (v1.getD v3.toNat (0, [], ())).2.1, ())) fun r => sel (!r.1) (some (Sum.inr (false, ()))) (G27_3 k j
 ((v1.getD v3.toNat (0, [], ())).1, v1, v2, IntKind.i64.wrap (v3 + 1), v4, v5, ())))) none) none) (some (Sum.inl (v4, v5, ()))) := by kernel_rfl
noncomputable def G27 (k : Nat) (v : (List UInt8 × List (Int × List UInt8 × Unit) × Unit) × Unit) : Option (Bool × Unit) := F27 k v
theorem G27_eq (k : Nat) (v0 : List UInt8) (v1 : List (Int × List UInt8 × Unit)) : G27 k ((v0, v1, ()), ()) = ocall (G27_3 k k (0, v1, Int.ofNat v1.length, 0, v0, v1, ())) fun e => esel e (fun v => ocall (G49 k (v.1, ())) fun r => sel r.1 (some (decide (0 < Int.ofNat
 v.2.1.length), ())) (some (false, ()))) fun e => some (e.1, ()) := by kernel_rfl
noncomputable def G86 (k : Nat) (v : (Int × Int × Unit) × Unit) : Option (Int × Unit) := F86 k v
theorem G86_eq (k : Nat) (v0 v1 : Int) : G86 k ((v0, v1, ()), ()) = some (v0, ()) := by kernel_rfl
noncomputable def G88 (k : Nat) (v : (Int × Unit) × Unit) : Option (Int × Unit) := F88 k v
theorem G88_eq (k : Nat) (v0 : Int) : G88 k ((v0, ()), ()) = some (0, ()) := by kernel_rfl
noncomputable def G31_5 (k : Nat) (j : Nat) (v : Int × List Int × Int × Unit) : Option (Int × List Int × Unit) := F31_5 k j v
theorem G31_5_eq (k : Nat) (j : Nat) (v0 : Int) (v1 : List Int) (v2 : Int) : G31_5 k (j + 1) (v0, v1, v2, ()) = sel (decide (0 ≤ v2)) (sel (decide (0 ≤ v2)) (sel (decide (v2 < Int.ofNat v1.length)) (sel (decide (v2.toNat < v1.length)) (G31_5 k j (IntKind.u64.wrap (v0.tdiv 10), v1.set
 v2.toNat (IntKind.u8.wrap (48 + IntKind.u8.wrap (v0.tmod 10))), IntKind.i64.wrap (v2 - 1), ())) none) none) none) (some (v0, v1, ())) := by kernel_rfl
noncomputable def G31 (k : Nat) (v : Int × Int × Unit) : Option (List UInt8 × Int × Unit) := F31 k v
theorem G31_eq (k : Nat) (v0 v1 : Int) : G31 k (v0, v1, ()) = sel (decide (v1 < 1)) (some ([], 1, ())) (sel (decide (19 < v1)) (some ([], 1, ())) (sel (decide (0 ≤ v1)) (sel (decide (v1 ≤ v1)) (sel (decide (v1 ≤ 140737488355328)) (sel (decide (v1 * Int.ofNat 1 ≤
 140737488355328)) (ocall (G31_5 k k (v0, List.replicate v1.toNat 0, IntKind.i64.wrap (v1 - 1), ())) fun e => sel (decide (0 < e.1)) (some ([], 10, ())) (some (ofBytes e.2.1, 0, ()))) none) none) none) none)) := by kernel_rfl
noncomputable def G12 (k : Nat) (v : Int × List UInt8 × Unit) : Option (List Int × Int × Unit) := F12 k v
theorem G12_eq (k : Nat) (v0 : Int) (v1 : List UInt8) : G12 k (v0, v1, ()) = ocall (G10 k (v0, ())) fun r => sel (!r.2.1) (some ([], 5, ())) (ocall (G14 k (v0, v1, ())) fun r_1 => sel (!r_1.1) (some ([], 1, ())) (ocall (G30 k ((r.1.1, r.1.2.1, r.1.2.2.1,
 ()), ())) fun r => esel r (fun v => ocall (G86 k ((v.1.1, v.1.2.1, ()), ())) fun r => sel (decide (0 < r.1)) (ocall (G31 k (IntKind.u64.wrap (Int.ofNat v1.length), r.1, ())) fun r => sel (decide (r.1.length + v1.length ≤ 140737488355328)) (some (toBytes (r.1
 ++ v1), 0, ())) none) (some (toBytes v1, 0, ()))) fun e => ocall (G88 k ((e.1.1, ()), ())) fun r => sel (decide (0 < r.1)) (ocall (G31 k (IntKind.u64.wrap (Int.ofNat v1.length), r.1, ())) fun r => sel (decide (r.1.length + v1.length ≤ 140737488355328)) (some
 (toBytes (r.1 ++ v1), 0, ())) none) (some (toBytes v1, 0, ())))) := by kernel_rfl
noncomputable def G67 (k : Nat) (v : Int × Int × Int × Unit) : Option (Int × Int × Int × Unit ⊕ Int × Int × Int × Unit) := F67 k v
theorem G67_eq (k : Nat) (v0 v1 v2 : Int) : G67 k (v0, v1, v2, ()) = sel (decide (v0 ≤ 64)) (sel (decide (0 ≤ IntKind.i64.wrap (v0 - 1))) (some (Sum.inl (Int.fdiv 9223372036854775808 (2 ^ min (IntKind.i64.wrap (v0 - 1)).toNat 64), v1, v2, ()))) none) (sel (decide (0 ≤
 IntKind.i64.wrap (IntKind.i64.wrap (v0 - 64) - 1))) (some (Sum.inr (Int.fdiv 9223372036854775808 (2 ^ min (IntKind.i64.wrap (IntKind.i64.wrap (v0 - 64) - 1)).toNat 64), v1, v2, ()))) none) := by kernel_rfl
noncomputable def G68 (k : Nat) (v : (Int × Int × Unit) × Int × Unit) : Option (Bool × Unit) := F68 k v
theorem G68_eq (k : Nat) (v0 v1 v2 : Int) : G68 k ((v0, v1, ()), v2, ()) = ocall (G67 k (v2, v0, v1, ())) fun r => esel r (fun v => some (!decide (bits BinOp.and IntKind.u64 v.2.1 v.1 = 0), ())) fun e => some (!decide (bits BinOp.and IntKind.u64 e.2.2.1 e.1 = 0),
 ()) := by kernel_rfl
noncomputable def G55 (k : Nat) (v : (Int × Int × Unit) × Unit) : Option (Bool × Unit) := F55 k v
theorem G55_eq (k : Nat) (v0 v1 : Int) : G55 k ((v0, v1, ()), ()) = ocall (G68 k ((v0, v1, ()), 65, ())) fun r => sel (!r.1) (ocall (G68 k ((v0, v1, ()), 1, ())) fun r => some (r.1 == !decide (v1 = 0), ())) (some (false, ())) := by
 kernel_rfl
noncomputable def G66 (k : Nat) (v : Int × Unit) : Option (Bool × Unit) := F66 k v
theorem G66_eq (k : Nat) (v0 : Int) : G66 k (v0, ()) = sel (decide (1 < v0)) (sel (decide (v0 ≤ 128)) (some (!decide (v0 = 65), ())) (some (false, ()))) (some (false, ())) := by kernel_rfl
noncomputable def G54 (k : Nat) (v : (Int × Int × Unit) × Int × Unit) : Option ((Int × Int × Unit) × Int × Unit) := F54 k v
theorem G54_eq (k : Nat) (v0 v1 v2 : Int) : G54 k ((v0, v1, ()), v2, ()) = ocall (G55 k ((v0, v1, ()), ())) fun r => sel (!r.1) (some ((v0, v1, ()), 1, ())) (ocall (G66 k (v2, ())) fun r => sel (!r.1) (some ((v0, v1, ()), 1,
 ())) (ocall (G67 k (v2, v0, v1, ())) fun r => esel r (fun v => sel (!decide (v.2.2.1 = 0)) (some ((bits BinOp.or IntKind.u64 (bits BinOp.or IntKind.u64 v.2.1 v.1) 9223372036854775808, v.2.2.1, ()), 0, ())) (some ((bits BinOp.or IntKind.u64 v.2.1 v.1, v.2.2.1,
 ()), 0, ()))) fun e => sel (!decide (bits BinOp.or IntKind.u64 e.2.2.1 e.1 = 0)) (some ((bits BinOp.or IntKind.u64 e.2.1 9223372036854775808, bits BinOp.or IntKind.u64 e.2.2.1 e.1, ()), 0, ())) (some ((e.2.1, bits BinOp.or IntKind.u64 e.2.2.1 e.1, ()), 0,
 ())))) := by kernel_rfl
noncomputable def G39_3 (k : Nat) (j : Nat) (v : List Int × Int × Int × Int × Int × Int × Int × Unit) : Option (Int × Int × Int × Int × Unit ⊕ Int × Int × Int × Unit) := F39_3 k j v
theorem G39_3_eq (k : Nat) (j : Nat) (v0 : List Int) (v1 v2 v3 v4 v5 v6 : Int) : G39_3 k (j + 1) (v0, v1, v2, v3, v4, v5, v6, ()) = sel (decide (v2 < v1)) (sel (decide (0 ≤ v2)) (sel (decide (v2 < Int.ofNat v0.length)) (ocall (G54 k ((v5, v6, ()), v0.getD v2.toNat 0, ())) fun
 r => sel (!decide (r.2.1 = 0)) (some (Sum.inr (r.2.1, 0, 0, ()))) (G39_3 k j (v0, v1, IntKind.i64.wrap (v2 + 1), v3, v4, r.1.1, r.1.2.1, ()))) none) none) (some (Sum.inl (v3, v4, v5, v6, ()))) := by kernel_rfl
noncomputable def G39 (k : Nat) (v : List Int × Unit) : Option ((Int × Int × Unit) × Int × Unit) := F39 k v
theorem G39_eq (k : Nat) (v0 : List Int) : G39 k (v0, ()) = ocall (G39_3 k k (v0, Int.ofNat v0.length, 0, 0, 0, 0, 0, ())) fun e => esel e (fun v => some ((v.2.2.1, v.2.2.2.1, ()), 0, ())) fun e => some ((e.2.1, e.2.2.1, ()), e.1, ()) := by kernel_rfl
noncomputable def G56_2 (k : Nat) (j : Nat) (v : List Int × Int × Int × Unit) : Option (List Int × Unit) := F56_2 k j v
theorem G56_2_eq (k : Nat) (j : Nat) (v0 : List Int) (v1 v2 : Int) : G56_2 k (j + 1) (v0, v1, v2, ()) = sel (decide (v2 < 8)) (sel (decide (0 ≤ IntKind.i64.wrap (64 - IntKind.i64.wrap (8 * IntKind.i64.wrap (v2 + 1))))) (sel (decide ((v0.length + 1) * 1 ≤ 140737488355328)) (G56_2 k j (v0 ++
 [IntKind.u8.wrap (v1.fdiv (2 ^ min (IntKind.i64.wrap (64 - IntKind.i64.wrap (8 * IntKind.i64.wrap (v2 + 1)))).toNat 64))], v1, IntKind.i64.wrap (v2 + 1), ())) none) none) (some (v0, ())) := by kernel_rfl
noncomputable def G56 (k : Nat) (v : List Int × Int × Unit) : Option (List Int × Unit) := F56 k v
theorem G56_eq (k : Nat) (v0 : List Int) (v1 : Int) : G56 k (v0, v1, ()) = ocall (G56_2 k k (v0, v1, 0, ())) fun e => some (e.1, ()) := by kernel_rfl
noncomputable def G40 (k : Nat) (v : (Int × Int × Unit) × Unit) : Option (List Int × Int × Unit) := F40 k v
theorem G40_eq (k : Nat) (v0 v1 : Int) : G40 k ((v0, v1, ()), ()) = ocall (G55 k ((v0, v1, ()), ())) fun r => sel (!r.1) (some ([], 1, ())) (ocall (G56 k ([], v0, ())) fun r => sel (!decide (v1 = 0)) (ocall (G56 k (r.1, v1, ())) fun r => some
 (r.1, 0, ())) (some (r.1, 0, ()))) := by kernel_rfl
end Go.Proofs.Ytjgnpmdbkgeakaa.G
