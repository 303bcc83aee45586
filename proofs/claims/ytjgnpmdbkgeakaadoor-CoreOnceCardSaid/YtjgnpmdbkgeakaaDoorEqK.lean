/- What each function's run comes to, as a plain function. -/
import Derived.Test.YtjgnpmdbkgeakaaDoorG
import Derived.KernelRfl
set_option maxRecDepth 1000000
set_option linter.unusedVariables false
set_option linter.unusedSimpArgs false
namespace Go.Proofs.YtjgnpmdbkgeakaaDoor.G
open Go Go.Proofs.YtjgnpmdbkgeakaaDoor Th
noncomputable def G175_2 (k : Nat) (j : Nat) (v : Int × List (Int × Int × Int × Unit) × Int × Int × Int × Int × Int × Unit) : Option (Int × Int × Int × Unit ⊕ Bool × Int × Int × Int × Unit) := F175_2 k j v
theorem G175_2_eq (k : Nat) (j : Nat) (v0 : Int) (v1 : List (Int × Int × Int × Unit)) (v2 v3 v4 v5 v6 : Int) : G175_2 k (j + 1) (v0, v1, v2, v3, v4, v5, v6, ()) = sel (decide (v3 < v2)) (sel (decide (0 ≤ v3)) (sel (decide (v3 < Int.ofNat v1.length)) (sel (decide (v3.toNat < v1.length)) (sel
 (decide ((v1.getD v3.toNat (0, 0, 0, ())).1 = v0)) (some (Sum.inr (true, (v1.getD v3.toNat (0, 0, 0, ())).1, (v1.getD v3.toNat (0, 0, 0, ())).2.1, (v1.getD v3.toNat (0, 0, 0, ())).2.2.1, ()))) (G175_2 k j (v0, v1, v2, IntKind.i64.wrap (v3 + 1), v4, v5, v6,
 ()))) none) none) none) (some (Sum.inl (v4, v5, v6, ()))) := by kernel_rfl
noncomputable def G175 (k : Nat) (v : Int × Unit) : Option ((Int × Int × Int × Unit) × Bool × Unit) := F175 k v
theorem G175_eq (k : Nat) (v0 : Int) : G175 k (v0, ()) = ocall (G175_2 k k (v0, [(2, 3, 19, ()), (3, 1, 6, ()), (4, 1, 12, ()), (7, 1, 10, ()), (11, 1, 6, ()), (12, 1, 6, ()), (37, 2, 12, ()), (38, 2, 6, ()), (39, 2, 2,
 ()), (41, 2, 8, ()), (44, 4, 25, ()), (48, 5, 999, ()), (49, 1, 3, ()), (90, 1, 42, ()), (120, 5, 999, ())], Int.ofNat 15, 0, 0, 0, 0, ())) fun e => esel e (fun v => some ((0, 0, 0, ()), false, ())) fun e => some
 ((e.2.1, e.2.2.1, e.2.2.2.1, ()), e.1, ()) := by kernel_rfl
noncomputable def G176 (k : Nat) (v : (Int × Int × Int × Unit) × Unit) : Option ((Int × Int × Unit) × Unit ⊕ (Int × Unit) × Unit) := F176 k v
theorem G176_eq (k : Nat) (v0 v1 v2 : Int) : G176 k ((v0, v1, v2, ()), ()) = sel (decide (v1 = 3)) (sel (decide (v1 = 3)) (some (Sum.inl ((2, v2, ()), ()))) (sel (decide (v1 = 5)) (some (Sum.inl ((3, v2, ()), ()))) (some (Sum.inr ((v2, ()),
 ()))))) (sel (decide (v1 = 4)) (some (Sum.inl ((2, v2, ()), ()))) (sel (decide (v1 = 5)) (some (Sum.inl ((3, v2, ()), ()))) (some (Sum.inr ((v2, ()), ()))))) := by kernel_rfl
noncomputable def G246 (k : Nat) (v : (Int × Int × Unit) × Int × Unit) : Option (Bool × Unit) := F246 k v
theorem G246_eq (k : Nat) (v0 v1 v2 : Int) : G246 k ((v0, v1, ()), v2, ()) = sel (decide (1 ≤ v2)) (some (decide (v2 ≤ v1), ())) (some (false, ())) := by kernel_rfl
noncomputable def G248 (k : Nat) (v : (Int × Unit) × Int × Unit) : Option (Bool × Unit) := F248 k v
theorem G248_eq (k : Nat) (v0 v1 : Int) : G248 k ((v0, ()), v1, ()) = some (decide (v1 = v0), ()) := by kernel_rfl
noncomputable def G169_g0 (k : Nat) (j : Nat) (v : List UInt8 × Int × Unit) : Option (Bool × Unit) := F169_g0 k j v
theorem G169_g0_eq (k : Nat) (j : Nat) (v0 : List UInt8) (v1 : Int) : G169_g0 k (j + 1) (v0, v1, ()) = sel (decide (v1 = Int.ofNat v0.length)) (some (decide (0 < v1), ())) (sel (decide (0 ≤ v1)) (sel (decide (v1 < Int.ofNat v0.length)) (sel (decide (Int.ofNat (v0.getD v1.toNat
 0).toNat < 48)) (some (false, ())) (sel (decide (0 ≤ v1)) (sel (decide (v1 < Int.ofNat v0.length)) (sel (decide (57 < Int.ofNat (v0.getD v1.toNat 0).toNat)) (some (false, ())) (G169_g0 k j (v0, IntKind.i64.wrap (v1 + 1), ()))) none) none)) none) none) := by kernel_rfl
noncomputable def G169 (k : Nat) (v : List UInt8 × Unit) : Option (Bool × Unit) := F169 k v
theorem G169_eq (k : Nat) (v0 : List UInt8) : G169 k (v0, ()) = sel (decide (0 = Int.ofNat v0.length)) (some (false, ())) (sel (decide (0 < Int.ofNat v0.length)) (sel (decide (Int.ofNat (v0.getD (Int.toNat 0) 0).toNat < 48)) (some (false, ())) (sel (decide (0 < Int.ofNat
 v0.length)) (sel (decide (57 < Int.ofNat (v0.getD (Int.toNat 0) 0).toNat)) (some (false, ())) (ocall (G169_g0 k k (v0, IntKind.i64.wrap (0 + 1), ())) fun e => some (e.1, ()))) none)) none) := by kernel_rfl
noncomputable def G177 (k : Nat) (v : (Int × Int × Int × Unit) × List UInt8 × Unit) : Option (Bool × Unit) := F177 k v
theorem G177_eq (k : Nat) (v0 v1 v2 : Int) (v3 : List UInt8) : G177 k ((v0, v1, v2, ()), v3, ()) = sel (decide (v3.length ≤ 9223372036854775807)) (ocall (G169 k (v3, ())) fun r => some (Signs.signsOf v1 r.1 v3, ())) none := by kernel_rfl
noncomputable def G117 (k : Nat) (v : Int × List UInt8 × Unit) : Option (Bool × Unit) := F117 k v
theorem G117_eq (k : Nat) (v0 : Int) (v1 : List UInt8) : G117 k (v0, v1, ()) = ocall (G175 k (v0, ())) fun r => sel r.2.1 (ocall (G176 k ((r.1.1, r.1.2.1, r.1.2.2.1, ()), ())) fun r_1 => esel r_1 (fun v => ocall (G246 k ((v.1.1, v.1.2.1, ()), Int.ofNat
 v1.length, ())) fun r_2 => sel r_2.1 (ocall (G177 k ((r.1.1, r.1.2.1, r.1.2.2.1, ()), v1, ())) fun r => some (r.1, ())) (some (false, ()))) fun e => ocall (G248 k ((e.1.1, ()), Int.ofNat v1.length, ())) fun r_2 => sel r_2.1 (ocall (G177 k
 ((r.1.1, r.1.2.1, r.1.2.2.1, ()), v1, ())) fun r => some (r.1, ())) (some (false, ()))) (some (false, ())) := by kernel_rfl
noncomputable def G245 (k : Nat) (v : (Int × Int × Unit) × Unit) : Option (Int × Unit) := F245 k v
theorem G245_eq (k : Nat) (v0 v1 : Int) : G245 k ((v0, v1, ()), ()) = some (v0, ()) := by kernel_rfl
noncomputable def G247 (k : Nat) (v : (Int × Unit) × Unit) : Option (Int × Unit) := F247 k v
theorem G247_eq (k : Nat) (v0 : Int) : G247 k ((v0, ()), ()) = some (0, ()) := by kernel_rfl
noncomputable def G105_5 (k : Nat) (j : Nat) (v : Int × List Int × Int × Unit) : Option (Int × List Int × Unit) := F105_5 k j v
theorem G105_5_eq (k : Nat) (j : Nat) (v0 : Int) (v1 : List Int) (v2 : Int) : G105_5 k (j + 1) (v0, v1, v2, ()) = sel (decide (0 ≤ v2)) (sel (decide (0 ≤ v2)) (sel (decide (v2 < Int.ofNat v1.length)) (sel (decide (v2.toNat < v1.length)) (G105_5 k j (IntKind.u64.wrap (v0.tdiv 10), v1.set
 v2.toNat (IntKind.u8.wrap (48 + IntKind.u8.wrap (v0.tmod 10))), IntKind.i64.wrap (v2 - 1), ())) none) none) none) (some (v0, v1, ())) := by kernel_rfl
noncomputable def G105 (k : Nat) (v : Int × Int × Unit) : Option (List UInt8 × Int × Unit) := F105 k v
theorem G105_eq (k : Nat) (v0 v1 : Int) : G105 k (v0, v1, ()) = sel (decide (v1 < 1)) (some ([], 1, ())) (sel (decide (19 < v1)) (some ([], 1, ())) (sel (decide (0 ≤ v1)) (sel (decide (v1 ≤ v1)) (sel (decide (v1 ≤ 140737488355328)) (sel (decide (v1 * Int.ofNat 1 ≤
 140737488355328)) (ocall (G105_5 k k (v0, List.replicate v1.toNat 0, IntKind.i64.wrap (v1 - 1), ())) fun e => sel (decide (0 < e.1)) (some ([], 10, ())) (some (ofBytes e.2.1, 0, ()))) none) none) none) none)) := by kernel_rfl
noncomputable def G139 (k : Nat) (v : Int × List UInt8 × Unit) : Option (List Int × Int × Unit) := F139 k v
theorem G139_eq (k : Nat) (v0 : Int) (v1 : List UInt8) : G139 k (v0, v1, ()) = ocall (G175 k (v0, ())) fun r => sel (!r.2.1) (some ([], 5, ())) (ocall (G117 k (v0, v1, ())) fun r_1 => sel (!r_1.1) (some ([], 1, ())) (ocall (G176 k ((r.1.1, r.1.2.1, r.1.2.2.1,
 ()), ())) fun r => esel r (fun v => ocall (G245 k ((v.1.1, v.1.2.1, ()), ())) fun r => sel (decide (0 < r.1)) (ocall (G105 k (IntKind.u64.wrap (Int.ofNat v1.length), r.1, ())) fun r => sel (decide (r.1.length + v1.length ≤ 140737488355328)) (some (toBytes (r.1
 ++ v1), 0, ())) none) (some (toBytes v1, 0, ()))) fun e => ocall (G247 k ((e.1.1, ()), ())) fun r => sel (decide (0 < r.1)) (ocall (G105 k (IntKind.u64.wrap (Int.ofNat v1.length), r.1, ())) fun r => sel (decide (r.1.length + v1.length ≤ 140737488355328)) (some
 (toBytes (r.1 ++ v1), 0, ())) none) (some (toBytes v1, 0, ())))) := by kernel_rfl
noncomputable def G172_9 (k : Nat) (j : Nat) (v : Int × List Int × Int × Int × Unit) : Option (Int × Unit) := F172_9 k j v
theorem G172_9_eq (k : Nat) (j : Nat) (v0 : Int) (v1 : List Int) (v2 v3 : Int) : G172_9 k (j + 1) (v0, v1, v2, v3, ()) = sel (decide (v3 < v2)) (sel (decide (0 ≤ v3)) (sel (decide (v3 < Int.ofNat v1.length)) (sel (decide (v3.toNat < v1.length)) (G172_9 k j (IntKind.u64.wrap (IntKind.u64.wrap
 (10 * v0) + IntKind.u64.wrap (IntKind.u8.wrap (v1.getD v3.toNat 0 - 48))), v1, v2, IntKind.i64.wrap (v3 + 1), ())) none) none) none) (some (v0, ())) := by kernel_rfl
noncomputable def G172 (k : Nat) (v : List UInt8 × Unit) : Option (Int × Int × Unit) := F172 k v
theorem G172_eq (k : Nat) (v0 : List UInt8) : G172 k (v0, ()) = sel (decide (v0 = [])) (some (0, 2, ())) (sel (decide (19 < Int.ofNat v0.length)) (some (0, 4, ())) (ocall (G169 k (v0, ())) fun r => sel (!r.1) (some (0, 3, ())) (ocall (G172_9 k k (0, toBytes
 v0, Int.ofNat (toBytes v0).length, 0, ())) fun e => some (e.1, 0, ())))) := by kernel_rfl
noncomputable def G195 (k : Nat) (v : (Int × Int × Int × Unit) × List Int × Unit) : Option (Int × Int × Unit) := F195 k v
theorem G195_eq (k : Nat) (v0 v1 v2 : Int) (v3 : List Int) : G195 k ((v0, v1, v2, ()), v3, ()) = ocall (G176 k ((v0, v1, v2, ()), ())) fun r => esel r (fun v => ocall (G245 k ((v.1.1, v.1.2.1, ()), ())) fun r => sel (decide (r.1 = 0)) (some (v2, 0,
 ())) (sel (decide (Int.ofNat v3.length < r.1)) (some (0, 2, ())) (sel (decide (Int.ofNat 0 ≤ r.1)) (sel (decide (r.1 ≤ Int.ofNat v3.length)) (sel (decide (Int.ofNat v3.length ≤ Int.ofNat v3.length)) (ocall (G172 k (ofBytes (List.drop (Int.ofNat 0).toNat (List.take r.1.toNat v3)),
 ())) fun r => sel (!decide (r.2.1 = 0)) (sel (!decide (r.2.1 = 0)) (some (0, 3, ())) (sel (decide (IntKind.u64.wrap v2 < r.1)) (some (0, 4, ())) (some (IntKind.i64.wrap r.1, 0, ())))) (sel (decide (r.1 = 0)) (some (0, 3, ())) (sel (decide (IntKind.u64.wrap v2
 < r.1)) (some (0, 4, ())) (some (IntKind.i64.wrap r.1, 0, ()))))) none) none) none))) fun e => ocall (G247 k ((e.1.1, ()), ())) fun r => sel (decide (r.1 = 0)) (some (v2, 0, ())) (sel (decide (Int.ofNat v3.length < r.1)) (some (0, 2, ())) (sel (decide
 (Int.ofNat 0 ≤ r.1)) (sel (decide (r.1 ≤ Int.ofNat v3.length)) (sel (decide (Int.ofNat v3.length ≤ Int.ofNat v3.length)) (ocall (G172 k (ofBytes (List.drop (Int.ofNat 0).toNat (List.take r.1.toNat v3)), ())) fun r => sel (!decide (r.2.1 = 0)) (sel (!decide (r.2.1 = 0)) (some (0, 3,
 ())) (sel (decide (IntKind.u64.wrap v2 < r.1)) (some (0, 4, ())) (some (IntKind.i64.wrap r.1, 0, ())))) (sel (decide (r.1 = 0)) (some (0, 3, ())) (sel (decide (IntKind.u64.wrap v2 < r.1)) (some (0, 4, ())) (some (IntKind.i64.wrap r.1, 0, ()))))) none)
 none) none)) := by kernel_rfl
noncomputable def G144 (k : Nat) (v : Int × List Int × Unit) : Option (List UInt8 × Int × Int × Unit) := F144 k v
theorem G144_eq (k : Nat) (v0 : Int) (v1 : List Int) : G144 k (v0, v1, ()) = ocall (G175 k (v0, ())) fun r => sel (!r.2.1) (some ([], 0, 5, ())) (ocall (G195 k ((r.1.1, r.1.2.1, r.1.2.2.1, ()), v1, ())) fun r_1 => sel (!decide (r_1.2.1 = 0)) (some ([], 0,
 r_1.2.1, ())) (ocall (G176 k ((r.1.1, r.1.2.1, r.1.2.2.1, ()), ())) fun r_2 => esel r_2 (fun v => ocall (G245 k ((v.1.1, v.1.2.1, ()), ())) fun r_3 => sel (decide (Int.ofNat v1.length < IntKind.i64.wrap (r_3.1 + r_1.1))) (some ([], 0, 2, ())) (sel
 (decide (0 ≤ r_3.1)) (sel (decide (r_3.1 ≤ IntKind.i64.wrap (r_3.1 + r_1.1))) (sel (decide (IntKind.i64.wrap (r_3.1 + r_1.1) ≤ Int.ofNat v1.length)) (sel (decide (Int.ofNat v1.length ≤ Int.ofNat v1.length)) (ocall (G177 k ((r.1.1, r.1.2.1, r.1.2.2.1, ()), ofBytes (List.drop r_3.1.toNat
 (List.take (IntKind.i64.wrap (r_3.1 + r_1.1)).toNat v1)), ())) fun r => sel (!r.1) (some ([], 0, 3, ())) (some (ofBytes (List.drop r_3.1.toNat (List.take (IntKind.i64.wrap (r_3.1 + r_1.1)).toNat v1)), IntKind.i64.wrap (r_3.1 + r_1.1), 0, ()))) none) none) none) none)) fun e
 => ocall (G247 k ((e.1.1, ()), ())) fun r_3 => sel (decide (Int.ofNat v1.length < IntKind.i64.wrap (r_3.1 + r_1.1))) (some ([], 0, 2, ())) (sel (decide (0 ≤ r_3.1)) (sel (decide (r_3.1 ≤ IntKind.i64.wrap (r_3.1 + r_1.1))) (sel (decide (IntKind.i64.wrap (r_3.1 + r_1.1) ≤
 Int.ofNat v1.length)) (sel (decide (Int.ofNat v1.length ≤ Int.ofNat v1.length)) (ocall (G177 k ((r.1.1, r.1.2.1, r.1.2.2.1, ()), ofBytes (List.drop r_3.1.toNat (List.take (IntKind.i64.wrap (r_3.1 + r_1.1)).toNat v1)), ())) fun r => sel (!r.1) (some ([], 0, 3, ())) (some
 (ofBytes (List.drop r_3.1.toNat (List.take (IntKind.i64.wrap (r_3.1 + r_1.1)).toNat v1)), IntKind.i64.wrap (r_3.1 + r_1.1), 0, ()))) none) none) none) none))) := by kernel_rfl
noncomputable def G202 (k : Nat) (v : Unit) : Option (List Int × Unit) := F202 k v
theorem G202_eq (k : Nat) : G202 k () = some ([2, 3, 19, 3, 1, 6, 4, 1, 12, 7, 1, 10, 11, 1, 6, 12, 1, 6, 37, 2, 12, 38, 2, 6, 39, 2, 2, 41, 2, 8, 44, 4, 25, 48, 5, 999, 49, 1, 3, 90, 1, 42, 120, 5, 999], ()) := by kernel_rfl
noncomputable def G164_3 (k : Nat) (j : Nat) (v : Int × List Int × Int × Int × Int × Int × Unit) : Option (Int × Int × Int × Unit ⊕ Bool × Int × Int × Int × Unit) := F164_3 k j v
theorem G164_3_eq (k : Nat) (j : Nat) (v0 : Int) (v1 : List Int) (v2 v3 v4 v5 : Int) : G164_3 k (j + 1) (v0, v1, v2, v3, v4, v5, ()) = sel (decide (v2 < Int.ofNat v1.length)) (sel (decide (0 ≤ v2)) (sel (decide (v2 < Int.ofNat v1.length)) (sel (decide (v2.toNat < v1.length)) (sel (decide
 (v1.getD v2.toNat 0 = v0)) (sel (decide (0 ≤ v2)) (sel (decide (v2 < Int.ofNat v1.length)) (sel (decide (v2.toNat < v1.length)) (sel (decide (0 ≤ IntKind.i64.wrap (v2 + 1))) (sel (decide (IntKind.i64.wrap (v2 + 1) < Int.ofNat v1.length)) (sel (decide ((IntKind.i64.wrap (v2 + 1)).toNat < v1.length))
 (sel (decide (0 ≤ IntKind.i64.wrap (v2 + 2))) (sel (decide (IntKind.i64.wrap (v2 + 2) < Int.ofNat v1.length)) (sel (decide ((IntKind.i64.wrap (v2 + 2)).toNat < v1.length)) (some (Sum.inr (true, v1.getD v2.toNat 0, v1.getD (IntKind.i64.wrap (v2 + 1)).toNat 0, v1.getD (IntKind.i64.wrap (v2 + 2)).toNat
 0, ()))) none) none) none) none) none) none) none) none) none) (G164_3 k j (v0, v1, IntKind.i64.wrap (v2 + 3), v3, v4, v5, ()))) none) none) none) (some (Sum.inl (v3, v4, v5, ()))) := by kernel_rfl
noncomputable def G164 (k : Nat) (v : Int × Unit) : Option ((Int × Int × Int × Unit) × Bool × Unit) := F164 k v
theorem G164_eq (k : Nat) (v0 : Int) : G164 k (v0, ()) = ocall (G202 k ()) fun r => ocall (G164_3 k k (v0, r.1, 0, 0, 0, 0, ())) fun e => esel e (fun v => some ((0, 0, 0, ()), false, ())) fun e => some ((e.2.1, e.2.2.1, e.2.2.2.1, ()), e.1, ())
 := by kernel_rfl
noncomputable def G221 (k : Nat) (v : Int × Unit) : Option (Int × Unit) := F221 k v
theorem G221_eq (k : Nat) (v0 : Int) : G221 k (v0, ()) = sel (decide (v0 < 3)) (some (0, ())) (sel (decide (v0 = 5)) (some (3, ())) (some (2, ()))) := by kernel_rfl
noncomputable def G171_2 (k : Nat) (j : Nat) (v : List UInt8 × Int × Unit) : Option (List UInt8 × Unit ⊕ Bool × Unit) := F171_2 k j v
theorem G171_2_eq (k : Nat) (j : Nat) (v0 : List UInt8) (v1 : Int) : G171_2 k (j + 1) (v0, v1, ()) = sel (decide (v1 < Int.ofNat v0.length)) (sel (decide (0 ≤ v1)) (sel (decide (v1 < Int.ofNat v0.length)) (sel (decide (Int.ofNat (v0.getD v1.toNat 0).toNat < 48)) (some (Sum.inr (false,
 ()))) (sel (decide (0 ≤ v1)) (sel (decide (v1 < Int.ofNat v0.length)) (sel (decide (57 < Int.ofNat (v0.getD v1.toNat 0).toNat)) (some (Sum.inr (false, ()))) (G171_2 k j (v0, IntKind.i64.wrap (v1 + 1), ()))) none) none)) none) none) (some (Sum.inl (v0, ()))) := by
 kernel_rfl
noncomputable def G171 (k : Nat) (v : List UInt8 × Unit) : Option (Bool × Unit) := F171 k v
theorem G171_eq (k : Nat) (v0 : List UInt8) : G171 k (v0, ()) = ocall (G171_2 k k (v0, 0, ())) fun e => esel e (fun v => some (decide (0 < Int.ofNat v.1.length), ())) fun e => some (e.1, ()) := by kernel_rfl
noncomputable def G120_9 (k : Nat) (j : Nat) (v : List UInt8 × Int × Int × Unit) : Option (Int × Unit) := F120_9 k j v
theorem G120_9_eq (k : Nat) (j : Nat) (v0 : List UInt8) (v1 v2 : Int) : G120_9 k (j + 1) (v0, v1, v2, ()) = sel (decide (v2 < Int.ofNat v0.length)) (sel (decide (0 ≤ v2)) (sel (decide (v2 < Int.ofNat v0.length)) (G120_9 k j (v0, IntKind.u64.wrap (IntKind.u64.wrap (IntKind.u64.wrap (10 * v1)
 + IntKind.u64.wrap (Int.ofNat (v0.getD v2.toNat 0).toNat)) - 48), IntKind.i64.wrap (v2 + 1), ())) none) none) (some (v1, ())) := by kernel_rfl
noncomputable def G120 (k : Nat) (v : List UInt8 × Unit) : Option (Int × Int × Unit) := F120 k v
theorem G120_eq (k : Nat) (v0 : List UInt8) : G120 k (v0, ()) = sel (decide (Int.ofNat v0.length = 0)) (some (0, 2, ())) (sel (decide (19 < Int.ofNat v0.length)) (some (0, 4, ())) (ocall (G171 k (v0, ())) fun r => sel (!r.1) (some (0, 3, ())) (ocall (G120_9 k
 k (v0, 0, 0, ())) fun e => some (e.1, 0, ())))) := by kernel_rfl
noncomputable def G165_2 (k : Nat) (j : Nat) (v : Int × List UInt8 × Int × Unit) : Option (Unit ⊕ Bool × Unit) := F165_2 k j v
theorem G165_2_eq (k : Nat) (j : Nat) (v0 : Int) (v1 : List UInt8) (v2 : Int) : G165_2 k (j + 1) (v0, v1, v2, ()) = sel (decide (v2 < Int.ofNat v1.length)) (sel (decide (v0 = 1)) (sel (decide (0 ≤ v2)) (sel (decide (v2 < Int.ofNat v1.length)) (sel (decide (Int.ofNat (v1.getD v2.toNat
 0).toNat < 48)) (some (Sum.inr (false, ()))) (sel (decide (0 ≤ v2)) (sel (decide (v2 < Int.ofNat v1.length)) (sel (decide (57 < Int.ofNat (v1.getD v2.toNat 0).toNat)) (some (Sum.inr (false, ()))) (G165_2 k j (v0, v1, IntKind.i64.wrap (v2 + 1), ()))) none) none)) none) none)
 (sel (decide (v0 = 3)) (sel (decide (0 ≤ v2)) (sel (decide (v2 < Int.ofNat v1.length)) (sel (decide (Int.ofNat (v1.getD v2.toNat 0).toNat < 48)) (some (Sum.inr (false, ()))) (sel (decide (0 ≤ v2)) (sel (decide (v2 < Int.ofNat v1.length)) (sel (decide (57 < Int.ofNat (v1.getD v2.toNat
 0).toNat)) (some (Sum.inr (false, ()))) (G165_2 k j (v0, v1, IntKind.i64.wrap (v2 + 1), ()))) none) none)) none) none) (sel (decide (0 ≤ v2)) (sel (decide (v2 < Int.ofNat v1.length)) (sel (decide (Int.ofNat (v1.getD v2.toNat 0).toNat < 32)) (some (Sum.inr (false, ()))) (sel
 (decide (0 ≤ v2)) (sel (decide (v2 < Int.ofNat v1.length)) (sel (decide (126 < Int.ofNat (v1.getD v2.toNat 0).toNat)) (some (Sum.inr (false, ()))) (G165_2 k j (v0, v1, IntKind.i64.wrap (v2 + 1), ()))) none) none)) none) none))) (some (Sum.inl ())) := by kernel_rfl
noncomputable def G165 (k : Nat) (v : Int × List UInt8 × Unit) : Option (Bool × Unit) := F165 k v
theorem G165_eq (k : Nat) (v0 : Int) (v1 : List UInt8) : G165 k (v0, v1, ()) = ocall (G165_2 k k (v0, v1, 0, ())) fun e => esel e (fun v => some (true, ())) fun e => some (e.1, ()) := by kernel_rfl
noncomputable def G198 (k : Nat) (v : Int × List Int × Unit) : Option (List UInt8 × Int × Int × Unit) := F198 k v
theorem G198_eq (k : Nat) (v0 : Int) (v1 : List Int) : G198 k (v0, v1, ()) = ocall (G164 k (v0, ())) fun r => sel (!r.2.1) (some ([], 0, 5, ())) (ocall (G221 k (r.1.2.1, ())) fun r_1 => sel (decide (0 < r_1.1)) (sel (decide (Int.ofNat v1.length < r_1.1)) (some ([], 0,
 2, ())) (sel (decide (Int.ofNat 0 ≤ r_1.1)) (sel (decide (r_1.1 ≤ Int.ofNat v1.length)) (sel (decide (Int.ofNat v1.length ≤ Int.ofNat v1.length)) (ocall (G120 k (ofBytes (List.drop (Int.ofNat 0).toNat (List.take r_1.1.toNat v1)), ())) fun r_2 => sel (!decide (r_2.2.1 = 0)) (some ([],
 0, 3, ())) (sel (decide (r_2.1 = 0)) (some ([], 0, 3, ())) (sel (decide (r.1.2.2.1 < IntKind.i64.wrap r_2.1)) (some ([], 0, 4, ())) (sel (decide (IntKind.i64.wrap (Int.ofNat v1.length - r_1.1) < IntKind.i64.wrap r_2.1)) (some ([], 0, 2, ())) (sel (decide (0 ≤ r_1.1))
 (sel (decide (r_1.1 ≤ IntKind.i64.wrap (r_1.1 + IntKind.i64.wrap r_2.1))) (sel (decide (IntKind.i64.wrap (r_1.1 + IntKind.i64.wrap r_2.1) ≤ Int.ofNat v1.length)) (sel (decide (Int.ofNat v1.length ≤ Int.ofNat v1.length)) (ocall (G165 k (r.1.2.1, ofBytes (List.drop r_1.1.toNat (List.take
 (IntKind.i64.wrap (r_1.1 + IntKind.i64.wrap r_2.1)).toNat v1)), ())) fun r => sel (!r.1) (some ([], 0, 3, ())) (some (ofBytes (List.drop r_1.1.toNat (List.take (IntKind.i64.wrap (r_1.1 + IntKind.i64.wrap r_2.1)).toNat v1)), IntKind.i64.wrap (r_1.1 + IntKind.i64.wrap r_2.1), 0,
 ()))) none) none) none) none))))) none) none) none)) (sel (decide (IntKind.i64.wrap (Int.ofNat v1.length - r_1.1) < r.1.2.2.1)) (some ([], 0, 2, ())) (sel (decide (0 ≤ r_1.1)) (sel (decide (r_1.1 ≤ IntKind.i64.wrap (r_1.1 + r.1.2.2.1))) (sel (decide (IntKind.i64.wrap (r_1.1 +
 r.1.2.2.1) ≤ Int.ofNat v1.length)) (sel (decide (Int.ofNat v1.length ≤ Int.ofNat v1.length)) (ocall (G165 k (r.1.2.1, ofBytes (List.drop r_1.1.toNat (List.take (IntKind.i64.wrap (r_1.1 + r.1.2.2.1)).toNat v1)), ())) fun r_2 => sel (!r_2.1) (some ([], 0, 3, ())) (some (ofBytes
 (List.drop r_1.1.toNat (List.take (IntKind.i64.wrap (r_1.1 + r.1.2.2.1)).toNat v1)), IntKind.i64.wrap (r_1.1 + r.1.2.2.1), 0, ()))) none) none) none) none))) := by kernel_rfl
noncomputable def G166 (k : Nat) (v : Int × Unit) : Option (Bool × Unit) := F166 k v
theorem G166_eq (k : Nat) (v0 : Int) : G166 k (v0, ()) = some (!decide (v0 = v0), ()) := by kernel_rfl
noncomputable def G103 (k : Nat) (v : Int × Int × Unit) : Option (Int × Unit) := F103 k v
theorem G103_eq (k : Nat) (v0 v1 : Int) : G103 k (v0, v1, ()) = ocall (G166 k (v0, ())) fun r => ocall (G166 k (v1, ())) fun r_1 => sel r.1 (sel r_1.1 (some (0, ())) (some ((-1 : Int), ()))) (sel r_1.1 (some (1, ())) (sel (decide (v0 < v1)) (some ((-1
 : Int), ())) (sel (decide (v1 < v0)) (some (1, ())) (some (0, ()))))) := by kernel_rfl
noncomputable def G167 (k : Nat) (v : List UInt8 × Unit) : Option (Bool × Unit) := F167 k v
theorem G167_eq (k : Nat) (v0 : List UInt8) : G167 k (v0, ()) = some (!decide (v0 = v0), ()) := by kernel_rfl
noncomputable def G104 (k : Nat) (v : List UInt8 × List UInt8 × Unit) : Option (Int × Unit) := F104 k v
theorem G104_eq (k : Nat) (v0 v1 : List UInt8) : G104 k (v0, v1, ()) = ocall (G167 k (v0, ())) fun r => ocall (G167 k (v1, ())) fun r_1 => sel r.1 (sel r_1.1 (some (0, ())) (some ((-1 : Int), ()))) (sel r_1.1 (some (1, ())) (sel (Go.Op.bytesLess v0 v1)
 (some ((-1 : Int), ())) (sel (!(Go.Op.bytesLess v0 v1 || decide (v0 = v1))) (some (1, ())) (some (0, ()))))) := by kernel_rfl
noncomputable def G102_3 (k : Nat) (j : Nat) (v : Int × List Int × Int × Int × Unit) : Option (Int × Unit ⊕ Int × Unit) := F102_3 k j v
theorem G102_3_eq (k : Nat) (j : Nat) (v0 : Int) (v1 : List Int) (v2 v3 : Int) : G102_3 k (j + 1) (v0, v1, v2, v3, ()) = sel (decide (v3 < v2)) (sel (decide (0 ≤ v3)) (sel (decide (v3 < Int.ofNat v1.length)) (sel (!decide (v1.getD v3.toNat 0 = v0)) (some (Sum.inr (v1.getD v3.toNat 0,
 ()))) (G102_3 k j (v0, v1, v2, IntKind.i64.wrap (v3 + 1), ()))) none) none) (some (Sum.inl (v0, ()))) := by kernel_rfl
noncomputable def G102 (k : Nat) (v : List Int × Unit) : Option (Int × Unit) := F102 k v
theorem G102_eq (k : Nat) (v0 : List Int) : G102 k (v0, ()) = ocall (G102_3 k k (0, v0, Int.ofNat v0.length, 0, ())) fun e => esel e (fun v => some (v.1, ())) fun e => some (e.1, ()) := by kernel_rfl
noncomputable def G29 (k : Nat) (v : (Int × List UInt8 × Unit) × (Int × List UInt8 × Unit) × Unit) : Option (Int × Unit) := F29 k v
theorem G29_eq (k : Nat) (v0 : Int) (v1 : List UInt8) (v2 : Int) (v3 : List UInt8) : G29 k ((v0, v1, ()), (v2, v3, ()), ()) = ocall (G103 k (v0, v2, ())) fun r => ocall (G104 k (v1, v3, ())) fun r_1 => ocall (G102 k ([r.1, r_1.1], ())) fun r => some
 (r.1, ()) := by kernel_rfl
noncomputable def G42 (k : Nat) (v : Int × Unit) : Option (Bool × Unit) := F42 k v
theorem G42_eq (k : Nat) (v0 : Int) : G42 k (v0, ()) = sel (decide (v0 = 1)) (sel (decide (v0 = 1)) (some (true, ())) (some (false, ()))) (sel (decide (v0 = 3)) (sel (decide (v0 = 3)) (some (true, ())) (some (false, ()))) (sel (decide (v0 = 5)) (sel (decide
 (v0 = 5)) (some (true, ())) (some (false, ()))) (sel (decide (v0 = 6)) (some (true, ())) (some (false, ()))))) := by kernel_rfl
noncomputable def G170 (k : Nat) (v : List UInt8 × Bool × Unit) : Option (Int × Unit) := F170 k v
theorem G170_eq (k : Nat) (v0 : List UInt8) (v1 : Bool) : G170 k (v0, v1, ()) = sel (decide (v0.length ≤ 9223372036854775807)) (some ((Sum.sumOf (Sum.backs (toBytes v0)) v1).1, ())) none := by kernel_rfl
noncomputable def G107 (k : Nat) (v : List UInt8 × Unit) : Option (Bool × Unit) := F107 k v
theorem G107_eq (k : Nat) (v0 : List UInt8) : G107 k (v0, ()) = ocall (G169 k (v0, ())) fun r => sel r.1 (ocall (G170 k (v0, false, ())) fun r => some (decide (r.1.tmod 10 = 0), ())) (some (false, ())) := by kernel_rfl
noncomputable def G108 (k : Nat) (v : Int × Unit) : Option (List UInt8 × Unit) := F108 k v
theorem G108_eq (k : Nat) (v0 : Int) : G108 k (v0, ()) = sel (decide (v0 < 0)) (some ([], ())) (sel (decide (8 ≤ v0)) (some ([], ())) (sel (decide (0 ≤ v0)) (sel (decide (v0 < Int.ofNat 8)) (some ([[], [48, 49, 48, 48], [48, 49, 49, 48], [48, 52, 48, 48], [48, 52, 49, 48],
 [48, 52, 50, 48], [48, 52, 50, 49], [48, 52, 51, 48]].getD v0.toNat [], ())) none) none)) := by kernel_rfl
noncomputable def G109 (k : Nat) (v : (Int × List UInt8 × Int × Int × List UInt8 × List UInt8 × Unit) × Unit) : Option (List (Int × List UInt8 × Unit) × Unit) := F109 k v
theorem G109_eq (k : Nat) (v0 : Int) (v1 : List UInt8) (v2 v3 : Int) (v4 v5 : List UInt8) : G109 k ((v0, v1, v2, v3, v4, v5, ()), ()) = ocall (G105 k (IntKind.u64.wrap v3, 6, ())) fun r => ocall (G42 k (v0, ())) fun r_1 => sel (!r_1.1) (some ([(11, r.1, ()),
 (37, v4, ()), (39, v5, ())], ())) (ocall (G105 k (v2, 12, ())) fun r_2 => sel (decide (5 ≤ v0)) (ocall (G108 k (1, ())) fun r_3 => sel (decide (r_3.1.length + r.1.length ≤ 140737488355328)) (sel (decide ((r_3.1 ++ r.1).length + 32 ≤ 140737488355328)) (some
 ([(2, v1, ()), (4, r_2.1, ()), (11, r.1, ()), (37, v4, ()), (90, r_3.1 ++ r.1 ++ [48, 48, 48, 48, 48, 48, 48, 48, 48, 48, 48, 48, 48, 48, 48, 48, 48, 48, 48, 48, 48, 48, 48, 48, 48, 48, 48, 48, 48, 48, 48, 48], ())], ())) none) none) (some ([(2, v1,
 ()), (4, r_2.1, ()), (11, r.1, ()), (37, v4, ())], ()))) := by kernel_rfl
noncomputable def G121 (k : Nat) (v : List UInt8 × Unit) : Option (Bool × Unit) := F121 k v
theorem G121_eq (k : Nat) (v0 : List UInt8) : G121 k (v0, ()) = sel (decide (v0 = [48, 49, 48, 48])) (sel (decide (v0 = [48, 49, 48, 48])) (some (true, ())) (some (false, ()))) (sel (decide (v0 = [48, 49, 49, 48])) (sel (decide (v0 = [48, 49, 49, 48])) (some (true,
 ())) (some (false, ()))) (sel (decide (v0 = [48, 52, 48, 48])) (sel (decide (v0 = [48, 52, 48, 48])) (some (true, ())) (some (false, ()))) (sel (decide (v0 = [48, 52, 49, 48])) (sel (decide (v0 = [48, 52, 49, 48])) (some (true, ())) (some (false, ())))
 (sel (decide (v0 = [48, 52, 50, 48])) (sel (decide (v0 = [48, 52, 50, 48])) (some (true, ())) (some (false, ()))) (sel (decide (v0 = [48, 52, 50, 49])) (sel (decide (v0 = [48, 52, 50, 49])) (some (true, ())) (some (false, ()))) (sel (decide (v0 = [48, 52, 51, 48]))
 (some (true, ())) (some (false, ())))))))) := by kernel_rfl
noncomputable def G44_3 (k : Nat) (j : Nat) (v : Int × List (Int × List UInt8 × Unit) × Int × Int × List UInt8 × List (Int × List UInt8 × Unit) × Unit) : Option (List UInt8 × List (Int × List UInt8 × Unit) × Unit ⊕ Bool × Unit) := F44_3 k j v
theorem G44_3_eq (k : Nat) (j : Nat) (v0 : Int) (v1 : List (Int × List UInt8 × Unit)) (v2 v3 : Int) (v4 : List UInt8) (v5 : List (Int × List UInt8 × Unit)) : G44_3 k (j + 1) (v0, v1, v2, v3, v4, v5, ()) = sel (decide (v3 < v2)) (sel (decide (0 ≤ v3)) (sel (decide (v3 < Int.ofNat
 v1.length)) (sel (decide ((v1.getD v3.toNat (0, [], ())).1 ≤ v0)) (some (Sum.inr (false, ()))) (ocall (G117 k ((v1.getD v3.toNat (0, [], ())).1, (v1.getD v3.toNat (0, [], ())).2.1, ())) fun r => sel (!r.1) (some (Sum.inr (false, ()))) (G44_3 k j
 ((v1.getD v3.toNat (0, [], ())).1, v1, v2, IntKind.i64.wrap (v3 + 1), v4, v5, ())))) none) none) (some (Sum.inl (v4, v5, ()))) := by kernel_rfl
noncomputable def G44 (k : Nat) (v : (List UInt8 × List (Int × List UInt8 × Unit) × Unit) × Unit) : Option (Bool × Unit) := F44 k v
theorem G44_eq (k : Nat) (v0 : List UInt8) (v1 : List (Int × List UInt8 × Unit)) : G44 k ((v0, v1, ()), ()) = ocall (G44_3 k k (0, v1, Int.ofNat v1.length, 0, v0, v1, ())) fun e => esel e (fun v => ocall (G121 k (v.1, ())) fun r => sel r.1 (some (decide (0 <
 Int.ofNat v.2.1.length), ())) (some (false, ()))) fun e => some (e.1, ()) := by kernel_rfl
noncomputable def G33 (k : Nat) (v : (Int × List UInt8 × Int × Int × List UInt8 × List UInt8 × Unit) × Unit) : Option (Bool × Unit) := F33 k v
theorem G33_eq (k : Nat) (v0 : Int) (v1 : List UInt8) (v2 v3 : Int) (v4 v5 : List UInt8) : G33 k ((v0, v1, v2, v3, v4, v5, ()), ()) = ocall (G42 k (v0, ())) fun r => sel r.1 (sel (!decide (v5 = [])) (some (false, ())) (ocall (G107 k (v1, ())) fun r => sel
 (!r.1) (some (false, ())) (ocall (G108 k (v0, ())) fun r => ocall (G109 k ((v0, v1, v2, v3, v4, v5, ()), ())) fun r_1 => ocall (G44 k ((r.1, r_1.1, ()), ())) fun r => some (r.1, ())))) (sel (!decide (v1 = [])) (some (false, ())) (sel
 (!decide (v2 = 0)) (some (false, ())) (ocall (G108 k (v0, ())) fun r => ocall (G109 k ((v0, v1, v2, v3, v4, v5, ()), ())) fun r_1 => ocall (G44 k ((r.1, r_1.1, ()), ())) fun r => some (r.1, ())))) := by kernel_rfl
noncomputable def G27 (k : Nat) (v : (Int × List UInt8 × Unit) × Unit) : Option (Bool × Unit) := F27 k v
theorem G27_eq (k : Nat) (v0 : Int) (v1 : List UInt8) : G27 k ((v0, v1, ()), ()) = ocall (G33 k ((7, [], 0, v0, v1, [48, 48], ()), ())) fun r => some (r.1, ()) := by kernel_rfl
noncomputable def G31_6 (k : Nat) (j : Nat) (v : Int × Int × List Int × Int × Int × Unit) : Option (Int × Int × Unit) := F31_6 k j v
theorem G31_6_eq (k : Nat) (j : Nat) (v0 v1 : Int) (v2 : List Int) (v3 v4 : Int) : G31_6 k (j + 1) (v0, v1, v2, v3, v4, ()) = sel (decide (v4 < v3)) (sel (decide (0 ≤ v4)) (sel (decide (v4 < Int.ofNat v2.length)) (sel (decide (v4.toNat < v2.length)) (G31_6 k j (v0, IntKind.u32.wrap (bits
 BinOp.xor IntKind.u32 v1 (IntKind.u32.wrap (v2.getD v4.toNat 0)) * 16777619), v2, v3, IntKind.i64.wrap (v4 + 1), ())) none) none) none) (some (v0, v1, ())) := by kernel_rfl
noncomputable def G31 (k : Nat) (v : (Int × List UInt8 × Unit) × Int × Unit) : Option (Int × Unit) := F31 k v
theorem G31_eq (k : Nat) (v0 : Int) (v1 : List UInt8) (v2 : Int) : G31 k ((v0, v1, ()), v2, ()) = ocall (G27 k ((v0, v1, ()), ())) fun r => sel (!r.1) (some ((-1 : Int), ())) (sel (decide (v2 < 1)) (some ((-1 : Int), ())) (sel (decide (16 < v2)) (some
 ((-1 : Int), ())) (ocall (G105 k (IntKind.u64.wrap v0, 6, ())) fun r => sel (decide (r.1.length + v1.length ≤ 140737488355328)) (ocall (G31_6 k k (v2, 2166136261, toBytes (r.1 ++ v1), Int.ofNat (toBytes (r.1 ++ v1)).length, 0, ())) fun e => sel (!decide (IntKind.u32.wrap e.1
 = 0)) (some (IntKind.i64.wrap (e.2.1.tmod (IntKind.u32.wrap e.1)), ())) none) none))) := by kernel_rfl
noncomputable def G26 (k : Nat) (v : (Int × List UInt8 × Int × Int × List UInt8 × List UInt8 × Unit) × Unit) : Option ((Int × List UInt8 × Unit) × Unit) := F26 k v
theorem G26_eq (k : Nat) (v0 : Int) (v1 : List UInt8) (v2 v3 : Int) (v4 v5 : List UInt8) : G26 k ((v0, v1, v2, v3, v4, v5, ()), ()) = some ((v3, v4, ()), ()) := by kernel_rfl
noncomputable def G23 (k : Nat) (v : Unit) : Option (Bool × Unit) := F23 k v
theorem G23_eq (k : Nat) : G23 k () = ocall (G29 k ((1, [82, 82, 78, 48, 48, 48, 48, 48, 48, 48, 48, 50], ()), (2, [82, 82, 78, 48, 48, 48, 48, 48, 48, 48, 48, 49], ()), ())) fun r => sel (decide (r.1 = (-1 : Int))) (ocall (G29 k ((2, [82, 82, 78, 48, 48, 48, 48, 48,
 48, 48, 48, 49], ()), (1, [82, 82, 78, 48, 48, 48, 48, 48, 48, 48, 48, 50], ()), ())) fun r => sel (decide (r.1 = 1)) (ocall (G27 k ((1, [82, 82, 78, 48, 48, 48, 48, 48, 48, 48, 48, 50], ()), ())) fun r => sel r.1 (ocall (G27 k ((0, [], ()),
 ())) fun r => sel (!r.1) (ocall (G31 k ((1, [82, 82, 78, 48, 48, 48, 48, 48, 48, 48, 48, 50], ()), 1, ())) fun r => sel (decide (r.1 = 0)) (ocall (G31 k ((1, [82, 82, 78, 48, 48, 48, 48, 48, 48, 48, 48, 50], ()), 0, ())) fun r => sel (decide (r.1 = (-1 :
 Int))) (ocall (G26 k ((7, [], 0, 1, [120], [], ()), ())) fun r => some (sameI r.1.1 1 && (sameS r.1.2.1 [120] && true), ())) (some (false, ()))) (some (false, ()))) (some (false, ()))) (some (false, ()))) (some (false, ()))) (some
 (false, ())) := by kernel_rfl
noncomputable def G24 (k : Nat) (v : (Int × List UInt8 × Int × Int × List UInt8 × List UInt8 × Unit) × Unit) : Option (Bool × Unit) := F24 k v
theorem G24_eq (k : Nat) (v0 : Int) (v1 : List UInt8) (v2 v3 : Int) (v4 v5 : List UInt8) : G24 k ((v0, v1, v2, v3, v4, v5, ()), ()) = sel (decide (Int.ofNat v1.length ≤ 300)) (sel (decide (Int.ofNat v4.length ≤ 300)) (some (decide (Int.ofNat v5.length ≤ 300), ())) (some
 (false, ()))) (some (false, ())) := by kernel_rfl
noncomputable def G25 (k : Nat) (v : (Int × List UInt8 × Unit) × Unit) : Option (Bool × Unit) := F25 k v
theorem G25_eq (k : Nat) (v0 : Int) (v1 : List UInt8) : G25 k ((v0, v1, ()), ()) = some (decide (Int.ofNat v1.length ≤ 300), ()) := by kernel_rfl
noncomputable def G101 (k : Nat) (v : Int × List UInt8 × Unit) : Option (Bool × Unit) := F101 k v
theorem G101_eq (k : Nat) (v0 : Int) (v1 : List UInt8) : G101 k (v0, v1, ()) = ocall (G164 k (v0, ())) fun r => sel (!r.2.1) (some (false, ())) (sel (decide (Int.ofNat v1.length = 0)) (some (false, ())) (sel (decide (r.1.2.2.1 < Int.ofNat v1.length)) (some (false,
 ())) (sel (decide (r.1.2.1 < 3)) (sel (decide (Int.ofNat v1.length < r.1.2.2.1)) (some (false, ())) (ocall (G165 k (r.1.2.1, v1, ())) fun r => some (r.1, ()))) (ocall (G165 k (r.1.2.1, v1, ())) fun r => some (r.1, ()))))) := by kernel_rfl
noncomputable def G28 (k : Nat) (v : (Int × List UInt8 × Unit) × Unit) : Option (Bool × Unit) := F28 k v
theorem G28_eq (k : Nat) (v0 : Int) (v1 : List UInt8) : G28 k ((v0, v1, ()), ()) = sel (decide (v0 ≤ 999999)) (ocall (G101 k (37, v1, ())) fun r => some (r.1, ())) (some (false, ())) := by kernel_rfl
noncomputable def G30 (k : Nat) (v : (Int × List UInt8 × Unit) × (Int × List UInt8 × Unit) × Unit) : Option (Int × Unit) := F30 k v
theorem G30_eq (k : Nat) (v0 : Int) (v1 : List UInt8) (v2 : Int) (v3 : List UInt8) : G30 k ((v0, v1, ()), (v2, v3, ()), ()) = sel (sameI v0 v2 && (sameS v1 v3 && true)) (some (0, ())) (sel (decide (v0 < v2)) (some ((-1 : Int), ())) (sel (decide (v0 = v2)) (sel
 (Go.Op.bytesLess v1 v3) (some ((-1 : Int), ())) (some (1, ()))) (some (1, ())))) := by kernel_rfl
noncomputable def G168_5 (k : Nat) (j : Nat) (v : Int × Int × List UInt8 × Int × Unit) : Option (Int × List UInt8 × Unit) := F168_5 k j v
theorem G168_5_eq (k : Nat) (j : Nat) (v0 v1 : Int) (v2 : List UInt8) (v3 : Int) : G168_5 k (j + 1) (v0, v1, v2, v3, ()) = sel (decide (v3 < v1)) (sel (decide ((ofBytes [IntKind.u8.wrap (IntKind.u64.wrap (48 + v0.tmod 10))]).length + v2.length ≤ 140737488355328)) (G168_5 k j
 (IntKind.u64.wrap (v0.tdiv 10), v1, ofBytes [IntKind.u8.wrap (IntKind.u64.wrap (48 + v0.tmod 10))] ++ v2, IntKind.i64.wrap (v3 + 1), ())) none) (some (v0, v2, ())) := by kernel_rfl
noncomputable def G168 (k : Nat) (v : Int × Int × Unit) : Option (List UInt8 × Int × Unit) := F168 k v
theorem G168_eq (k : Nat) (v0 v1 : Int) : G168 k (v0, v1, ()) = sel (decide (v1 < 1)) (some ([], 1, ())) (sel (decide (19 < v1)) (some ([], 1, ())) (ocall (G168_5 k k (v0, v1, [], 0, ())) fun e => sel (!decide (e.1 = 0)) (some ([], 10, ())) (some (e.2.1, 0,
 ())))) := by kernel_rfl
noncomputable def G106 (k : Nat) (v : Int × Int × Unit) : Option (List UInt8 × Unit) := F106 k v
theorem G106_eq (k : Nat) (v0 v1 : Int) : G106 k (v0, v1, ()) = ocall (G168 k (v0, v1, ())) fun r => some (r.1, ()) := by kernel_rfl
noncomputable def G32_6 (k : Nat) (j : Nat) (v : Int × List UInt8 × Int × Int × Unit) : Option (Int × Int × Unit) := F32_6 k j v
theorem G32_6_eq (k : Nat) (j : Nat) (v0 : Int) (v1 : List UInt8) (v2 v3 : Int) : G32_6 k (j + 1) (v0, v1, v2, v3, ()) = sel (decide (v3 < Int.ofNat v1.length)) (sel (decide (0 ≤ v3)) (sel (decide (v3 < Int.ofNat v1.length)) (G32_6 k j (v0, v1, (IntKind.u64.wrap (bits BinOp.xor IntKind.u64
 v2 (IntKind.u64.wrap (Int.ofNat (v1.getD v3.toNat 0).toNat)) * 16777619)).tmod 4294967296, IntKind.i64.wrap (v3 + 1), ())) none) none) (some (v0, v2, ())) := by kernel_rfl
noncomputable def G32 (k : Nat) (v : (Int × List UInt8 × Unit) × Int × Unit) : Option (Int × Unit) := F32 k v
theorem G32_eq (k : Nat) (v0 : Int) (v1 : List UInt8) (v2 : Int) : G32 k ((v0, v1, ()), v2, ()) = ocall (G28 k ((v0, v1, ()), ())) fun r => sel (!r.1) (some ((-1 : Int), ())) (sel (decide (v2 < 1)) (some ((-1 : Int), ())) (sel (decide (16 < v2)) (some
 ((-1 : Int), ())) (ocall (G106 k (IntKind.u64.wrap v0, 6, ())) fun r => sel (decide (r.1.length + v1.length ≤ 140737488355328)) (ocall (G32_6 k k (v2, r.1 ++ v1, 2166136261, 0, ())) fun e => sel (!decide (IntKind.u64.wrap e.1 = 0)) (some (IntKind.i64.wrap (e.2.1.tmod
 (IntKind.u64.wrap e.1)), ())) none) none))) := by kernel_rfl
noncomputable def G3 (k : Nat) (v : (Int × List UInt8 × Int × Int × List UInt8 × List UInt8 × Unit) × (Int × List UInt8 × Unit) × (Int × List UInt8 × Unit) × Int × Unit) : Option (Bool × Unit) := F3 k v
theorem G3_eq (k : Nat) (v0 : Int) (v1 : List UInt8) (v2 v3 : Int) (v4 v5 : List UInt8) (v6 : Int) (v7 : List UInt8) (v8 : Int) (v9 : List UInt8) (v10 : Int) : G3 k ((v0, v1, v2, v3, v4, v5, ()), (v6, v7, ()), (v8, v9, ()), v10, ()) = ocall (G23 k ()) fun r =>
 sel (!r.1) (some (false, ())) (ocall (G24 k ((v0, v1, v2, v3, v4, v5, ()), ())) fun r => sel (!r.1) (some (true, ())) (ocall (G25 k ((v6, v7, ()), ())) fun r => sel (!r.1) (some (true, ())) (ocall (G25 k ((v8, v9, ()), ())) fun
 r => sel (!r.1) (some (true, ())) (ocall (G26 k ((v0, v1, v2, v3, v4, v5, ()), ())) fun r => sel (sameI r.1.1 v3 && (sameS r.1.2.1 v4 && true)) (ocall (G27 k ((v6, v7, ()), ())) fun r => ocall (G28 k ((v6, v7, ()), ())) fun r_1 => sel (r.1 ==
 r_1.1) (ocall (G29 k ((v6, v7, ()), (v8, v9, ()), ())) fun r => ocall (G30 k ((v6, v7, ()), (v8, v9, ()), ())) fun r_2 => sel (decide (r.1 = r_2.1)) (ocall (G31 k ((v6, v7, ()), v10, ())) fun r => ocall (G32 k ((v6, v7, ()),
 v10, ())) fun r_3 => some (decide (r.1 = r_3.1), ())) (some (false, ()))) (some (false, ()))) (some (false, ())))))) := by kernel_rfl
noncomputable def G4 (k : Nat) (v : (Int × List UInt8 × Unit) × (Int × List UInt8 × Unit) × (Int × List UInt8 × Unit) × Unit) : Option (Bool × Unit) := F4 k v
theorem G4_eq (k : Nat) (v0 : Int) (v1 : List UInt8) (v2 : Int) (v3 : List UInt8) (v4 : Int) (v5 : List UInt8) : G4 k ((v0, v1, ()), (v2, v3, ()), (v4, v5, ()), ()) = ocall (G23 k ()) fun r => sel (!r.1) (some (false, ())) (ocall (G25 k ((v0, v1,
 ()), ())) fun r => sel (!r.1) (some (true, ())) (ocall (G25 k ((v2, v3, ()), ())) fun r => sel (!r.1) (some (true, ())) (ocall (G25 k ((v4, v5, ()), ())) fun r => sel (!r.1) (some (true, ())) (ocall (G29 k ((v0, v1, ()),
 (v2, v3, ()), ())) fun r => ocall (G29 k ((v2, v3, ()), (v4, v5, ()), ())) fun r_1 => ocall (G29 k ((v0, v1, ()), (v4, v5, ()), ())) fun r_2 => ocall (G29 k ((v2, v3, ()), (v0, v1, ()), ())) fun r_3 => sel
 (decide (r.1 = IntKind.i64.wrap (0 - r_3.1))) (sel (decide (r.1 = 0) == (sameI v0 v2 && (sameS v1 v3 && true))) (sel (decide (0 < r.1)) (sel (decide (0 ≤ r.1)) (some (true, ())) (sel (decide (0 ≤ r_1.1)) (some (true, ())) (some (decide (r_2.1 < 0), ())))) (sel (decide (0 <
 r_1.1)) (sel (decide (0 ≤ r.1)) (some (true, ())) (sel (decide (0 ≤ r_1.1)) (some (true, ())) (some (decide (r_2.1 < 0), ())))) (sel (decide (r_2.1 ≤ 0)) (sel (decide (0 ≤ r.1)) (some (true, ())) (sel (decide (0 ≤ r_1.1)) (some (true, ())) (some (decide (r_2.1
 < 0), ())))) (some (false, ()))))) (some (false, ()))) (some (false, ())))))) := by kernel_rfl
noncomputable def G5 (k : Nat) (v : (Int × List UInt8 × Int × Int × List UInt8 × List UInt8 × Unit) × Int × Int × Unit) : Option (Bool × Unit) := F5 k v
theorem G5_eq (k : Nat) (v0 : Int) (v1 : List UInt8) (v2 v3 : Int) (v4 v5 : List UInt8) (v6 v7 : Int) : G5 k ((v0, v1, v2, v3, v4, v5, ()), v6, v7, ()) = ocall (G23 k ()) fun r => sel (!r.1) (some (false, ())) (ocall (G24 k ((v0, v1, v2, v3, v4, v5, ()),
 ())) fun r => sel (!r.1) (some (true, ())) (ocall (G33 k ((v0, v1, v2, v3, v4, v5, ()), ())) fun r => sel (!r.1) (some (true, ())) (ocall (G26 k ((v0, v1, v2, v3, v4, v5, ()), ())) fun r => ocall (G31 k ((r.1.1, r.1.2.1, ()),
 IntKind.i64.wrap ((IntKind.i64.wrap v6).tmod 16 + 1), ())) fun r => ocall (G26 k ((v0, v1, v2, v3, v4, v5, ()), ())) fun r_1 => ocall (G27 k ((r_1.1.1, r_1.1.2.1, ()), ())) fun r_2 => sel r_2.1 (sel (decide (0 ≤ r.1)) (sel (decide (r.1 < IntKind.i64.wrap
 ((IntKind.i64.wrap v6).tmod 16 + 1))) (ocall (G26 k ((IntKind.i64.wrap v7, v1, v2, v3, v4, v5, ()), ())) fun r_3 => ocall (G31 k ((r_3.1.1, r_3.1.2.1, ()), IntKind.i64.wrap ((IntKind.i64.wrap v6).tmod 16 + 1), ())) fun r_4 => sel (decide (r_4.1 = r.1)) (ocall (G26 k
 ((v0, v1, v2, v3, v4, v5, ()), ())) fun r => ocall (G31 k ((r.1.1, r.1.2.1, ()), IntKind.i64.wrap (16 + IntKind.i64.wrap ((IntKind.i64.wrap v6).tmod 16 + 1)), ())) fun r => some (decide (r.1 = (-1 : Int)), ())) (some (false, ()))) (some (false,
 ()))) (some (false, ()))) (some (false, ()))))) := by kernel_rfl
end Go.Proofs.YtjgnpmdbkgeakaaDoor.G
