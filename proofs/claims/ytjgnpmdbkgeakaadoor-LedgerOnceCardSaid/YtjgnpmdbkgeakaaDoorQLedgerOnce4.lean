/- The statement LedgerOnce, out of what its function answers. No condition. -/
import Derived.Test.YtjgnpmdbkgeakaaDoorQLedgerOnce3
import Derived.Test.YtjgnpmdbkgeakaaDoorRows
import Derived.JoinedOf
import Derived.LaidMore
import Derived.FnData
import Derived.ChangeBears2
import Derived.Stop.Joined
import Derived.Carry
import Derived.Test.YtjgnpmdbkgeakaaDoorCards
import Derived.Test.YtjgnpmdbkgeakaaDoorTie
import Derived.SevenTiedAt
section
set_option linter.unusedVariables false
set_option linter.unusedSimpArgs false
namespace Go.Proofs.YtjgnpmdbkgeakaaDoor.G
open Go Go.Proofs.YtjgnpmdbkgeakaaDoor.Th
theorem lk15_6_ (k : Nat) : LinksOK Tryd.prog 221 (L15_6 k) b15_6 := (And.intro (And.intro True.intro (And.intro True.intro True.intro)) (And.intro (And.intro True.intro (And.intro (And.intro True.intro (And.intro (And.intro True.intro True.intro) True.intro)) (And.intro True.intro (And.intro (And.intro True.intro (And.intro (And.intro (And.intro True.intro (And.intro (And.intro True.intro True.intro) True.intro)) True.intro) True.intro)) (And.intro True.intro (And.intro True.intro (And.intro (And.intro True.intro (And.intro (And.intro True.intro True.intro) True.intro)) (And.intro (And.intro True.intro (And.intro (And.intro True.intro True.intro) True.intro)) (And.intro (And.intro True.intro (lk_L15_6_22 k)) True.intro))))))))) True.intro))
noncomputable def L15 (k : Nat) : LOrc := fun R lk s K => match lk with
  | .loop r => bif Nat.beq r 6 then link m15_6 x15_6 (F15_6 k k) s K else none
  | .label l => none
theorem lk_L15_6 (k : Nat) : LoopOK Tryd.prog 221 (L15 k) b15_6 := loopOK_of hm hT3 (ok_O77 k) (fun _ _ _ h => h) rfl (lk15_6_ k) rfl rfl (F := F15_6 k) (fun _ => rfl) (fun _ _ => rfl) (n := k) fun _ _ _ => rfl
noncomputable def F15 (k : Nat) (v : mi15.den) : Option mo15.den := runF TI3 (O77 k) (L15 k) c15 mi15 mo15 v
theorem lk15 (k : Nat) : LinksOK Tryd.prog 221 (L15 k) c15 := (And.intro True.intro (And.intro (And.intro True.intro (And.intro (And.intro True.intro True.intro) True.intro)) (And.intro (And.intro True.intro (And.intro (And.intro True.intro True.intro) True.intro)) (And.intro (And.intro True.intro (lk_L15_6 k)) (And.intro True.intro True.intro)))))
theorem fn15 (k : Nat) (args : List AV) (x : mi15.den) (r : mo15.den) (h1 : args.length = mi15.items.length) (h2 : mi15.dec (Th.start args) = some x) (h3 : F15 k x = some r) : CallOK Tryd.prog 15 args (ansOf (outL mo15.items r)) :=
  call_of hm hT3 (ok_O77 k) (fn := Tryd.f15) (c := c15) Tryd.func15 rfl rfl rfl (lk15 k) rfl (by decide) rfl h1 h2 h3
noncomputable def O15 (k : Nat) : Orc := fun R f args K => bif Nat.beq f 15 then callF mi15 mo15 (F15 k) args K else O77 k R f args K
theorem ok_O15 (k : Nat) : OrcOK (O15 k) (CallOK Tryd.prog) := orc_add (fn15 k) (ok_O77 k)
end Go.Proofs.YtjgnpmdbkgeakaaDoor.G
end
section
set_option maxRecDepth 1000000
set_option linter.unusedVariables false
set_option linter.unusedSimpArgs false
namespace Go.Proofs.YtjgnpmdbkgeakaaDoor.G
open Go Go.Proofs.YtjgnpmdbkgeakaaDoor Th
noncomputable def G76_2 (k : Nat) (j : Nat) (v : List ((Int × List UInt8 × Unit) × Int × Int × Unit) × Int × Int × List ((Int × List UInt8 × Unit) × Int × Int × Unit) × Unit) : Option (List ((Int × List UInt8 × Unit) × Int × Int × Unit) × Unit ⊕ Bool × Unit) := F76_2 k j v
theorem G76_2_eq (k : Nat) (j : Nat) (v0 : List ((Int × List UInt8 × Unit) × Int × Int × Unit)) (v1 v2 : Int) (v3 : List ((Int × List UInt8 × Unit) × Int × Int × Unit)) : G76_2 k (j + 1) (v0, v1, v2, v3, ()) = sel (decide (v2 < v1)) (sel (decide (0 ≤ v2)) (sel (decide (v2 < Int.ofNat
 v0.length)) (ocall (G27 k (((v0.getD v2.toNat ((0, [], ()), 0, 0, ())).1.1, (v0.getD v2.toNat ((0, [], ()), 0, 0, ())).1.2.1, ()), ())) fun r => sel (!r.1) (some (Sum.inr (false, ()))) (sel (decide (1000000000000 ≤ (v0.getD v2.toNat ((0, [],
 ()), 0, 0, ())).2.1)) (some (Sum.inr (false, ()))) (sel (decide ((v0.getD v2.toNat ((0, [], ()), 0, 0, ())).2.2.1 < 1)) (some (Sum.inr (false, ()))) (sel (decide (3 < (v0.getD v2.toNat ((0, [], ()), 0, 0, ())).2.2.1)) (some (Sum.inr
 (false, ()))) (sel (decide (0 < v2)) (sel (decide (0 ≤ IntKind.i64.wrap (v2 - 1))) (sel (decide (IntKind.i64.wrap (v2 - 1) < Int.ofNat v3.length)) (ocall (G29 k (((v3.getD (IntKind.i64.wrap (v2 - 1)).toNat ((0, [], ()), 0, 0, ())).1.1, (v3.getD (IntKind.i64.wrap (v2 -
 1)).toNat ((0, [], ()), 0, 0, ())).1.2.1, ()), ((v0.getD v2.toNat ((0, [], ()), 0, 0, ())).1.1, (v0.getD v2.toNat ((0, [], ()), 0, 0, ())).1.2.1, ()), ())) fun r => sel (decide (0 ≤ r.1)) (some (Sum.inr (false, ())))
 (G76_2 k j (v0, v1, IntKind.i64.wrap (v2 + 1), v3, ()))) none) none) (G76_2 k j (v0, v1, IntKind.i64.wrap (v2 + 1), v3, ()))))))) none) none) (some (Sum.inl (v3, ()))) := by kernel_rfl
noncomputable def G76 (k : Nat) (v : (List ((Int × List UInt8 × Unit) × Int × Int × Unit) × Unit) × Unit) : Option (Bool × Unit) := F76 k v
theorem G76_eq (k : Nat) (v0 : List ((Int × List UInt8 × Unit) × Int × Int × Unit)) : G76 k ((v0, ()), ()) = ocall (G76_2 k k (v0, Int.ofNat v0.length, 0, v0, ())) fun e => esel e (fun v => some (decide (Int.ofNat v.1.length ≤ 256), ())) fun e => some (e.1,
 ()) := by kernel_rfl
noncomputable def G70_2 (k : Nat) (j : Nat) (v : List ((Int × List UInt8 × Unit) × Int × Int × Unit) × Int × Int × Int × List UInt8 × Int × List UInt8 × Int × Int × Unit) : Option (Int × List UInt8 × Int × Int × Unit ⊕ Bool × Int × List UInt8 × Int × Int × Unit) := F70_2 k j v
theorem G70_2_eq (k : Nat) (j : Nat) (v0 : List ((Int × List UInt8 × Unit) × Int × Int × Unit)) (v1 v2 v3 : Int) (v4 : List UInt8) (v5 : Int) (v6 : List UInt8) (v7 v8 : Int) : G70_2 k (j + 1) (v0, v1, v2, v3, v4, v5, v6, v7, v8, ()) = sel (decide (v2 < v1)) (sel (decide (0 ≤ v2)) (sel
 (decide (v2 < Int.ofNat v0.length)) (sel (sameI (v0.getD v2.toNat ((0, [], ()), 0, 0, ())).1.1 v3 && (sameS (v0.getD v2.toNat ((0, [], ()), 0, 0, ())).1.2.1 v4 && true)) (some (Sum.inr (true, (v0.getD v2.toNat ((0, [], ()), 0, 0, ())).1.1, (v0.getD
 v2.toNat ((0, [], ()), 0, 0, ())).1.2.1, (v0.getD v2.toNat ((0, [], ()), 0, 0, ())).2.1, (v0.getD v2.toNat ((0, [], ()), 0, 0, ())).2.2.1, ()))) (G70_2 k j (v0, v1, IntKind.i64.wrap (v2 + 1), v3, v4, v5, v6, v7, v8, ()))) none) none)
 (some (Sum.inl (v5, v6, v7, v8, ()))) := by kernel_rfl
noncomputable def G70 (k : Nat) (v : (List ((Int × List UInt8 × Unit) × Int × Int × Unit) × Unit) × (Int × List UInt8 × Unit) × Unit) : Option (((Int × List UInt8 × Unit) × Int × Int × Unit) × Bool × Unit) := F70 k v
theorem G70_eq (k : Nat) (v0 : List ((Int × List UInt8 × Unit) × Int × Int × Unit)) (v1 : Int) (v2 : List UInt8) : G70 k ((v0, ()), (v1, v2, ()), ()) = ocall (G70_2 k k (v0, Int.ofNat v0.length, 0, v1, v2, 0, [], 0, 0, ())) fun e => esel e (fun v => some (((0, [],
 ()), 0, 0, ()), false, ())) fun e => some (((e.2.1, e.2.2.1, ()), e.2.2.2.1, e.2.2.2.2.1, ()), e.1, ()) := by kernel_rfl
noncomputable def G225 (k : Nat) (v : ((Int × List UInt8 × Unit) × Int × Int × Unit) × (Int × List UInt8 × Unit) × Unit) : Option (Int × Unit) := F225 k v
theorem G225_eq (k : Nat) (v0 : Int) (v1 : List UInt8) (v2 v3 v4 : Int) (v5 : List UInt8) : G225 k (((v0, v1, ()), v2, v3, ()), (v4, v5, ()), ()) = ocall (G29 k ((v0, v1, ()), (v4, v5, ()), ())) fun r => some (r.1, ()) := by kernel_rfl
noncomputable def G7000002_3 (k : Nat) (j : Nat) (v : List ((Int × List UInt8 × Unit) × Int × Int × Unit) × Unit × Int × Int × Int × Int × List UInt8 × Unit) : Option (List ((Int × List UInt8 × Unit) × Int × Int × Unit) × Unit × Int × Int × Int × List UInt8 × Unit) := F7000002_3 k j v
theorem G7000002_3_eq (k : Nat) (j : Nat) (v0 : List ((Int × List UInt8 × Unit) × Int × Int × Unit)) (v1 v2 v3 v4 : Int) (v5 : List UInt8) : G7000002_3 k (j + 1) (v0, (), v1, v2, v3, v4, v5, ()) = sel (decide (v2 < v3)) (sel (decide (0 ≤ IntKind.i64.wrap ((IntKind.u64.wrap
 (IntKind.i64.wrap (v2 + v3))).fdiv (2 ^ min (Int.toNat 1) 64)))) (sel (decide (IntKind.i64.wrap ((IntKind.u64.wrap (IntKind.i64.wrap (v2 + v3))).fdiv (2 ^ min (Int.toNat 1) 64)) < Int.ofNat v0.length)) (ocall (G225 k ((((v0.getD (IntKind.i64.wrap ((IntKind.u64.wrap (IntKind.i64.wrap (v2 + v3))).fdiv
 (2 ^ min (Int.toNat 1) 64))).toNat ((0, [], ()), 0, 0, ())).1.1, (v0.getD (IntKind.i64.wrap ((IntKind.u64.wrap (IntKind.i64.wrap (v2 + v3))).fdiv (2 ^ min (Int.toNat 1) 64))).toNat ((0, [], ()), 0, 0, ())).1.2.1, ()), (v0.getD (IntKind.i64.wrap
 ((IntKind.u64.wrap (IntKind.i64.wrap (v2 + v3))).fdiv (2 ^ min (Int.toNat 1) 64))).toNat ((0, [], ()), 0, 0, ())).2.1, (v0.getD (IntKind.i64.wrap ((IntKind.u64.wrap (IntKind.i64.wrap (v2 + v3))).fdiv (2 ^ min (Int.toNat 1) 64))).toNat ((0, [], ()), 0, 0, ())).2.2.1,
 ()), (v4, v5, ()), ())) fun r => sel (decide (r.1 < 0)) (G7000002_3 k j (v0, (), v1, IntKind.i64.wrap (IntKind.i64.wrap ((IntKind.u64.wrap (IntKind.i64.wrap (v2 + v3))).fdiv (2 ^ min (Int.toNat 1) 64)) + 1), v3, v4, v5, ())) (G7000002_3 k j (v0, (),
 v1, v2, IntKind.i64.wrap ((IntKind.u64.wrap (IntKind.i64.wrap (v2 + v3))).fdiv (2 ^ min (Int.toNat 1) 64)), v4, v5, ()))) none) none) (some (v0, (), v1, v2, v4, v5, ())) := by kernel_rfl
noncomputable def G7000002 (k : Nat) (v : List ((Int × List UInt8 × Unit) × Int × Int × Unit) × (Int × List UInt8 × Unit) × Unit × Unit) : Option (Int × Bool × Unit) := F7000002 k v
theorem G7000002_eq (k : Nat) (v0 : List ((Int × List UInt8 × Unit) × Int × Int × Unit)) (v1 : Int) (v2 : List UInt8) : G7000002 k (v0, (v1, v2, ()), (), ()) = ocall (G7000002_3 k k (v0, (), Int.ofNat v0.length, 0, Int.ofNat v0.length, v1, v2, ())) fun e =>
 sel (decide (e.2.2.2.1 < e.2.2.1)) (sel (decide (0 ≤ e.2.2.2.1)) (sel (decide (e.2.2.2.1 < Int.ofNat e.1.length)) (ocall (G225 k ((((e.1.getD e.2.2.2.1.toNat ((0, [], ()), 0, 0, ())).1.1, (e.1.getD e.2.2.2.1.toNat ((0, [], ()), 0, 0, ())).1.2.1, ()), (e.1.getD
 e.2.2.2.1.toNat ((0, [], ()), 0, 0, ())).2.1, (e.1.getD e.2.2.2.1.toNat ((0, [], ()), 0, 0, ())).2.2.1, ()), (e.2.2.2.2.1, e.2.2.2.2.2.1, ()), ())) fun r => some (e.2.2.2.1, decide (r.1 = 0), ())) none) none) (some (e.2.2.2.1, false,
 ())) := by kernel_rfl
noncomputable def G209 (k : Nat) (v : (List ((Int × List UInt8 × Unit) × Int × Int × Unit) × Unit) × (Int × List UInt8 × Unit) × Unit) : Option (Int × Bool × Unit) := F209 k v
theorem G209_eq (k : Nat) (v0 : List ((Int × List UInt8 × Unit) × Int × Int × Unit)) (v1 : Int) (v2 : List UInt8) : G209 k ((v0, ()), (v1, v2, ()), ()) = ocall (G7000002 k (v0, (v1, v2, ()), (), ())) fun r => some (r.1, r.2.1, ()) := by
 kernel_rfl
noncomputable def G210 (k : Nat) (v : List ((Int × List UInt8 × Unit) × Int × Int × Unit)) : Option (List ((Int × List UInt8 × Unit) × Int × Int × Unit) × Unit) := F210 k v
theorem G210_eq (k : Nat) (v0 : List ((Int × List UInt8 × Unit) × Int × Int × Unit)) : G210 k v0 = sel (decide ((0 + v0.length) * 40 ≤ 140737488355328)) (some (v0, ())) none := by kernel_rfl
noncomputable def G211 (k : Nat) (v : List ((Int × List UInt8 × Unit) × Int × Int × Unit) × Int × List ((Int × List UInt8 × Unit) × Int × Int × Unit) × Unit) : Option (List ((Int × List UInt8 × Unit) × Int × Int × Unit) × Unit) := F211 k v
theorem G211_eq (k : Nat) (v0 : List ((Int × List UInt8 × Unit) × Int × Int × Unit)) (v1 : Int) (v2 : List ((Int × List UInt8 × Unit) × Int × Int × Unit)) : G211 k (v0, v1, v2, ()) = sel (decide (0 ≤ v1)) (sel (decide (v1 ≤ Int.ofNat v0.length)) (sel (decide (v0.length ≤ 1000000)) (sel
 (decide (v2.length = 1)) (some (List.take v1.toNat v0 ++ v2 ++ List.drop v1.toNat v0, ())) none) none) none) none := by kernel_rfl
noncomputable def G188 (k : Nat) (v : (List ((Int × List UInt8 × Unit) × Int × Int × Unit) × Unit) × ((Int × List UInt8 × Unit) × Int × Int × Unit) × Unit) : Option ((List ((Int × List UInt8 × Unit) × Int × Int × Unit) × Unit) × Bool × Unit) := F188 k v
theorem G188_eq (k : Nat) (v0 : List ((Int × List UInt8 × Unit) × Int × Int × Unit)) (v1 : Int) (v2 : List UInt8) (v3 v4 : Int) : G188 k ((v0, ()), ((v1, v2, ()), v3, v4, ()), ()) = ocall (G209 k ((v0, ()), (v1, v2, ()), ())) fun r => sel
 r.2.1 (ocall (G210 k v0) fun r_1 => sel (decide (0 ≤ r.1)) (sel (decide (r.1 < Int.ofNat r_1.1.length)) (sel (decide (r.1.toNat < r_1.1.length)) (some ((r_1.1.set r.1.toNat ((v1, v2, ()), v3, v4, ()), ()), true, ())) none) none) none) (sel (decide (Int.ofNat v0.length
 = 256)) (some ((v0, ()), false, ())) (ocall (G210 k v0) fun r_1 => ocall (G211 k (r_1.1, r.1, [((v1, v2, ()), v3, v4, ())], ())) fun r => some ((r.1, ()), true, ()))) := by kernel_rfl
noncomputable def G136 (k : Nat) (v : (List ((Int × List UInt8 × Unit) × Int × Int × Unit) × Unit) × (Int × List UInt8 × Int × Int × List UInt8 × List UInt8 × Unit) × Bool × Unit) : Option ((List ((Int × List UInt8 × Unit) × Int × Int × Unit) × Unit) × List UInt8 × Unit) := F136 k v
theorem G136_eq (k : Nat) (v0 : List ((Int × List UInt8 × Unit) × Int × Int × Unit)) (v1 : Int) (v2 : List UInt8) (v3 v4 : Int) (v5 v6 : List UInt8) (v7 : Bool) : G136 k ((v0, ()), (v1, v2, v3, v4, v5, v6, ()), v7, ()) = ocall (G26 k ((v1, v2, v3, v4, v5, v6, ()),
 ())) fun r => ocall (G70 k ((v0, ()), (r.1.1, r.1.2.1, ()), ())) fun r => sel r.2.1 (sel (!decide (r.1.2.2.1 = 1)) (some ((v0, ()), [48, 53], ())) (sel r.2.1 (sel (!decide (r.1.2.1 = v3)) (some ((v0, ()), [57, 52], ())) (sel r.2.1 (some
 ((v0, ()), [48, 48], ())) (ocall (G26 k ((v1, v2, v3, v4, v5, v6, ()), ())) fun r => sel v7 (ocall (G188 k ((v0, ()), ((r.1.1, r.1.2.1, ()), v3, 1, ()), ())) fun r => sel (!r.2.1) (some ((v0, ()), [57, 54], ())) (some
 ((r.1.1, ()), [48, 48], ()))) (ocall (G188 k ((v0, ()), ((r.1.1, r.1.2.1, ()), v3, 2, ()), ())) fun r => sel (!r.2.1) (some ((v0, ()), [57, 54], ())) (some ((r.1.1, ()), [48, 53], ())))))) (sel r.2.1 (some ((v0,
 ()), [48, 48], ())) (ocall (G26 k ((v1, v2, v3, v4, v5, v6, ()), ())) fun r => sel v7 (ocall (G188 k ((v0, ()), ((r.1.1, r.1.2.1, ()), v3, 1, ()), ())) fun r => sel (!r.2.1) (some ((v0, ()), [57, 54], ())) (some ((r.1.1,
 ()), [48, 48], ()))) (ocall (G188 k ((v0, ()), ((r.1.1, r.1.2.1, ()), v3, 2, ()), ())) fun r => sel (!r.2.1) (some ((v0, ()), [57, 54], ())) (some ((r.1.1, ()), [48, 53], ()))))))) (sel r.2.1 (sel (!decide (r.1.2.1 =
 v3)) (some ((v0, ()), [57, 52], ())) (sel r.2.1 (some ((v0, ()), [48, 48], ())) (ocall (G26 k ((v1, v2, v3, v4, v5, v6, ()), ())) fun r => sel v7 (ocall (G188 k ((v0, ()), ((r.1.1, r.1.2.1, ()), v3, 1, ()), ())) fun r =>
 sel (!r.2.1) (some ((v0, ()), [57, 54], ())) (some ((r.1.1, ()), [48, 48], ()))) (ocall (G188 k ((v0, ()), ((r.1.1, r.1.2.1, ()), v3, 2, ()), ())) fun r => sel (!r.2.1) (some ((v0, ()), [57, 54], ())) (some ((r.1.1,
 ()), [48, 53], ())))))) (sel r.2.1 (some ((v0, ()), [48, 48], ())) (ocall (G26 k ((v1, v2, v3, v4, v5, v6, ()), ())) fun r => sel v7 (ocall (G188 k ((v0, ()), ((r.1.1, r.1.2.1, ()), v3, 1, ()), ())) fun r => sel (!r.2.1)
 (some ((v0, ()), [57, 54], ())) (some ((r.1.1, ()), [48, 48], ()))) (ocall (G188 k ((v0, ()), ((r.1.1, r.1.2.1, ()), v3, 2, ()), ())) fun r => sel (!r.2.1) (some ((v0, ()), [57, 54], ())) (some ((r.1.1, ()), [48,
 53], ())))))) := by kernel_rfl
noncomputable def G137 (k : Nat) (v : (List ((Int × List UInt8 × Unit) × Int × Int × Unit) × Unit) × (Int × List UInt8 × Int × Int × List UInt8 × List UInt8 × Unit) × Unit) : Option ((List ((Int × List UInt8 × Unit) × Int × Int × Unit) × Unit) × List UInt8 × Unit) := F137 k v
theorem G137_eq (k : Nat) (v0 : List ((Int × List UInt8 × Unit) × Int × Int × Unit)) (v1 : Int) (v2 : List UInt8) (v3 v4 : Int) (v5 v6 : List UInt8) : G137 k ((v0, ()), (v1, v2, v3, v4, v5, v6, ()), ()) = ocall (G26 k ((v1, v2, v3, v4, v5, v6, ()), ())) fun
 r => ocall (G70 k ((v0, ()), (r.1.1, r.1.2.1, ()), ())) fun r => sel (!r.2.1) (ocall (G26 k ((v1, v2, v3, v4, v5, v6, ()), ())) fun r => ocall (G188 k ((v0, ()), ((r.1.1, r.1.2.1, ()), v3, 3, ()), ())) fun r => sel (!r.2.1)
 (some ((v0, ()), [57, 54], ())) (some ((r.1.1, ()), [48, 48], ()))) (ocall (G188 k ((v0, ()), ((r.1.1.1, r.1.1.2.1, ()), r.1.2.1, 3, ()), ())) fun r => sel (!r.2.1) (some ((v0, ()), [57, 54], ())) (some ((r.1.1,
 ()), [48, 48], ()))) := by kernel_rfl
noncomputable def G72 (k : Nat) (v : (List ((Int × List UInt8 × Unit) × Int × Int × Unit) × Unit) × (Int × List UInt8 × Int × Int × List UInt8 × List UInt8 × Unit) × Bool × Unit) : Option ((List ((Int × List UInt8 × Unit) × Int × Int × Unit) × Unit) × (Int × List UInt8 × Int × Int × List
 UInt8 × List UInt8 × Unit) × Int × Unit) := F72 k v
theorem G72_eq (k : Nat) (v0 : List ((Int × List UInt8 × Unit) × Int × Int × Unit)) (v1 : Int) (v2 : List UInt8) (v3 v4 : Int) (v5 v6 : List UInt8) (v7 : Bool) : G72 k ((v0, ()), (v1, v2, v3, v4, v5, v6, ()), v7, ()) = ocall (G76 k ((v0, ()), ())) fun r =>
 sel (!r.1) (some ((v0, ()), (0, [], 0, 0, [], [], ()), 1, ())) (ocall (G33 k ((v1, v2, v3, v4, v5, v6, ()), ())) fun r => sel (!r.1) (some ((v0, ()), (0, [], 0, 0, [], [], ()), 1, ())) (sel (decide (v1 = 1)) (ocall (G136 k ((v0,
 ()), (v1, v2, v3, v4, v5, v6, ()), v7, ())) fun r => some ((r.1.1, ()), (2, [], 0, v4, v5, r.2.1, ()), 0, ())) (sel (decide (v1 = 5)) (sel (decide (v1 = 5)) (ocall (G137 k ((v0, ()), (v1, v2, v3, v4, v5, v6, ()), ())) fun r =>
 some ((r.1.1, ()), (7, [], 0, v4, v5, r.2.1, ()), 0, ())) (some ((v0, ()), (0, [], 0, 0, [], [], ()), 3, ()))) (sel (decide (v1 = 6)) (ocall (G137 k ((v0, ()), (v1, v2, v3, v4, v5, v6, ()), ())) fun r => some ((r.1.1,
 ()), (7, [], 0, v4, v5, r.2.1, ()), 0, ())) (some ((v0, ()), (0, [], 0, 0, [], [], ()), 3, ())))))) := by kernel_rfl
noncomputable def G78_5 (k : Nat) (j : Nat) (v : (Nat × Nat) × List ((Int × List UInt8 × Unit) × Int × Int × Unit) × Int × Int × Unit) : Option ((Nat × Nat) × Unit) := F78_5 k j v
theorem G78_5_eq (k : Nat) (j : Nat) (v0 v1 : Nat) (v2 : List ((Int × List UInt8 × Unit) × Int × Int × Unit)) (v3 v4 : Int) : G78_5 k (j + 1) ((v0, v1), v2, v3, v4, ()) = sel (decide (v4 < v3)) (sel (decide (0 ≤ v4)) (sel (decide (v4 < Int.ofNat v2.length)) (sel (decide ((v2.getD v4.toNat
 ((0, [], ()), 0, 0, ())).2.2.1 = 1)) (sel (cOK BinOp.add v0 v1 (fltOf (v2.getD v4.toNat ((0, [], ()), 0, 0, ())).2.1) 0) (G78_5 k j (((cVal BinOp.add v0 v1 (fltOf (v2.getD v4.toNat ((0, [], ()), 0, 0, ())).2.1) 0).1, (cVal BinOp.add v0 v1 (fltOf
 (v2.getD v4.toNat ((0, [], ()), 0, 0, ())).2.1) 0).2), v2, v3, IntKind.i64.wrap (v4 + 1), ())) none) (sel (decide ((v2.getD v4.toNat ((0, [], ()), 0, 0, ())).2.2.1 = 3)) (sel (cOK BinOp.mul (fltOf (v2.getD v4.toNat ((0, [], ()), 0, 0, ())).2.1)
 0 0 4607182418800017408) (sel (cOK BinOp.add v0 v1 (cVal BinOp.mul (fltOf (v2.getD v4.toNat ((0, [], ()), 0, 0, ())).2.1) 0 0 4607182418800017408).1 (cVal BinOp.mul (fltOf (v2.getD v4.toNat ((0, [], ()), 0, 0, ())).2.1) 0 0 4607182418800017408).2) (G78_5 k j (((cVal
 BinOp.add v0 v1 (cVal BinOp.mul (fltOf (v2.getD v4.toNat ((0, [], ()), 0, 0, ())).2.1) 0 0 4607182418800017408).1 (cVal BinOp.mul (fltOf (v2.getD v4.toNat ((0, [], ()), 0, 0, ())).2.1) 0 0 4607182418800017408).2).1, (cVal BinOp.add v0 v1 (cVal BinOp.mul (fltOf
 (v2.getD v4.toNat ((0, [], ()), 0, 0, ())).2.1) 0 0 4607182418800017408).1 (cVal BinOp.mul (fltOf (v2.getD v4.toNat ((0, [], ()), 0, 0, ())).2.1) 0 0 4607182418800017408).2).2), v2, v3, IntKind.i64.wrap (v4 + 1), ())) none) none) (G78_5 k j ((v0, v1), v2, v3,
 IntKind.i64.wrap (v4 + 1), ())))) none) none) (some ((v0, v1), ())) := by kernel_rfl
noncomputable def G78 (k : Nat) (v : (List ((Int × List UInt8 × Unit) × Int × Int × Unit) × Unit) × Unit) : Option ((Nat × Nat) × Unit) := F78 k v
theorem G78_eq (k : Nat) (v0 : List ((Int × List UInt8 × Unit) × Int × Int × Unit)) : G78 k ((v0, ()), ()) = ocall (G76 k ((v0, ()), ())) fun r => sel (!r.1) (some ((0, 0), ())) (ocall (G78_5 k k ((0, 0), v0, Int.ofNat v0.length, 0, ())) fun e =>
 some ((e.1.1, e.1.2), ())) := by kernel_rfl
noncomputable def G68 (k : Nat) (v : Unit) : Option (Bool × Unit) := F68 k v
theorem G68_eq (k : Nat) : G68 k () = ocall (G72 k (([], ()), (1, [49, 56], 500, 1, [82, 82, 78, 48, 48, 48, 48, 48, 48, 48, 48, 49], [], ()), true, ())) fun r => ocall (G72 k ((r.1.1, ()), (5, [49, 56], 500, 1, [82, 82, 78, 48, 48, 48, 48, 48, 48, 48, 48,
 49], [], ()), true, ())) fun r_1 => ocall (G72 k ((r_1.1.1, ()), (1, [49, 56], 500, 1, [82, 82, 78, 48, 48, 48, 48, 48, 48, 48, 48, 49], [], ()), true, ())) fun r_2 => ocall (G26 k ((1, [49, 56], 500, 1, [82, 82, 78, 48, 48, 48, 48, 48, 48, 48, 48, 49], [],
 ()), ())) fun r_3 => ocall (G70 k ((r_1.1.1, ()), (r_3.1.1, r_3.1.2.1, ()), ())) fun r_4 => sel (decide (r.2.2.1 = 0)) (sel (decide (r_1.2.2.1 = 0)) (sel (decide (r_2.2.2.1 = 0)) (sel (decide (r.2.1.1 = 2)) (sel (decide (r.2.1.2.2.2.2.2.1 = [48, 48])) (sel
 (decide (r_1.2.1.1 = 7)) (sel (decide (r_1.2.1.2.2.2.2.2.1 = [48, 48])) (sel (decide (r_2.2.1.2.2.2.2.2.1 = [48, 53])) (sel r_4.2.1 (sel (decide (r_4.1.2.2.1 = 3)) (sel (decide (r_4.1.2.1 = 500)) (ocall (G78 k ((r.1.1, ()), ())) fun r => sel (cSame r.1.1 r.1.2 4647503709213818880 0)
 (ocall (G78 k ((r_1.1.1, ()), ())) fun r => sel (cSame r.1.1 r.1.2 0 4647503709213818880) (ocall (G76 k ((r_1.1.1, ()), ())) fun r => some (r.1, ())) (some (false, ()))) (some (false, ()))) (some (false, ()))) (some (false,
 ()))) (some (false, ()))) (some (false, ()))) (some (false, ()))) (some (false, ()))) (some (false, ()))) (some (false, ()))) (some (false, ()))) (some (false, ()))) (some (false, ())) := by kernel_rfl
noncomputable def G69_2 (k : Nat) (j : Nat) (v : Int × List ((Int × List UInt8 × Unit) × Int × Int × Unit) × Unit) : Option (List ((Int × List UInt8 × Unit) × Int × Int × Unit) × Unit ⊕ Bool × Unit) := F69_2 k j v
theorem G69_2_eq (k : Nat) (j : Nat) (v0 : Int) (v1 : List ((Int × List UInt8 × Unit) × Int × Int × Unit)) : G69_2 k (j + 1) (v0, v1, ()) = sel (decide (v0 < Int.ofNat v1.length)) (sel (decide (v0 < 300)) (sel (decide (0 ≤ v0)) (sel (decide (v0 < Int.ofNat v1.length)) (ocall (G25 k
 (((v1.getD v0.toNat ((0, [], ()), 0, 0, ())).1.1, (v1.getD v0.toNat ((0, [], ()), 0, 0, ())).1.2.1, ()), ())) fun r => sel (!r.1) (some (Sum.inr (false, ()))) (G69_2 k j (IntKind.i64.wrap (v0 + 1), v1, ()))) none) none) (some (Sum.inl
 (v1, ())))) (some (Sum.inl (v1, ()))) := by kernel_rfl
noncomputable def G69 (k : Nat) (v : (List ((Int × List UInt8 × Unit) × Int × Int × Unit) × Unit) × Unit) : Option (Bool × Unit) := F69 k v
theorem G69_eq (k : Nat) (v0 : List ((Int × List UInt8 × Unit) × Int × Int × Unit)) : G69 k ((v0, ()), ()) = ocall (G69_2 k k (0, v0, ())) fun e => esel e (fun v => some (decide (Int.ofNat v.1.length ≤ 300), ())) fun e => some (e.1, ()) := by kernel_rfl
noncomputable def G77_4 (k : Nat) (j : Nat) (v : Int × List ((Int × List UInt8 × Unit) × Int × Int × Unit) × List ((Int × List UInt8 × Unit) × Int × Int × Unit) × Unit) : Option (Unit ⊕ Bool × Unit) := F77_4 k j v
theorem G77_4_eq (k : Nat) (j : Nat) (v0 : Int) (v1 v2 : List ((Int × List UInt8 × Unit) × Int × Int × Unit)) : G77_4 k (j + 1) (v0, v1, v2, ()) = sel (decide (v0 < Int.ofNat v1.length)) (sel (decide (0 ≤ v0)) (sel (decide (v0 < Int.ofNat v1.length)) (sel (decide (0 ≤ v0)) (sel (decide (v0
 < Int.ofNat v2.length)) (sel (!(sameI (v1.getD v0.toNat ((0, [], ()), 0, 0, ())).1.1 (v2.getD v0.toNat ((0, [], ()), 0, 0, ())).1.1 && (sameS (v1.getD v0.toNat ((0, [], ()), 0, 0, ())).1.2.1 (v2.getD v0.toNat ((0, [], ()), 0, 0,
 ())).1.2.1 && true) && (sameI (v1.getD v0.toNat ((0, [], ()), 0, 0, ())).2.1 (v2.getD v0.toNat ((0, [], ()), 0, 0, ())).2.1 && (sameI (v1.getD v0.toNat ((0, [], ()), 0, 0, ())).2.2.1 (v2.getD v0.toNat ((0, [], ()), 0, 0,
 ())).2.2.1 && true)))) (some (Sum.inr (false, ()))) (G77_4 k j (IntKind.i64.wrap (v0 + 1), v1, v2, ()))) none) none) none) none) (some (Sum.inl ())) := by kernel_rfl
noncomputable def G77 (k : Nat) (v : (List ((Int × List UInt8 × Unit) × Int × Int × Unit) × Unit) × (List ((Int × List UInt8 × Unit) × Int × Int × Unit) × Unit) × Unit) : Option (Bool × Unit) := F77 k v
theorem G77_eq (k : Nat) (v0 v1 : List ((Int × List UInt8 × Unit) × Int × Int × Unit)) : G77 k ((v0, ()), (v1, ()), ()) = sel (!decide (Int.ofNat v0.length = Int.ofNat v1.length)) (some (false, ())) (ocall (G77_4 k k (0, v0, v1, ())) fun e => esel e (fun v
 => some (true, ())) fun e => some (e.1, ())) := by kernel_rfl
noncomputable def G15_22 (k : Nat) (j : Nat) (v : List (Int × List UInt8 × Int × Int × List UInt8 × List UInt8 × Unit) × List Bool × Int × Int × List ((Int × List UInt8 × Unit) × Int × Int × Unit) × Int × List UInt8 × Int × Int × List UInt8 × List UInt8 × List ((Int × List UInt8 × Unit) × Int ×
 Int × Unit) × Unit) : Option (List (Int × List UInt8 × Int × Int × List UInt8 × List UInt8 × Unit) × List Bool × Int × List ((Int × List UInt8 × Unit) × Int × Int × Unit) × List ((Int × List UInt8 × Unit) × Int × Int × Unit) × Unit ⊕ Bool × Unit) := F15_22 k j v
theorem G15_22_eq (k : Nat) (j : Nat) (v0 : List (Int × List UInt8 × Int × Int × List UInt8 × List UInt8 × Unit)) (v1 : List Bool) (v2 v3 : Int) (v4 : List ((Int × List UInt8 × Unit) × Int × Int × Unit)) (v5 : Int) (v6 : List UInt8) (v7 v8 : Int) (v9 v10 : List UInt8) (v11 : List ((Int × List
 UInt8 × Unit) × Int × Int × Unit)) : G15_22 k (j + 1) (v0, v1, v2, v3, v4, v5, v6, v7, v8, v9, v10, v11, ()) = sel (decide (v3 < Int.ofNat v4.length)) (sel (decide (0 ≤ v3)) (sel (decide (v3 < Int.ofNat v4.length)) (ocall (G70 k ((v11, ()), ((v4.getD v3.toNat ((0, [], ()),
 0, 0, ())).1.1, (v4.getD v3.toNat ((0, [], ()), 0, 0, ())).1.2.1, ()), ())) fun r => sel (!r.2.1) (some (Sum.inr (false, ()))) (sel (decide (0 ≤ v3)) (sel (decide (v3 < Int.ofNat v4.length)) (ocall (G26 k ((v5, v6, v7, v8, v9, v10, ()),
 ())) fun r_1 => sel (!(sameI (v4.getD v3.toNat ((0, [], ()), 0, 0, ())).1.1 r_1.1.1 && (sameS (v4.getD v3.toNat ((0, [], ()), 0, 0, ())).1.2.1 r_1.1.2.1 && true))) (sel (decide (0 ≤ v3)) (sel (decide (v3 < Int.ofNat v4.length)) (sel (!(sameI r.1.1.1 (v4.getD
 v3.toNat ((0, [], ()), 0, 0, ())).1.1 && (sameS r.1.1.2.1 (v4.getD v3.toNat ((0, [], ()), 0, 0, ())).1.2.1 && true) && (sameI r.1.2.1 (v4.getD v3.toNat ((0, [], ()), 0, 0, ())).2.1 && (sameI r.1.2.2.1 (v4.getD v3.toNat ((0, [], ()), 0, 0,
 ())).2.2.1 && true)))) (some (Sum.inr (false, ()))) (G15_22 k j (v0, v1, v2, IntKind.i64.wrap (v3 + 1), v4, v5, v6, v7, v8, v9, v10, v11, ()))) none) none) (G15_22 k j (v0, v1, v2, IntKind.i64.wrap (v3 + 1), v4, v5, v6, v7, v8, v9, v10, v11, ()))) none) none)) none)
 none) (some (Sum.inl (v0, v1, v2, v4, v11, ()))) := by kernel_rfl
noncomputable def G15_6 (k : Nat) (j : Nat) (v : List (Int × List UInt8 × Int × Int × List UInt8 × List UInt8 × Unit) × List Bool × Int × List ((Int × List UInt8 × Unit) × Int × Int × Unit) × Unit) : Option (Unit ⊕ Bool × Unit) := F15_6 k j v
theorem G15_6_eq (k : Nat) (j : Nat) (v0 : List (Int × List UInt8 × Int × Int × List UInt8 × List UInt8 × Unit)) (v1 : List Bool) (v2 : Int) (v3 : List ((Int × List UInt8 × Unit) × Int × Int × Unit)) : G15_6 k (j + 1) (v0, v1, v2, v3, ()) = sel (decide (v2 < Int.ofNat v0.length)) (sel
 (decide (0 ≤ v2)) (sel (decide (v2 < Int.ofNat v0.length)) (ocall (G24 k (((v0.getD v2.toNat (0, [], 0, 0, [], [], ())).1, (v0.getD v2.toNat (0, [], 0, 0, [], [], ())).2.1, (v0.getD v2.toNat (0, [], 0, 0, [], [], ())).2.2.1, (v0.getD v2.toNat (0, [], 0, 0, [], [],
 ())).2.2.2.1, (v0.getD v2.toNat (0, [], 0, 0, [], [], ())).2.2.2.2.1, (v0.getD v2.toNat (0, [], 0, 0, [], [], ())).2.2.2.2.2.1, ()), ())) fun r => sel (!r.1) (some (Sum.inr (true, ()))) (sel (decide (0 ≤ v2)) (sel (decide (v2 < Int.ofNat v1.length))
 (ocall (G72 k ((v3, ()), ((v0.getD v2.toNat (0, [], 0, 0, [], [], ())).1, (v0.getD v2.toNat (0, [], 0, 0, [], [], ())).2.1, (v0.getD v2.toNat (0, [], 0, 0, [], [], ())).2.2.1, (v0.getD v2.toNat (0, [], 0, 0, [], [], ())).2.2.2.1, (v0.getD v2.toNat (0, [], 0,
 0, [], [], ())).2.2.2.2.1, (v0.getD v2.toNat (0, [], 0, 0, [], [], ())).2.2.2.2.2.1, ()), v1.getD v2.toNat false, ())) fun r => sel (!decide (r.2.2.1 = 0)) (ocall (G77 k ((v3, ()), (r.1.1, ()), ())) fun r_1 => sel (!r_1.1) (some (Sum.inr
 (false, ()))) (sel (!(sameI r.2.1.1 0 && (sameS r.2.1.2.1 [] && (sameI r.2.1.2.2.1 0 && (sameI r.2.1.2.2.2.1 0 && (sameS r.2.1.2.2.2.2.1 [] && (sameS r.2.1.2.2.2.2.2.1 [] && true))))))) (some (Sum.inr (false, ()))) (G15_6 k j (v0, v1, IntKind.i64.wrap (v2 + 1), v3, ()))))
 (ocall (G26 k (((v0.getD v2.toNat (0, [], 0, 0, [], [], ())).1, (v0.getD v2.toNat (0, [], 0, 0, [], [], ())).2.1, (v0.getD v2.toNat (0, [], 0, 0, [], [], ())).2.2.1, (v0.getD v2.toNat (0, [], 0, 0, [], [], ())).2.2.2.1, (v0.getD v2.toNat (0, [], 0, 0, [], [],
 ())).2.2.2.2.1, (v0.getD v2.toNat (0, [], 0, 0, [], [], ())).2.2.2.2.2.1, ()), ())) fun r_1 => ocall (G70 k ((v3, ()), (r_1.1.1, r_1.1.2.1, ()), ())) fun r_2 => ocall (G26 k (((v0.getD v2.toNat (0, [], 0, 0, [], [], ())).1, (v0.getD
 v2.toNat (0, [], 0, 0, [], [], ())).2.1, (v0.getD v2.toNat (0, [], 0, 0, [], [], ())).2.2.1, (v0.getD v2.toNat (0, [], 0, 0, [], [], ())).2.2.2.1, (v0.getD v2.toNat (0, [], 0, 0, [], [], ())).2.2.2.2.1, (v0.getD v2.toNat (0, [], 0, 0, [], [], ())).2.2.2.2.2.1,
 ()), ())) fun r_3 => ocall (G70 k ((r.1.1, ()), (r_3.1.1, r_3.1.2.1, ()), ())) fun r_4 => ocall (G76 k ((r.1.1, ()), ())) fun r_5 => sel (!r_5.1) (some (Sum.inr (false, ()))) (ocall (G33 k ((r.2.1.1, r.2.1.2.1, r.2.1.2.2.1,
 r.2.1.2.2.2.1, r.2.1.2.2.2.2.1, r.2.1.2.2.2.2.2.1, ()), ())) fun r_6 => sel (!r_6.1) (some (Sum.inr (false, ()))) (ocall (G26 k ((r.2.1.1, r.2.1.2.1, r.2.1.2.2.1, r.2.1.2.2.2.1, r.2.1.2.2.2.2.1, r.2.1.2.2.2.2.2.1, ()), ())) fun r_7 => ocall (G26 k (((v0.getD
 v2.toNat (0, [], 0, 0, [], [], ())).1, (v0.getD v2.toNat (0, [], 0, 0, [], [], ())).2.1, (v0.getD v2.toNat (0, [], 0, 0, [], [], ())).2.2.1, (v0.getD v2.toNat (0, [], 0, 0, [], [], ())).2.2.2.1, (v0.getD v2.toNat (0, [], 0, 0, [], [], ())).2.2.2.2.1, (v0.getD
 v2.toNat (0, [], 0, 0, [], [], ())).2.2.2.2.2.1, ()), ())) fun r_8 => sel (!(sameI r_7.1.1 r_8.1.1 && (sameS r_7.1.2.1 r_8.1.2.1 && true))) (some (Sum.inr (false, ()))) (sel r_2.2.1 (sel (!r_4.2.1) (some (Sum.inr (false, ()))) (sel (!decide (r_4.1.2.1 =
 r_2.1.2.1)) (some (Sum.inr (false, ()))) (sel (!decide (r_4.1.2.2.1 = r_2.1.2.2.1)) (sel (!decide (r_4.1.2.2.1 = 3)) (some (Sum.inr (false, ()))) (sel (!r_2.2.1) (sel r_4.2.1 (sel (!decide (r_4.1.2.1 = (v0.getD v2.toNat (0, [], 0, 0, [], [], ())).2.2.1)) (some (Sum.inr
 (false, ()))) (sel (decide (r.2.1.1 = 2)) (sel (decide (r.2.1.2.2.2.2.2.1 = [48, 48])) (sel (!decide (r_4.1.2.2.1 = 1)) (some (Sum.inr (false, ()))) (sel (!decide (r_4.1.2.1 = (v0.getD v2.toNat (0, [], 0, 0, [], [], ())).2.2.1)) (some (Sum.inr (false, ()))) (sel
 (decide (r.2.1.1 = 7)) (sel (decide (r.2.1.2.2.2.2.2.1 = [48, 48])) (sel (!decide (r_4.1.2.2.1 = 3)) (some (Sum.inr (false, ()))) (ocall (G15_22 k k (v0, v1, v2, 0, v3, (v0.getD v2.toNat (0, [], 0, 0, [], [], ())).1, (v0.getD v2.toNat (0, [], 0, 0, [], [], ())).2.1, (v0.getD
 v2.toNat (0, [], 0, 0, [], [], ())).2.2.1, (v0.getD v2.toNat (0, [], 0, 0, [], [], ())).2.2.2.1, (v0.getD v2.toNat (0, [], 0, 0, [], [], ())).2.2.2.2.1, (v0.getD v2.toNat (0, [], 0, 0, [], [], ())).2.2.2.2.2.1, r.1.1, ())) fun e => esel e (fun v => G15_6 k j
 (v.1, v.2.1, IntKind.i64.wrap (v.2.2.1 + 1), v.2.2.2.2.1, ())) fun e => some (Sum.inr (e.1, ())))) (ocall (G15_22 k k (v0, v1, v2, 0, v3, (v0.getD v2.toNat (0, [], 0, 0, [], [], ())).1, (v0.getD v2.toNat (0, [], 0, 0, [], [], ())).2.1, (v0.getD v2.toNat (0, [], 0, 0,
 [], [], ())).2.2.1, (v0.getD v2.toNat (0, [], 0, 0, [], [], ())).2.2.2.1, (v0.getD v2.toNat (0, [], 0, 0, [], [], ())).2.2.2.2.1, (v0.getD v2.toNat (0, [], 0, 0, [], [], ())).2.2.2.2.2.1, r.1.1, ())) fun e => esel e (fun v => G15_6 k j (v.1, v.2.1,
 IntKind.i64.wrap (v.2.2.1 + 1), v.2.2.2.2.1, ())) fun e => some (Sum.inr (e.1, ())))) (ocall (G15_22 k k (v0, v1, v2, 0, v3, (v0.getD v2.toNat (0, [], 0, 0, [], [], ())).1, (v0.getD v2.toNat (0, [], 0, 0, [], [], ())).2.1, (v0.getD v2.toNat (0, [], 0, 0, [], [],
 ())).2.2.1, (v0.getD v2.toNat (0, [], 0, 0, [], [], ())).2.2.2.1, (v0.getD v2.toNat (0, [], 0, 0, [], [], ())).2.2.2.2.1, (v0.getD v2.toNat (0, [], 0, 0, [], [], ())).2.2.2.2.2.1, r.1.1, ())) fun e => esel e (fun v => G15_6 k j (v.1, v.2.1, IntKind.i64.wrap
 (v.2.2.1 + 1), v.2.2.2.2.1, ())) fun e => some (Sum.inr (e.1, ())))))) (sel (decide (r.2.1.1 = 7)) (sel (decide (r.2.1.2.2.2.2.2.1 = [48, 48])) (sel (!decide (r_4.1.2.2.1 = 3)) (some (Sum.inr (false, ()))) (ocall (G15_22 k k (v0, v1, v2, 0, v3, (v0.getD v2.toNat (0, [], 0, 0,
 [], [], ())).1, (v0.getD v2.toNat (0, [], 0, 0, [], [], ())).2.1, (v0.getD v2.toNat (0, [], 0, 0, [], [], ())).2.2.1, (v0.getD v2.toNat (0, [], 0, 0, [], [], ())).2.2.2.1, (v0.getD v2.toNat (0, [], 0, 0, [], [], ())).2.2.2.2.1, (v0.getD v2.toNat (0, [], 0, 0,
 [], [], ())).2.2.2.2.2.1, r.1.1, ())) fun e => esel e (fun v => G15_6 k j (v.1, v.2.1, IntKind.i64.wrap (v.2.2.1 + 1), v.2.2.2.2.1, ())) fun e => some (Sum.inr (e.1, ())))) (ocall (G15_22 k k (v0, v1, v2, 0, v3, (v0.getD v2.toNat (0, [], 0, 0, [], [], ())).1,
 (v0.getD v2.toNat (0, [], 0, 0, [], [], ())).2.1, (v0.getD v2.toNat (0, [], 0, 0, [], [], ())).2.2.1, (v0.getD v2.toNat (0, [], 0, 0, [], [], ())).2.2.2.1, (v0.getD v2.toNat (0, [], 0, 0, [], [], ())).2.2.2.2.1, (v0.getD v2.toNat (0, [], 0, 0, [], [],
 ())).2.2.2.2.2.1, r.1.1, ())) fun e => esel e (fun v => G15_6 k j (v.1, v.2.1, IntKind.i64.wrap (v.2.2.1 + 1), v.2.2.2.2.1, ())) fun e => some (Sum.inr (e.1, ())))) (ocall (G15_22 k k (v0, v1, v2, 0, v3, (v0.getD v2.toNat (0, [], 0, 0, [], [], ())).1, (v0.getD
 v2.toNat (0, [], 0, 0, [], [], ())).2.1, (v0.getD v2.toNat (0, [], 0, 0, [], [], ())).2.2.1, (v0.getD v2.toNat (0, [], 0, 0, [], [], ())).2.2.2.1, (v0.getD v2.toNat (0, [], 0, 0, [], [], ())).2.2.2.2.1, (v0.getD v2.toNat (0, [], 0, 0, [], [], ())).2.2.2.2.2.1,
 r.1.1, ())) fun e => esel e (fun v => G15_6 k j (v.1, v.2.1, IntKind.i64.wrap (v.2.2.1 + 1), v.2.2.2.2.1, ())) fun e => some (Sum.inr (e.1, ()))))) (sel (decide (r.2.1.1 = 7)) (sel (decide (r.2.1.2.2.2.2.2.1 = [48, 48])) (sel (!decide (r_4.1.2.2.1 = 3)) (some (Sum.inr (false,
 ()))) (ocall (G15_22 k k (v0, v1, v2, 0, v3, (v0.getD v2.toNat (0, [], 0, 0, [], [], ())).1, (v0.getD v2.toNat (0, [], 0, 0, [], [], ())).2.1, (v0.getD v2.toNat (0, [], 0, 0, [], [], ())).2.2.1, (v0.getD v2.toNat (0, [], 0, 0, [], [], ())).2.2.2.1, (v0.getD
 v2.toNat (0, [], 0, 0, [], [], ())).2.2.2.2.1, (v0.getD v2.toNat (0, [], 0, 0, [], [], ())).2.2.2.2.2.1, r.1.1, ())) fun e => esel e (fun v => G15_6 k j (v.1, v.2.1, IntKind.i64.wrap (v.2.2.1 + 1), v.2.2.2.2.1, ())) fun e => some (Sum.inr (e.1, ())))) (ocall
 (G15_22 k k (v0, v1, v2, 0, v3, (v0.getD v2.toNat (0, [], 0, 0, [], [], ())).1, (v0.getD v2.toNat (0, [], 0, 0, [], [], ())).2.1, (v0.getD v2.toNat (0, [], 0, 0, [], [], ())).2.2.1, (v0.getD v2.toNat (0, [], 0, 0, [], [], ())).2.2.2.1, (v0.getD v2.toNat (0, [], 0, 0,
 [], [], ())).2.2.2.2.1, (v0.getD v2.toNat (0, [], 0, 0, [], [], ())).2.2.2.2.2.1, r.1.1, ())) fun e => esel e (fun v => G15_6 k j (v.1, v.2.1, IntKind.i64.wrap (v.2.2.1 + 1), v.2.2.2.2.1, ())) fun e => some (Sum.inr (e.1, ())))) (ocall (G15_22 k k (v0, v1, v2,
 0, v3, (v0.getD v2.toNat (0, [], 0, 0, [], [], ())).1, (v0.getD v2.toNat (0, [], 0, 0, [], [], ())).2.1, (v0.getD v2.toNat (0, [], 0, 0, [], [], ())).2.2.1, (v0.getD v2.toNat (0, [], 0, 0, [], [], ())).2.2.2.1, (v0.getD v2.toNat (0, [], 0, 0, [], [],
 ())).2.2.2.2.1, (v0.getD v2.toNat (0, [], 0, 0, [], [], ())).2.2.2.2.2.1, r.1.1, ())) fun e => esel e (fun v => G15_6 k j (v.1, v.2.1, IntKind.i64.wrap (v.2.2.1 + 1), v.2.2.2.2.1, ())) fun e => some (Sum.inr (e.1, ())))))) (sel (decide (r.2.1.1 = 2)) (sel
 (decide (r.2.1.2.2.2.2.2.1 = [48, 48])) (sel (!decide (r_4.1.2.2.1 = 1)) (some (Sum.inr (false, ()))) (sel (!decide (r_4.1.2.1 = (v0.getD v2.toNat (0, [], 0, 0, [], [], ())).2.2.1)) (some (Sum.inr (false, ()))) (sel (decide (r.2.1.1 = 7)) (sel (decide (r.2.1.2.2.2.2.2.1 =
 [48, 48])) (sel (!decide (r_4.1.2.2.1 = 3)) (some (Sum.inr (false, ()))) (ocall (G15_22 k k (v0, v1, v2, 0, v3, (v0.getD v2.toNat (0, [], 0, 0, [], [], ())).1, (v0.getD v2.toNat (0, [], 0, 0, [], [], ())).2.1, (v0.getD v2.toNat (0, [], 0, 0, [], [], ())).2.2.1,
 (v0.getD v2.toNat (0, [], 0, 0, [], [], ())).2.2.2.1, (v0.getD v2.toNat (0, [], 0, 0, [], [], ())).2.2.2.2.1, (v0.getD v2.toNat (0, [], 0, 0, [], [], ())).2.2.2.2.2.1, r.1.1, ())) fun e => esel e (fun v => G15_6 k j (v.1, v.2.1, IntKind.i64.wrap (v.2.2.1 + 1),
 v.2.2.2.2.1, ())) fun e => some (Sum.inr (e.1, ())))) (ocall (G15_22 k k (v0, v1, v2, 0, v3, (v0.getD v2.toNat (0, [], 0, 0, [], [], ())).1, (v0.getD v2.toNat (0, [], 0, 0, [], [], ())).2.1, (v0.getD v2.toNat (0, [], 0, 0, [], [], ())).2.2.1, (v0.getD v2.toNat
 (0, [], 0, 0, [], [], ())).2.2.2.1, (v0.getD v2.toNat (0, [], 0, 0, [], [], ())).2.2.2.2.1, (v0.getD v2.toNat (0, [], 0, 0, [], [], ())).2.2.2.2.2.1, r.1.1, ())) fun e => esel e (fun v => G15_6 k j (v.1, v.2.1, IntKind.i64.wrap (v.2.2.1 + 1), v.2.2.2.2.1, ()))
 fun e => some (Sum.inr (e.1, ())))) (ocall (G15_22 k k (v0, v1, v2, 0, v3, (v0.getD v2.toNat (0, [], 0, 0, [], [], ())).1, (v0.getD v2.toNat (0, [], 0, 0, [], [], ())).2.1, (v0.getD v2.toNat (0, [], 0, 0, [], [], ())).2.2.1, (v0.getD v2.toNat (0, [], 0, 0, [], [],
 ())).2.2.2.1, (v0.getD v2.toNat (0, [], 0, 0, [], [], ())).2.2.2.2.1, (v0.getD v2.toNat (0, [], 0, 0, [], [], ())).2.2.2.2.2.1, r.1.1, ())) fun e => esel e (fun v => G15_6 k j (v.1, v.2.1, IntKind.i64.wrap (v.2.2.1 + 1), v.2.2.2.2.1, ())) fun e => some
 (Sum.inr (e.1, ())))))) (sel (decide (r.2.1.1 = 7)) (sel (decide (r.2.1.2.2.2.2.2.1 = [48, 48])) (sel (!decide (r_4.1.2.2.1 = 3)) (some (Sum.inr (false, ()))) (ocall (G15_22 k k (v0, v1, v2, 0, v3, (v0.getD v2.toNat (0, [], 0, 0, [], [], ())).1, (v0.getD v2.toNat (0, [], 0,
 0, [], [], ())).2.1, (v0.getD v2.toNat (0, [], 0, 0, [], [], ())).2.2.1, (v0.getD v2.toNat (0, [], 0, 0, [], [], ())).2.2.2.1, (v0.getD v2.toNat (0, [], 0, 0, [], [], ())).2.2.2.2.1, (v0.getD v2.toNat (0, [], 0, 0, [], [], ())).2.2.2.2.2.1, r.1.1, ()))
 fun e => esel e (fun v => G15_6 k j (v.1, v.2.1, IntKind.i64.wrap (v.2.2.1 + 1), v.2.2.2.2.1, ())) fun e => some (Sum.inr (e.1, ())))) (ocall (G15_22 k k (v0, v1, v2, 0, v3, (v0.getD v2.toNat (0, [], 0, 0, [], [], ())).1, (v0.getD v2.toNat (0, [], 0, 0, [], [],
 ())).2.1, (v0.getD v2.toNat (0, [], 0, 0, [], [], ())).2.2.1, (v0.getD v2.toNat (0, [], 0, 0, [], [], ())).2.2.2.1, (v0.getD v2.toNat (0, [], 0, 0, [], [], ())).2.2.2.2.1, (v0.getD v2.toNat (0, [], 0, 0, [], [], ())).2.2.2.2.2.1, r.1.1, ())) fun e =>
 esel e (fun v => G15_6 k j (v.1, v.2.1, IntKind.i64.wrap (v.2.2.1 + 1), v.2.2.2.2.1, ())) fun e => some (Sum.inr (e.1, ())))) (ocall (G15_22 k k (v0, v1, v2, 0, v3, (v0.getD v2.toNat (0, [], 0, 0, [], [], ())).1, (v0.getD v2.toNat (0, [], 0, 0, [], [], ())).2.1,
 (v0.getD v2.toNat (0, [], 0, 0, [], [], ())).2.2.1, (v0.getD v2.toNat (0, [], 0, 0, [], [], ())).2.2.2.1, (v0.getD v2.toNat (0, [], 0, 0, [], [], ())).2.2.2.2.1, (v0.getD v2.toNat (0, [], 0, 0, [], [], ())).2.2.2.2.2.1, r.1.1, ())) fun e => esel e (fun v =>
 G15_6 k j (v.1, v.2.1, IntKind.i64.wrap (v.2.2.1 + 1), v.2.2.2.2.1, ())) fun e => some (Sum.inr (e.1, ()))))) (sel (decide (r.2.1.1 = 7)) (sel (decide (r.2.1.2.2.2.2.2.1 = [48, 48])) (sel (!decide (r_4.1.2.2.1 = 3)) (some (Sum.inr (false, ()))) (ocall (G15_22 k k (v0, v1, v2,
 0, v3, (v0.getD v2.toNat (0, [], 0, 0, [], [], ())).1, (v0.getD v2.toNat (0, [], 0, 0, [], [], ())).2.1, (v0.getD v2.toNat (0, [], 0, 0, [], [], ())).2.2.1, (v0.getD v2.toNat (0, [], 0, 0, [], [], ())).2.2.2.1, (v0.getD v2.toNat (0, [], 0, 0, [], [],
 ())).2.2.2.2.1, (v0.getD v2.toNat (0, [], 0, 0, [], [], ())).2.2.2.2.2.1, r.1.1, ())) fun e => esel e (fun v => G15_6 k j (v.1, v.2.1, IntKind.i64.wrap (v.2.2.1 + 1), v.2.2.2.2.1, ())) fun e => some (Sum.inr (e.1, ())))) (ocall (G15_22 k k (v0, v1, v2, 0, v3,
 (v0.getD v2.toNat (0, [], 0, 0, [], [], ())).1, (v0.getD v2.toNat (0, [], 0, 0, [], [], ())).2.1, (v0.getD v2.toNat (0, [], 0, 0, [], [], ())).2.2.1, (v0.getD v2.toNat (0, [], 0, 0, [], [], ())).2.2.2.1, (v0.getD v2.toNat (0, [], 0, 0, [], [], ())).2.2.2.2.1,
 (v0.getD v2.toNat (0, [], 0, 0, [], [], ())).2.2.2.2.2.1, r.1.1, ())) fun e => esel e (fun v => G15_6 k j (v.1, v.2.1, IntKind.i64.wrap (v.2.2.1 + 1), v.2.2.2.2.1, ())) fun e => some (Sum.inr (e.1, ())))) (ocall (G15_22 k k (v0, v1, v2, 0, v3, (v0.getD v2.toNat (0,
 [], 0, 0, [], [], ())).1, (v0.getD v2.toNat (0, [], 0, 0, [], [], ())).2.1, (v0.getD v2.toNat (0, [], 0, 0, [], [], ())).2.2.1, (v0.getD v2.toNat (0, [], 0, 0, [], [], ())).2.2.2.1, (v0.getD v2.toNat (0, [], 0, 0, [], [], ())).2.2.2.2.1, (v0.getD v2.toNat (0,
 [], 0, 0, [], [], ())).2.2.2.2.2.1, r.1.1, ())) fun e => esel e (fun v => G15_6 k j (v.1, v.2.1, IntKind.i64.wrap (v.2.2.1 + 1), v.2.2.2.2.1, ())) fun e => some (Sum.inr (e.1, ())))))) (sel (decide (r.2.1.1 = 2)) (sel (decide (r.2.1.2.2.2.2.2.1 = [48, 48])) (sel
 (!decide (r_4.1.2.2.1 = 1)) (some (Sum.inr (false, ()))) (sel (!decide (r_4.1.2.1 = (v0.getD v2.toNat (0, [], 0, 0, [], [], ())).2.2.1)) (some (Sum.inr (false, ()))) (sel (decide (r.2.1.1 = 7)) (sel (decide (r.2.1.2.2.2.2.2.1 = [48, 48])) (sel (!decide (r_4.1.2.2.1 = 3))
 (some (Sum.inr (false, ()))) (ocall (G15_22 k k (v0, v1, v2, 0, v3, (v0.getD v2.toNat (0, [], 0, 0, [], [], ())).1, (v0.getD v2.toNat (0, [], 0, 0, [], [], ())).2.1, (v0.getD v2.toNat (0, [], 0, 0, [], [], ())).2.2.1, (v0.getD v2.toNat (0, [], 0, 0, [], [],
 ())).2.2.2.1, (v0.getD v2.toNat (0, [], 0, 0, [], [], ())).2.2.2.2.1, (v0.getD v2.toNat (0, [], 0, 0, [], [], ())).2.2.2.2.2.1, r.1.1, ())) fun e => esel e (fun v => G15_6 k j (v.1, v.2.1, IntKind.i64.wrap (v.2.2.1 + 1), v.2.2.2.2.1, ())) fun e => some
 (Sum.inr (e.1, ())))) (ocall (G15_22 k k (v0, v1, v2, 0, v3, (v0.getD v2.toNat (0, [], 0, 0, [], [], ())).1, (v0.getD v2.toNat (0, [], 0, 0, [], [], ())).2.1, (v0.getD v2.toNat (0, [], 0, 0, [], [], ())).2.2.1, (v0.getD v2.toNat (0, [], 0, 0, [], [],
 ())).2.2.2.1, (v0.getD v2.toNat (0, [], 0, 0, [], [], ())).2.2.2.2.1, (v0.getD v2.toNat (0, [], 0, 0, [], [], ())).2.2.2.2.2.1, r.1.1, ())) fun e => esel e (fun v => G15_6 k j (v.1, v.2.1, IntKind.i64.wrap (v.2.2.1 + 1), v.2.2.2.2.1, ())) fun e => some
 (Sum.inr (e.1, ())))) (ocall (G15_22 k k (v0, v1, v2, 0, v3, (v0.getD v2.toNat (0, [], 0, 0, [], [], ())).1, (v0.getD v2.toNat (0, [], 0, 0, [], [], ())).2.1, (v0.getD v2.toNat (0, [], 0, 0, [], [], ())).2.2.1, (v0.getD v2.toNat (0, [], 0, 0, [], [],
 ())).2.2.2.1, (v0.getD v2.toNat (0, [], 0, 0, [], [], ())).2.2.2.2.1, (v0.getD v2.toNat (0, [], 0, 0, [], [], ())).2.2.2.2.2.1, r.1.1, ())) fun e => esel e (fun v => G15_6 k j (v.1, v.2.1, IntKind.i64.wrap (v.2.2.1 + 1), v.2.2.2.2.1, ())) fun e => some
 (Sum.inr (e.1, ())))))) (sel (decide (r.2.1.1 = 7)) (sel (decide (r.2.1.2.2.2.2.2.1 = [48, 48])) (sel (!decide (r_4.1.2.2.1 = 3)) (some (Sum.inr (false, ()))) (ocall (G15_22 k k (v0, v1, v2, 0, v3, (v0.getD v2.toNat (0, [], 0, 0, [], [], ())).1, (v0.getD v2.toNat (0, [], 0,
 0, [], [], ())).2.1, (v0.getD v2.toNat (0, [], 0, 0, [], [], ())).2.2.1, (v0.getD v2.toNat (0, [], 0, 0, [], [], ())).2.2.2.1, (v0.getD v2.toNat (0, [], 0, 0, [], [], ())).2.2.2.2.1, (v0.getD v2.toNat (0, [], 0, 0, [], [], ())).2.2.2.2.2.1, r.1.1, ()))
 fun e => esel e (fun v => G15_6 k j (v.1, v.2.1, IntKind.i64.wrap (v.2.2.1 + 1), v.2.2.2.2.1, ())) fun e => some (Sum.inr (e.1, ())))) (ocall (G15_22 k k (v0, v1, v2, 0, v3, (v0.getD v2.toNat (0, [], 0, 0, [], [], ())).1, (v0.getD v2.toNat (0, [], 0, 0, [], [],
 ())).2.1, (v0.getD v2.toNat (0, [], 0, 0, [], [], ())).2.2.1, (v0.getD v2.toNat (0, [], 0, 0, [], [], ())).2.2.2.1, (v0.getD v2.toNat (0, [], 0, 0, [], [], ())).2.2.2.2.1, (v0.getD v2.toNat (0, [], 0, 0, [], [], ())).2.2.2.2.2.1, r.1.1, ())) fun e =>
 esel e (fun v => G15_6 k j (v.1, v.2.1, IntKind.i64.wrap (v.2.2.1 + 1), v.2.2.2.2.1, ())) fun e => some (Sum.inr (e.1, ())))) (ocall (G15_22 k k (v0, v1, v2, 0, v3, (v0.getD v2.toNat (0, [], 0, 0, [], [], ())).1, (v0.getD v2.toNat (0, [], 0, 0, [], [], ())).2.1,
 (v0.getD v2.toNat (0, [], 0, 0, [], [], ())).2.2.1, (v0.getD v2.toNat (0, [], 0, 0, [], [], ())).2.2.2.1, (v0.getD v2.toNat (0, [], 0, 0, [], [], ())).2.2.2.2.1, (v0.getD v2.toNat (0, [], 0, 0, [], [], ())).2.2.2.2.2.1, r.1.1, ())) fun e => esel e (fun v =>
 G15_6 k j (v.1, v.2.1, IntKind.i64.wrap (v.2.2.1 + 1), v.2.2.2.2.1, ())) fun e => some (Sum.inr (e.1, ()))))) (sel (decide (r.2.1.1 = 7)) (sel (decide (r.2.1.2.2.2.2.2.1 = [48, 48])) (sel (!decide (r_4.1.2.2.1 = 3)) (some (Sum.inr (false, ()))) (ocall (G15_22 k k (v0, v1, v2,
 0, v3, (v0.getD v2.toNat (0, [], 0, 0, [], [], ())).1, (v0.getD v2.toNat (0, [], 0, 0, [], [], ())).2.1, (v0.getD v2.toNat (0, [], 0, 0, [], [], ())).2.2.1, (v0.getD v2.toNat (0, [], 0, 0, [], [], ())).2.2.2.1, (v0.getD v2.toNat (0, [], 0, 0, [], [],
 ())).2.2.2.2.1, (v0.getD v2.toNat (0, [], 0, 0, [], [], ())).2.2.2.2.2.1, r.1.1, ())) fun e => esel e (fun v => G15_6 k j (v.1, v.2.1, IntKind.i64.wrap (v.2.2.1 + 1), v.2.2.2.2.1, ())) fun e => some (Sum.inr (e.1, ())))) (ocall (G15_22 k k (v0, v1, v2, 0, v3,
 (v0.getD v2.toNat (0, [], 0, 0, [], [], ())).1, (v0.getD v2.toNat (0, [], 0, 0, [], [], ())).2.1, (v0.getD v2.toNat (0, [], 0, 0, [], [], ())).2.2.1, (v0.getD v2.toNat (0, [], 0, 0, [], [], ())).2.2.2.1, (v0.getD v2.toNat (0, [], 0, 0, [], [], ())).2.2.2.2.1,
 (v0.getD v2.toNat (0, [], 0, 0, [], [], ())).2.2.2.2.2.1, r.1.1, ())) fun e => esel e (fun v => G15_6 k j (v.1, v.2.1, IntKind.i64.wrap (v.2.2.1 + 1), v.2.2.2.2.1, ())) fun e => some (Sum.inr (e.1, ())))) (ocall (G15_22 k k (v0, v1, v2, 0, v3, (v0.getD v2.toNat (0,
 [], 0, 0, [], [], ())).1, (v0.getD v2.toNat (0, [], 0, 0, [], [], ())).2.1, (v0.getD v2.toNat (0, [], 0, 0, [], [], ())).2.2.1, (v0.getD v2.toNat (0, [], 0, 0, [], [], ())).2.2.2.1, (v0.getD v2.toNat (0, [], 0, 0, [], [], ())).2.2.2.2.1, (v0.getD v2.toNat (0,
 [], 0, 0, [], [], ())).2.2.2.2.2.1, r.1.1, ())) fun e => esel e (fun v => G15_6 k j (v.1, v.2.1, IntKind.i64.wrap (v.2.2.1 + 1), v.2.2.2.2.1, ())) fun e => some (Sum.inr (e.1, ()))))))) (sel (!r_2.2.1) (sel r_4.2.1 (sel (!decide (r_4.1.2.1 = (v0.getD v2.toNat (0, [],
 0, 0, [], [], ())).2.2.1)) (some (Sum.inr (false, ()))) (sel (decide (r.2.1.1 = 2)) (sel (decide (r.2.1.2.2.2.2.2.1 = [48, 48])) (sel (!decide (r_4.1.2.2.1 = 1)) (some (Sum.inr (false, ()))) (sel (!decide (r_4.1.2.1 = (v0.getD v2.toNat (0, [], 0, 0, [], [],
 ())).2.2.1)) (some (Sum.inr (false, ()))) (sel (decide (r.2.1.1 = 7)) (sel (decide (r.2.1.2.2.2.2.2.1 = [48, 48])) (sel (!decide (r_4.1.2.2.1 = 3)) (some (Sum.inr (false, ()))) (ocall (G15_22 k k (v0, v1, v2, 0, v3, (v0.getD v2.toNat (0, [], 0, 0, [], [], ())).1,
 (v0.getD v2.toNat (0, [], 0, 0, [], [], ())).2.1, (v0.getD v2.toNat (0, [], 0, 0, [], [], ())).2.2.1, (v0.getD v2.toNat (0, [], 0, 0, [], [], ())).2.2.2.1, (v0.getD v2.toNat (0, [], 0, 0, [], [], ())).2.2.2.2.1, (v0.getD v2.toNat (0, [], 0, 0, [], [],
 ())).2.2.2.2.2.1, r.1.1, ())) fun e => esel e (fun v => G15_6 k j (v.1, v.2.1, IntKind.i64.wrap (v.2.2.1 + 1), v.2.2.2.2.1, ())) fun e => some (Sum.inr (e.1, ())))) (ocall (G15_22 k k (v0, v1, v2, 0, v3, (v0.getD v2.toNat (0, [], 0, 0, [], [], ())).1, (v0.getD
 v2.toNat (0, [], 0, 0, [], [], ())).2.1, (v0.getD v2.toNat (0, [], 0, 0, [], [], ())).2.2.1, (v0.getD v2.toNat (0, [], 0, 0, [], [], ())).2.2.2.1, (v0.getD v2.toNat (0, [], 0, 0, [], [], ())).2.2.2.2.1, (v0.getD v2.toNat (0, [], 0, 0, [], [], ())).2.2.2.2.2.1,
 r.1.1, ())) fun e => esel e (fun v => G15_6 k j (v.1, v.2.1, IntKind.i64.wrap (v.2.2.1 + 1), v.2.2.2.2.1, ())) fun e => some (Sum.inr (e.1, ())))) (ocall (G15_22 k k (v0, v1, v2, 0, v3, (v0.getD v2.toNat (0, [], 0, 0, [], [], ())).1, (v0.getD v2.toNat (0, [], 0, 0,
 [], [], ())).2.1, (v0.getD v2.toNat (0, [], 0, 0, [], [], ())).2.2.1, (v0.getD v2.toNat (0, [], 0, 0, [], [], ())).2.2.2.1, (v0.getD v2.toNat (0, [], 0, 0, [], [], ())).2.2.2.2.1, (v0.getD v2.toNat (0, [], 0, 0, [], [], ())).2.2.2.2.2.1, r.1.1, ()))
 fun e => esel e (fun v => G15_6 k j (v.1, v.2.1, IntKind.i64.wrap (v.2.2.1 + 1), v.2.2.2.2.1, ())) fun e => some (Sum.inr (e.1, ())))))) (sel (decide (r.2.1.1 = 7)) (sel (decide (r.2.1.2.2.2.2.2.1 = [48, 48])) (sel (!decide (r_4.1.2.2.1 = 3)) (some (Sum.inr (false, ())))
 (ocall (G15_22 k k (v0, v1, v2, 0, v3, (v0.getD v2.toNat (0, [], 0, 0, [], [], ())).1, (v0.getD v2.toNat (0, [], 0, 0, [], [], ())).2.1, (v0.getD v2.toNat (0, [], 0, 0, [], [], ())).2.2.1, (v0.getD v2.toNat (0, [], 0, 0, [], [], ())).2.2.2.1, (v0.getD v2.toNat (0, [],
 0, 0, [], [], ())).2.2.2.2.1, (v0.getD v2.toNat (0, [], 0, 0, [], [], ())).2.2.2.2.2.1, r.1.1, ())) fun e => esel e (fun v => G15_6 k j (v.1, v.2.1, IntKind.i64.wrap (v.2.2.1 + 1), v.2.2.2.2.1, ())) fun e => some (Sum.inr (e.1, ())))) (ocall (G15_22 k k (v0,
 v1, v2, 0, v3, (v0.getD v2.toNat (0, [], 0, 0, [], [], ())).1, (v0.getD v2.toNat (0, [], 0, 0, [], [], ())).2.1, (v0.getD v2.toNat (0, [], 0, 0, [], [], ())).2.2.1, (v0.getD v2.toNat (0, [], 0, 0, [], [], ())).2.2.2.1, (v0.getD v2.toNat (0, [], 0, 0, [], [],
 ())).2.2.2.2.1, (v0.getD v2.toNat (0, [], 0, 0, [], [], ())).2.2.2.2.2.1, r.1.1, ())) fun e => esel e (fun v => G15_6 k j (v.1, v.2.1, IntKind.i64.wrap (v.2.2.1 + 1), v.2.2.2.2.1, ())) fun e => some (Sum.inr (e.1, ())))) (ocall (G15_22 k k (v0, v1, v2, 0, v3,
 (v0.getD v2.toNat (0, [], 0, 0, [], [], ())).1, (v0.getD v2.toNat (0, [], 0, 0, [], [], ())).2.1, (v0.getD v2.toNat (0, [], 0, 0, [], [], ())).2.2.1, (v0.getD v2.toNat (0, [], 0, 0, [], [], ())).2.2.2.1, (v0.getD v2.toNat (0, [], 0, 0, [], [], ())).2.2.2.2.1,
 (v0.getD v2.toNat (0, [], 0, 0, [], [], ())).2.2.2.2.2.1, r.1.1, ())) fun e => esel e (fun v => G15_6 k j (v.1, v.2.1, IntKind.i64.wrap (v.2.2.1 + 1), v.2.2.2.2.1, ())) fun e => some (Sum.inr (e.1, ()))))) (sel (decide (r.2.1.1 = 7)) (sel (decide (r.2.1.2.2.2.2.2.1 =
 [48, 48])) (sel (!decide (r_4.1.2.2.1 = 3)) (some (Sum.inr (false, ()))) (ocall (G15_22 k k (v0, v1, v2, 0, v3, (v0.getD v2.toNat (0, [], 0, 0, [], [], ())).1, (v0.getD v2.toNat (0, [], 0, 0, [], [], ())).2.1, (v0.getD v2.toNat (0, [], 0, 0, [], [], ())).2.2.1,
 (v0.getD v2.toNat (0, [], 0, 0, [], [], ())).2.2.2.1, (v0.getD v2.toNat (0, [], 0, 0, [], [], ())).2.2.2.2.1, (v0.getD v2.toNat (0, [], 0, 0, [], [], ())).2.2.2.2.2.1, r.1.1, ())) fun e => esel e (fun v => G15_6 k j (v.1, v.2.1, IntKind.i64.wrap (v.2.2.1 + 1),
 v.2.2.2.2.1, ())) fun e => some (Sum.inr (e.1, ())))) (ocall (G15_22 k k (v0, v1, v2, 0, v3, (v0.getD v2.toNat (0, [], 0, 0, [], [], ())).1, (v0.getD v2.toNat (0, [], 0, 0, [], [], ())).2.1, (v0.getD v2.toNat (0, [], 0, 0, [], [], ())).2.2.1, (v0.getD v2.toNat
 (0, [], 0, 0, [], [], ())).2.2.2.1, (v0.getD v2.toNat (0, [], 0, 0, [], [], ())).2.2.2.2.1, (v0.getD v2.toNat (0, [], 0, 0, [], [], ())).2.2.2.2.2.1, r.1.1, ())) fun e => esel e (fun v => G15_6 k j (v.1, v.2.1, IntKind.i64.wrap (v.2.2.1 + 1), v.2.2.2.2.1, ()))
 fun e => some (Sum.inr (e.1, ())))) (ocall (G15_22 k k (v0, v1, v2, 0, v3, (v0.getD v2.toNat (0, [], 0, 0, [], [], ())).1, (v0.getD v2.toNat (0, [], 0, 0, [], [], ())).2.1, (v0.getD v2.toNat (0, [], 0, 0, [], [], ())).2.2.1, (v0.getD v2.toNat (0, [], 0, 0, [], [],
 ())).2.2.2.1, (v0.getD v2.toNat (0, [], 0, 0, [], [], ())).2.2.2.2.1, (v0.getD v2.toNat (0, [], 0, 0, [], [], ())).2.2.2.2.2.1, r.1.1, ())) fun e => esel e (fun v => G15_6 k j (v.1, v.2.1, IntKind.i64.wrap (v.2.2.1 + 1), v.2.2.2.2.1, ())) fun e => some
 (Sum.inr (e.1, ())))))) (sel (decide (r.2.1.1 = 2)) (sel (decide (r.2.1.2.2.2.2.2.1 = [48, 48])) (sel (!decide (r_4.1.2.2.1 = 1)) (some (Sum.inr (false, ()))) (sel (!decide (r_4.1.2.1 = (v0.getD v2.toNat (0, [], 0, 0, [], [], ())).2.2.1)) (some (Sum.inr (false, ())))
 (sel (decide (r.2.1.1 = 7)) (sel (decide (r.2.1.2.2.2.2.2.1 = [48, 48])) (sel (!decide (r_4.1.2.2.1 = 3)) (some (Sum.inr (false, ()))) (ocall (G15_22 k k (v0, v1, v2, 0, v3, (v0.getD v2.toNat (0, [], 0, 0, [], [], ())).1, (v0.getD v2.toNat (0, [], 0, 0, [], [], ())).2.1,
 (v0.getD v2.toNat (0, [], 0, 0, [], [], ())).2.2.1, (v0.getD v2.toNat (0, [], 0, 0, [], [], ())).2.2.2.1, (v0.getD v2.toNat (0, [], 0, 0, [], [], ())).2.2.2.2.1, (v0.getD v2.toNat (0, [], 0, 0, [], [], ())).2.2.2.2.2.1, r.1.1, ())) fun e => esel e (fun v =>
 G15_6 k j (v.1, v.2.1, IntKind.i64.wrap (v.2.2.1 + 1), v.2.2.2.2.1, ())) fun e => some (Sum.inr (e.1, ())))) (ocall (G15_22 k k (v0, v1, v2, 0, v3, (v0.getD v2.toNat (0, [], 0, 0, [], [], ())).1, (v0.getD v2.toNat (0, [], 0, 0, [], [], ())).2.1, (v0.getD v2.toNat (0,
 [], 0, 0, [], [], ())).2.2.1, (v0.getD v2.toNat (0, [], 0, 0, [], [], ())).2.2.2.1, (v0.getD v2.toNat (0, [], 0, 0, [], [], ())).2.2.2.2.1, (v0.getD v2.toNat (0, [], 0, 0, [], [], ())).2.2.2.2.2.1, r.1.1, ())) fun e => esel e (fun v => G15_6 k j (v.1, v.2.1,
 IntKind.i64.wrap (v.2.2.1 + 1), v.2.2.2.2.1, ())) fun e => some (Sum.inr (e.1, ())))) (ocall (G15_22 k k (v0, v1, v2, 0, v3, (v0.getD v2.toNat (0, [], 0, 0, [], [], ())).1, (v0.getD v2.toNat (0, [], 0, 0, [], [], ())).2.1, (v0.getD v2.toNat (0, [], 0, 0, [], [],
 ())).2.2.1, (v0.getD v2.toNat (0, [], 0, 0, [], [], ())).2.2.2.1, (v0.getD v2.toNat (0, [], 0, 0, [], [], ())).2.2.2.2.1, (v0.getD v2.toNat (0, [], 0, 0, [], [], ())).2.2.2.2.2.1, r.1.1, ())) fun e => esel e (fun v => G15_6 k j (v.1, v.2.1, IntKind.i64.wrap
 (v.2.2.1 + 1), v.2.2.2.2.1, ())) fun e => some (Sum.inr (e.1, ())))))) (sel (decide (r.2.1.1 = 7)) (sel (decide (r.2.1.2.2.2.2.2.1 = [48, 48])) (sel (!decide (r_4.1.2.2.1 = 3)) (some (Sum.inr (false, ()))) (ocall (G15_22 k k (v0, v1, v2, 0, v3, (v0.getD v2.toNat (0, [], 0, 0,
 [], [], ())).1, (v0.getD v2.toNat (0, [], 0, 0, [], [], ())).2.1, (v0.getD v2.toNat (0, [], 0, 0, [], [], ())).2.2.1, (v0.getD v2.toNat (0, [], 0, 0, [], [], ())).2.2.2.1, (v0.getD v2.toNat (0, [], 0, 0, [], [], ())).2.2.2.2.1, (v0.getD v2.toNat (0, [], 0, 0,
 [], [], ())).2.2.2.2.2.1, r.1.1, ())) fun e => esel e (fun v => G15_6 k j (v.1, v.2.1, IntKind.i64.wrap (v.2.2.1 + 1), v.2.2.2.2.1, ())) fun e => some (Sum.inr (e.1, ())))) (ocall (G15_22 k k (v0, v1, v2, 0, v3, (v0.getD v2.toNat (0, [], 0, 0, [], [], ())).1,
 (v0.getD v2.toNat (0, [], 0, 0, [], [], ())).2.1, (v0.getD v2.toNat (0, [], 0, 0, [], [], ())).2.2.1, (v0.getD v2.toNat (0, [], 0, 0, [], [], ())).2.2.2.1, (v0.getD v2.toNat (0, [], 0, 0, [], [], ())).2.2.2.2.1, (v0.getD v2.toNat (0, [], 0, 0, [], [],
 ())).2.2.2.2.2.1, r.1.1, ())) fun e => esel e (fun v => G15_6 k j (v.1, v.2.1, IntKind.i64.wrap (v.2.2.1 + 1), v.2.2.2.2.1, ())) fun e => some (Sum.inr (e.1, ())))) (ocall (G15_22 k k (v0, v1, v2, 0, v3, (v0.getD v2.toNat (0, [], 0, 0, [], [], ())).1, (v0.getD
 v2.toNat (0, [], 0, 0, [], [], ())).2.1, (v0.getD v2.toNat (0, [], 0, 0, [], [], ())).2.2.1, (v0.getD v2.toNat (0, [], 0, 0, [], [], ())).2.2.2.1, (v0.getD v2.toNat (0, [], 0, 0, [], [], ())).2.2.2.2.1, (v0.getD v2.toNat (0, [], 0, 0, [], [], ())).2.2.2.2.2.1,
 r.1.1, ())) fun e => esel e (fun v => G15_6 k j (v.1, v.2.1, IntKind.i64.wrap (v.2.2.1 + 1), v.2.2.2.2.1, ())) fun e => some (Sum.inr (e.1, ()))))) (sel (decide (r.2.1.1 = 7)) (sel (decide (r.2.1.2.2.2.2.2.1 = [48, 48])) (sel (!decide (r_4.1.2.2.1 = 3)) (some (Sum.inr (false,
 ()))) (ocall (G15_22 k k (v0, v1, v2, 0, v3, (v0.getD v2.toNat (0, [], 0, 0, [], [], ())).1, (v0.getD v2.toNat (0, [], 0, 0, [], [], ())).2.1, (v0.getD v2.toNat (0, [], 0, 0, [], [], ())).2.2.1, (v0.getD v2.toNat (0, [], 0, 0, [], [], ())).2.2.2.1, (v0.getD
 v2.toNat (0, [], 0, 0, [], [], ())).2.2.2.2.1, (v0.getD v2.toNat (0, [], 0, 0, [], [], ())).2.2.2.2.2.1, r.1.1, ())) fun e => esel e (fun v => G15_6 k j (v.1, v.2.1, IntKind.i64.wrap (v.2.2.1 + 1), v.2.2.2.2.1, ())) fun e => some (Sum.inr (e.1, ())))) (ocall
 (G15_22 k k (v0, v1, v2, 0, v3, (v0.getD v2.toNat (0, [], 0, 0, [], [], ())).1, (v0.getD v2.toNat (0, [], 0, 0, [], [], ())).2.1, (v0.getD v2.toNat (0, [], 0, 0, [], [], ())).2.2.1, (v0.getD v2.toNat (0, [], 0, 0, [], [], ())).2.2.2.1, (v0.getD v2.toNat (0, [], 0, 0,
 [], [], ())).2.2.2.2.1, (v0.getD v2.toNat (0, [], 0, 0, [], [], ())).2.2.2.2.2.1, r.1.1, ())) fun e => esel e (fun v => G15_6 k j (v.1, v.2.1, IntKind.i64.wrap (v.2.2.1 + 1), v.2.2.2.2.1, ())) fun e => some (Sum.inr (e.1, ())))) (ocall (G15_22 k k (v0, v1, v2,
 0, v3, (v0.getD v2.toNat (0, [], 0, 0, [], [], ())).1, (v0.getD v2.toNat (0, [], 0, 0, [], [], ())).2.1, (v0.getD v2.toNat (0, [], 0, 0, [], [], ())).2.2.1, (v0.getD v2.toNat (0, [], 0, 0, [], [], ())).2.2.2.1, (v0.getD v2.toNat (0, [], 0, 0, [], [],
 ())).2.2.2.2.1, (v0.getD v2.toNat (0, [], 0, 0, [], [], ())).2.2.2.2.2.1, r.1.1, ())) fun e => esel e (fun v => G15_6 k j (v.1, v.2.1, IntKind.i64.wrap (v.2.2.1 + 1), v.2.2.2.2.1, ())) fun e => some (Sum.inr (e.1, ())))))) (sel (decide (r.2.1.1 = 2)) (sel
 (decide (r.2.1.2.2.2.2.2.1 = [48, 48])) (sel (!decide (r_4.1.2.2.1 = 1)) (some (Sum.inr (false, ()))) (sel (!decide (r_4.1.2.1 = (v0.getD v2.toNat (0, [], 0, 0, [], [], ())).2.2.1)) (some (Sum.inr (false, ()))) (sel (decide (r.2.1.1 = 7)) (sel (decide (r.2.1.2.2.2.2.2.1 =
 [48, 48])) (sel (!decide (r_4.1.2.2.1 = 3)) (some (Sum.inr (false, ()))) (ocall (G15_22 k k (v0, v1, v2, 0, v3, (v0.getD v2.toNat (0, [], 0, 0, [], [], ())).1, (v0.getD v2.toNat (0, [], 0, 0, [], [], ())).2.1, (v0.getD v2.toNat (0, [], 0, 0, [], [], ())).2.2.1,
 (v0.getD v2.toNat (0, [], 0, 0, [], [], ())).2.2.2.1, (v0.getD v2.toNat (0, [], 0, 0, [], [], ())).2.2.2.2.1, (v0.getD v2.toNat (0, [], 0, 0, [], [], ())).2.2.2.2.2.1, r.1.1, ())) fun e => esel e (fun v => G15_6 k j (v.1, v.2.1, IntKind.i64.wrap (v.2.2.1 + 1),
 v.2.2.2.2.1, ())) fun e => some (Sum.inr (e.1, ())))) (ocall (G15_22 k k (v0, v1, v2, 0, v3, (v0.getD v2.toNat (0, [], 0, 0, [], [], ())).1, (v0.getD v2.toNat (0, [], 0, 0, [], [], ())).2.1, (v0.getD v2.toNat (0, [], 0, 0, [], [], ())).2.2.1, (v0.getD v2.toNat
 (0, [], 0, 0, [], [], ())).2.2.2.1, (v0.getD v2.toNat (0, [], 0, 0, [], [], ())).2.2.2.2.1, (v0.getD v2.toNat (0, [], 0, 0, [], [], ())).2.2.2.2.2.1, r.1.1, ())) fun e => esel e (fun v => G15_6 k j (v.1, v.2.1, IntKind.i64.wrap (v.2.2.1 + 1), v.2.2.2.2.1, ()))
 fun e => some (Sum.inr (e.1, ())))) (ocall (G15_22 k k (v0, v1, v2, 0, v3, (v0.getD v2.toNat (0, [], 0, 0, [], [], ())).1, (v0.getD v2.toNat (0, [], 0, 0, [], [], ())).2.1, (v0.getD v2.toNat (0, [], 0, 0, [], [], ())).2.2.1, (v0.getD v2.toNat (0, [], 0, 0, [], [],
 ())).2.2.2.1, (v0.getD v2.toNat (0, [], 0, 0, [], [], ())).2.2.2.2.1, (v0.getD v2.toNat (0, [], 0, 0, [], [], ())).2.2.2.2.2.1, r.1.1, ())) fun e => esel e (fun v => G15_6 k j (v.1, v.2.1, IntKind.i64.wrap (v.2.2.1 + 1), v.2.2.2.2.1, ())) fun e => some
 (Sum.inr (e.1, ())))))) (sel (decide (r.2.1.1 = 7)) (sel (decide (r.2.1.2.2.2.2.2.1 = [48, 48])) (sel (!decide (r_4.1.2.2.1 = 3)) (some (Sum.inr (false, ()))) (ocall (G15_22 k k (v0, v1, v2, 0, v3, (v0.getD v2.toNat (0, [], 0, 0, [], [], ())).1, (v0.getD v2.toNat (0, [], 0,
 0, [], [], ())).2.1, (v0.getD v2.toNat (0, [], 0, 0, [], [], ())).2.2.1, (v0.getD v2.toNat (0, [], 0, 0, [], [], ())).2.2.2.1, (v0.getD v2.toNat (0, [], 0, 0, [], [], ())).2.2.2.2.1, (v0.getD v2.toNat (0, [], 0, 0, [], [], ())).2.2.2.2.2.1, r.1.1, ()))
 fun e => esel e (fun v => G15_6 k j (v.1, v.2.1, IntKind.i64.wrap (v.2.2.1 + 1), v.2.2.2.2.1, ())) fun e => some (Sum.inr (e.1, ())))) (ocall (G15_22 k k (v0, v1, v2, 0, v3, (v0.getD v2.toNat (0, [], 0, 0, [], [], ())).1, (v0.getD v2.toNat (0, [], 0, 0, [], [],
 ())).2.1, (v0.getD v2.toNat (0, [], 0, 0, [], [], ())).2.2.1, (v0.getD v2.toNat (0, [], 0, 0, [], [], ())).2.2.2.1, (v0.getD v2.toNat (0, [], 0, 0, [], [], ())).2.2.2.2.1, (v0.getD v2.toNat (0, [], 0, 0, [], [], ())).2.2.2.2.2.1, r.1.1, ())) fun e =>
 esel e (fun v => G15_6 k j (v.1, v.2.1, IntKind.i64.wrap (v.2.2.1 + 1), v.2.2.2.2.1, ())) fun e => some (Sum.inr (e.1, ())))) (ocall (G15_22 k k (v0, v1, v2, 0, v3, (v0.getD v2.toNat (0, [], 0, 0, [], [], ())).1, (v0.getD v2.toNat (0, [], 0, 0, [], [], ())).2.1,
 (v0.getD v2.toNat (0, [], 0, 0, [], [], ())).2.2.1, (v0.getD v2.toNat (0, [], 0, 0, [], [], ())).2.2.2.1, (v0.getD v2.toNat (0, [], 0, 0, [], [], ())).2.2.2.2.1, (v0.getD v2.toNat (0, [], 0, 0, [], [], ())).2.2.2.2.2.1, r.1.1, ())) fun e => esel e (fun v =>
 G15_6 k j (v.1, v.2.1, IntKind.i64.wrap (v.2.2.1 + 1), v.2.2.2.2.1, ())) fun e => some (Sum.inr (e.1, ()))))) (sel (decide (r.2.1.1 = 7)) (sel (decide (r.2.1.2.2.2.2.2.1 = [48, 48])) (sel (!decide (r_4.1.2.2.1 = 3)) (some (Sum.inr (false, ()))) (ocall (G15_22 k k (v0, v1, v2,
 0, v3, (v0.getD v2.toNat (0, [], 0, 0, [], [], ())).1, (v0.getD v2.toNat (0, [], 0, 0, [], [], ())).2.1, (v0.getD v2.toNat (0, [], 0, 0, [], [], ())).2.2.1, (v0.getD v2.toNat (0, [], 0, 0, [], [], ())).2.2.2.1, (v0.getD v2.toNat (0, [], 0, 0, [], [],
 ())).2.2.2.2.1, (v0.getD v2.toNat (0, [], 0, 0, [], [], ())).2.2.2.2.2.1, r.1.1, ())) fun e => esel e (fun v => G15_6 k j (v.1, v.2.1, IntKind.i64.wrap (v.2.2.1 + 1), v.2.2.2.2.1, ())) fun e => some (Sum.inr (e.1, ())))) (ocall (G15_22 k k (v0, v1, v2, 0, v3,
 (v0.getD v2.toNat (0, [], 0, 0, [], [], ())).1, (v0.getD v2.toNat (0, [], 0, 0, [], [], ())).2.1, (v0.getD v2.toNat (0, [], 0, 0, [], [], ())).2.2.1, (v0.getD v2.toNat (0, [], 0, 0, [], [], ())).2.2.2.1, (v0.getD v2.toNat (0, [], 0, 0, [], [], ())).2.2.2.2.1,
 (v0.getD v2.toNat (0, [], 0, 0, [], [], ())).2.2.2.2.2.1, r.1.1, ())) fun e => esel e (fun v => G15_6 k j (v.1, v.2.1, IntKind.i64.wrap (v.2.2.1 + 1), v.2.2.2.2.1, ())) fun e => some (Sum.inr (e.1, ())))) (ocall (G15_22 k k (v0, v1, v2, 0, v3, (v0.getD v2.toNat (0,
 [], 0, 0, [], [], ())).1, (v0.getD v2.toNat (0, [], 0, 0, [], [], ())).2.1, (v0.getD v2.toNat (0, [], 0, 0, [], [], ())).2.2.1, (v0.getD v2.toNat (0, [], 0, 0, [], [], ())).2.2.2.1, (v0.getD v2.toNat (0, [], 0, 0, [], [], ())).2.2.2.2.1, (v0.getD v2.toNat (0,
 [], 0, 0, [], [], ())).2.2.2.2.2.1, r.1.1, ())) fun e => esel e (fun v => G15_6 k j (v.1, v.2.1, IntKind.i64.wrap (v.2.2.1 + 1), v.2.2.2.2.1, ())) fun e => some (Sum.inr (e.1, ()))))))))) (sel (!r_2.2.1) (sel r_4.2.1 (sel (!decide (r_4.1.2.1 = (v0.getD v2.toNat (0,
 [], 0, 0, [], [], ())).2.2.1)) (some (Sum.inr (false, ()))) (sel (decide (r.2.1.1 = 2)) (sel (decide (r.2.1.2.2.2.2.2.1 = [48, 48])) (sel (!decide (r_4.1.2.2.1 = 1)) (some (Sum.inr (false, ()))) (sel (!decide (r_4.1.2.1 = (v0.getD v2.toNat (0, [], 0, 0, [], [],
 ())).2.2.1)) (some (Sum.inr (false, ()))) (sel (decide (r.2.1.1 = 7)) (sel (decide (r.2.1.2.2.2.2.2.1 = [48, 48])) (sel (!decide (r_4.1.2.2.1 = 3)) (some (Sum.inr (false, ()))) (ocall (G15_22 k k (v0, v1, v2, 0, v3, (v0.getD v2.toNat (0, [], 0, 0, [], [], ())).1,
 (v0.getD v2.toNat (0, [], 0, 0, [], [], ())).2.1, (v0.getD v2.toNat (0, [], 0, 0, [], [], ())).2.2.1, (v0.getD v2.toNat (0, [], 0, 0, [], [], ())).2.2.2.1, (v0.getD v2.toNat (0, [], 0, 0, [], [], ())).2.2.2.2.1, (v0.getD v2.toNat (0, [], 0, 0, [], [],
 ())).2.2.2.2.2.1, r.1.1, ())) fun e => esel e (fun v => G15_6 k j (v.1, v.2.1, IntKind.i64.wrap (v.2.2.1 + 1), v.2.2.2.2.1, ())) fun e => some (Sum.inr (e.1, ())))) (ocall (G15_22 k k (v0, v1, v2, 0, v3, (v0.getD v2.toNat (0, [], 0, 0, [], [], ())).1, (v0.getD
 v2.toNat (0, [], 0, 0, [], [], ())).2.1, (v0.getD v2.toNat (0, [], 0, 0, [], [], ())).2.2.1, (v0.getD v2.toNat (0, [], 0, 0, [], [], ())).2.2.2.1, (v0.getD v2.toNat (0, [], 0, 0, [], [], ())).2.2.2.2.1, (v0.getD v2.toNat (0, [], 0, 0, [], [], ())).2.2.2.2.2.1,
 r.1.1, ())) fun e => esel e (fun v => G15_6 k j (v.1, v.2.1, IntKind.i64.wrap (v.2.2.1 + 1), v.2.2.2.2.1, ())) fun e => some (Sum.inr (e.1, ())))) (ocall (G15_22 k k (v0, v1, v2, 0, v3, (v0.getD v2.toNat (0, [], 0, 0, [], [], ())).1, (v0.getD v2.toNat (0, [], 0, 0,
 [], [], ())).2.1, (v0.getD v2.toNat (0, [], 0, 0, [], [], ())).2.2.1, (v0.getD v2.toNat (0, [], 0, 0, [], [], ())).2.2.2.1, (v0.getD v2.toNat (0, [], 0, 0, [], [], ())).2.2.2.2.1, (v0.getD v2.toNat (0, [], 0, 0, [], [], ())).2.2.2.2.2.1, r.1.1, ()))
 fun e => esel e (fun v => G15_6 k j (v.1, v.2.1, IntKind.i64.wrap (v.2.2.1 + 1), v.2.2.2.2.1, ())) fun e => some (Sum.inr (e.1, ())))))) (sel (decide (r.2.1.1 = 7)) (sel (decide (r.2.1.2.2.2.2.2.1 = [48, 48])) (sel (!decide (r_4.1.2.2.1 = 3)) (some (Sum.inr (false, ())))
 (ocall (G15_22 k k (v0, v1, v2, 0, v3, (v0.getD v2.toNat (0, [], 0, 0, [], [], ())).1, (v0.getD v2.toNat (0, [], 0, 0, [], [], ())).2.1, (v0.getD v2.toNat (0, [], 0, 0, [], [], ())).2.2.1, (v0.getD v2.toNat (0, [], 0, 0, [], [], ())).2.2.2.1, (v0.getD v2.toNat (0, [],
 0, 0, [], [], ())).2.2.2.2.1, (v0.getD v2.toNat (0, [], 0, 0, [], [], ())).2.2.2.2.2.1, r.1.1, ())) fun e => esel e (fun v => G15_6 k j (v.1, v.2.1, IntKind.i64.wrap (v.2.2.1 + 1), v.2.2.2.2.1, ())) fun e => some (Sum.inr (e.1, ())))) (ocall (G15_22 k k (v0,
 v1, v2, 0, v3, (v0.getD v2.toNat (0, [], 0, 0, [], [], ())).1, (v0.getD v2.toNat (0, [], 0, 0, [], [], ())).2.1, (v0.getD v2.toNat (0, [], 0, 0, [], [], ())).2.2.1, (v0.getD v2.toNat (0, [], 0, 0, [], [], ())).2.2.2.1, (v0.getD v2.toNat (0, [], 0, 0, [], [],
 ())).2.2.2.2.1, (v0.getD v2.toNat (0, [], 0, 0, [], [], ())).2.2.2.2.2.1, r.1.1, ())) fun e => esel e (fun v => G15_6 k j (v.1, v.2.1, IntKind.i64.wrap (v.2.2.1 + 1), v.2.2.2.2.1, ())) fun e => some (Sum.inr (e.1, ())))) (ocall (G15_22 k k (v0, v1, v2, 0, v3,
 (v0.getD v2.toNat (0, [], 0, 0, [], [], ())).1, (v0.getD v2.toNat (0, [], 0, 0, [], [], ())).2.1, (v0.getD v2.toNat (0, [], 0, 0, [], [], ())).2.2.1, (v0.getD v2.toNat (0, [], 0, 0, [], [], ())).2.2.2.1, (v0.getD v2.toNat (0, [], 0, 0, [], [], ())).2.2.2.2.1,
 (v0.getD v2.toNat (0, [], 0, 0, [], [], ())).2.2.2.2.2.1, r.1.1, ())) fun e => esel e (fun v => G15_6 k j (v.1, v.2.1, IntKind.i64.wrap (v.2.2.1 + 1), v.2.2.2.2.1, ())) fun e => some (Sum.inr (e.1, ()))))) (sel (decide (r.2.1.1 = 7)) (sel (decide (r.2.1.2.2.2.2.2.1 =
 [48, 48])) (sel (!decide (r_4.1.2.2.1 = 3)) (some (Sum.inr (false, ()))) (ocall (G15_22 k k (v0, v1, v2, 0, v3, (v0.getD v2.toNat (0, [], 0, 0, [], [], ())).1, (v0.getD v2.toNat (0, [], 0, 0, [], [], ())).2.1, (v0.getD v2.toNat (0, [], 0, 0, [], [], ())).2.2.1,
 (v0.getD v2.toNat (0, [], 0, 0, [], [], ())).2.2.2.1, (v0.getD v2.toNat (0, [], 0, 0, [], [], ())).2.2.2.2.1, (v0.getD v2.toNat (0, [], 0, 0, [], [], ())).2.2.2.2.2.1, r.1.1, ())) fun e => esel e (fun v => G15_6 k j (v.1, v.2.1, IntKind.i64.wrap (v.2.2.1 + 1),
 v.2.2.2.2.1, ())) fun e => some (Sum.inr (e.1, ())))) (ocall (G15_22 k k (v0, v1, v2, 0, v3, (v0.getD v2.toNat (0, [], 0, 0, [], [], ())).1, (v0.getD v2.toNat (0, [], 0, 0, [], [], ())).2.1, (v0.getD v2.toNat (0, [], 0, 0, [], [], ())).2.2.1, (v0.getD v2.toNat
 (0, [], 0, 0, [], [], ())).2.2.2.1, (v0.getD v2.toNat (0, [], 0, 0, [], [], ())).2.2.2.2.1, (v0.getD v2.toNat (0, [], 0, 0, [], [], ())).2.2.2.2.2.1, r.1.1, ())) fun e => esel e (fun v => G15_6 k j (v.1, v.2.1, IntKind.i64.wrap (v.2.2.1 + 1), v.2.2.2.2.1, ()))
 fun e => some (Sum.inr (e.1, ())))) (ocall (G15_22 k k (v0, v1, v2, 0, v3, (v0.getD v2.toNat (0, [], 0, 0, [], [], ())).1, (v0.getD v2.toNat (0, [], 0, 0, [], [], ())).2.1, (v0.getD v2.toNat (0, [], 0, 0, [], [], ())).2.2.1, (v0.getD v2.toNat (0, [], 0, 0, [], [],
 ())).2.2.2.1, (v0.getD v2.toNat (0, [], 0, 0, [], [], ())).2.2.2.2.1, (v0.getD v2.toNat (0, [], 0, 0, [], [], ())).2.2.2.2.2.1, r.1.1, ())) fun e => esel e (fun v => G15_6 k j (v.1, v.2.1, IntKind.i64.wrap (v.2.2.1 + 1), v.2.2.2.2.1, ())) fun e => some
 (Sum.inr (e.1, ())))))) (sel (decide (r.2.1.1 = 2)) (sel (decide (r.2.1.2.2.2.2.2.1 = [48, 48])) (sel (!decide (r_4.1.2.2.1 = 1)) (some (Sum.inr (false, ()))) (sel (!decide (r_4.1.2.1 = (v0.getD v2.toNat (0, [], 0, 0, [], [], ())).2.2.1)) (some (Sum.inr (false, ())))
 (sel (decide (r.2.1.1 = 7)) (sel (decide (r.2.1.2.2.2.2.2.1 = [48, 48])) (sel (!decide (r_4.1.2.2.1 = 3)) (some (Sum.inr (false, ()))) (ocall (G15_22 k k (v0, v1, v2, 0, v3, (v0.getD v2.toNat (0, [], 0, 0, [], [], ())).1, (v0.getD v2.toNat (0, [], 0, 0, [], [], ())).2.1,
 (v0.getD v2.toNat (0, [], 0, 0, [], [], ())).2.2.1, (v0.getD v2.toNat (0, [], 0, 0, [], [], ())).2.2.2.1, (v0.getD v2.toNat (0, [], 0, 0, [], [], ())).2.2.2.2.1, (v0.getD v2.toNat (0, [], 0, 0, [], [], ())).2.2.2.2.2.1, r.1.1, ())) fun e => esel e (fun v =>
 G15_6 k j (v.1, v.2.1, IntKind.i64.wrap (v.2.2.1 + 1), v.2.2.2.2.1, ())) fun e => some (Sum.inr (e.1, ())))) (ocall (G15_22 k k (v0, v1, v2, 0, v3, (v0.getD v2.toNat (0, [], 0, 0, [], [], ())).1, (v0.getD v2.toNat (0, [], 0, 0, [], [], ())).2.1, (v0.getD v2.toNat (0,
 [], 0, 0, [], [], ())).2.2.1, (v0.getD v2.toNat (0, [], 0, 0, [], [], ())).2.2.2.1, (v0.getD v2.toNat (0, [], 0, 0, [], [], ())).2.2.2.2.1, (v0.getD v2.toNat (0, [], 0, 0, [], [], ())).2.2.2.2.2.1, r.1.1, ())) fun e => esel e (fun v => G15_6 k j (v.1, v.2.1,
 IntKind.i64.wrap (v.2.2.1 + 1), v.2.2.2.2.1, ())) fun e => some (Sum.inr (e.1, ())))) (ocall (G15_22 k k (v0, v1, v2, 0, v3, (v0.getD v2.toNat (0, [], 0, 0, [], [], ())).1, (v0.getD v2.toNat (0, [], 0, 0, [], [], ())).2.1, (v0.getD v2.toNat (0, [], 0, 0, [], [],
 ())).2.2.1, (v0.getD v2.toNat (0, [], 0, 0, [], [], ())).2.2.2.1, (v0.getD v2.toNat (0, [], 0, 0, [], [], ())).2.2.2.2.1, (v0.getD v2.toNat (0, [], 0, 0, [], [], ())).2.2.2.2.2.1, r.1.1, ())) fun e => esel e (fun v => G15_6 k j (v.1, v.2.1, IntKind.i64.wrap
 (v.2.2.1 + 1), v.2.2.2.2.1, ())) fun e => some (Sum.inr (e.1, ())))))) (sel (decide (r.2.1.1 = 7)) (sel (decide (r.2.1.2.2.2.2.2.1 = [48, 48])) (sel (!decide (r_4.1.2.2.1 = 3)) (some (Sum.inr (false, ()))) (ocall (G15_22 k k (v0, v1, v2, 0, v3, (v0.getD v2.toNat (0, [], 0, 0,
 [], [], ())).1, (v0.getD v2.toNat (0, [], 0, 0, [], [], ())).2.1, (v0.getD v2.toNat (0, [], 0, 0, [], [], ())).2.2.1, (v0.getD v2.toNat (0, [], 0, 0, [], [], ())).2.2.2.1, (v0.getD v2.toNat (0, [], 0, 0, [], [], ())).2.2.2.2.1, (v0.getD v2.toNat (0, [], 0, 0,
 [], [], ())).2.2.2.2.2.1, r.1.1, ())) fun e => esel e (fun v => G15_6 k j (v.1, v.2.1, IntKind.i64.wrap (v.2.2.1 + 1), v.2.2.2.2.1, ())) fun e => some (Sum.inr (e.1, ())))) (ocall (G15_22 k k (v0, v1, v2, 0, v3, (v0.getD v2.toNat (0, [], 0, 0, [], [], ())).1,
 (v0.getD v2.toNat (0, [], 0, 0, [], [], ())).2.1, (v0.getD v2.toNat (0, [], 0, 0, [], [], ())).2.2.1, (v0.getD v2.toNat (0, [], 0, 0, [], [], ())).2.2.2.1, (v0.getD v2.toNat (0, [], 0, 0, [], [], ())).2.2.2.2.1, (v0.getD v2.toNat (0, [], 0, 0, [], [],
 ())).2.2.2.2.2.1, r.1.1, ())) fun e => esel e (fun v => G15_6 k j (v.1, v.2.1, IntKind.i64.wrap (v.2.2.1 + 1), v.2.2.2.2.1, ())) fun e => some (Sum.inr (e.1, ())))) (ocall (G15_22 k k (v0, v1, v2, 0, v3, (v0.getD v2.toNat (0, [], 0, 0, [], [], ())).1, (v0.getD
 v2.toNat (0, [], 0, 0, [], [], ())).2.1, (v0.getD v2.toNat (0, [], 0, 0, [], [], ())).2.2.1, (v0.getD v2.toNat (0, [], 0, 0, [], [], ())).2.2.2.1, (v0.getD v2.toNat (0, [], 0, 0, [], [], ())).2.2.2.2.1, (v0.getD v2.toNat (0, [], 0, 0, [], [], ())).2.2.2.2.2.1,
 r.1.1, ())) fun e => esel e (fun v => G15_6 k j (v.1, v.2.1, IntKind.i64.wrap (v.2.2.1 + 1), v.2.2.2.2.1, ())) fun e => some (Sum.inr (e.1, ()))))) (sel (decide (r.2.1.1 = 7)) (sel (decide (r.2.1.2.2.2.2.2.1 = [48, 48])) (sel (!decide (r_4.1.2.2.1 = 3)) (some (Sum.inr (false,
 ()))) (ocall (G15_22 k k (v0, v1, v2, 0, v3, (v0.getD v2.toNat (0, [], 0, 0, [], [], ())).1, (v0.getD v2.toNat (0, [], 0, 0, [], [], ())).2.1, (v0.getD v2.toNat (0, [], 0, 0, [], [], ())).2.2.1, (v0.getD v2.toNat (0, [], 0, 0, [], [], ())).2.2.2.1, (v0.getD
 v2.toNat (0, [], 0, 0, [], [], ())).2.2.2.2.1, (v0.getD v2.toNat (0, [], 0, 0, [], [], ())).2.2.2.2.2.1, r.1.1, ())) fun e => esel e (fun v => G15_6 k j (v.1, v.2.1, IntKind.i64.wrap (v.2.2.1 + 1), v.2.2.2.2.1, ())) fun e => some (Sum.inr (e.1, ())))) (ocall
 (G15_22 k k (v0, v1, v2, 0, v3, (v0.getD v2.toNat (0, [], 0, 0, [], [], ())).1, (v0.getD v2.toNat (0, [], 0, 0, [], [], ())).2.1, (v0.getD v2.toNat (0, [], 0, 0, [], [], ())).2.2.1, (v0.getD v2.toNat (0, [], 0, 0, [], [], ())).2.2.2.1, (v0.getD v2.toNat (0, [], 0, 0,
 [], [], ())).2.2.2.2.1, (v0.getD v2.toNat (0, [], 0, 0, [], [], ())).2.2.2.2.2.1, r.1.1, ())) fun e => esel e (fun v => G15_6 k j (v.1, v.2.1, IntKind.i64.wrap (v.2.2.1 + 1), v.2.2.2.2.1, ())) fun e => some (Sum.inr (e.1, ())))) (ocall (G15_22 k k (v0, v1, v2,
 0, v3, (v0.getD v2.toNat (0, [], 0, 0, [], [], ())).1, (v0.getD v2.toNat (0, [], 0, 0, [], [], ())).2.1, (v0.getD v2.toNat (0, [], 0, 0, [], [], ())).2.2.1, (v0.getD v2.toNat (0, [], 0, 0, [], [], ())).2.2.2.1, (v0.getD v2.toNat (0, [], 0, 0, [], [],
 ())).2.2.2.2.1, (v0.getD v2.toNat (0, [], 0, 0, [], [], ())).2.2.2.2.2.1, r.1.1, ())) fun e => esel e (fun v => G15_6 k j (v.1, v.2.1, IntKind.i64.wrap (v.2.2.1 + 1), v.2.2.2.2.1, ())) fun e => some (Sum.inr (e.1, ())))))) (sel (decide (r.2.1.1 = 2)) (sel
 (decide (r.2.1.2.2.2.2.2.1 = [48, 48])) (sel (!decide (r_4.1.2.2.1 = 1)) (some (Sum.inr (false, ()))) (sel (!decide (r_4.1.2.1 = (v0.getD v2.toNat (0, [], 0, 0, [], [], ())).2.2.1)) (some (Sum.inr (false, ()))) (sel (decide (r.2.1.1 = 7)) (sel (decide (r.2.1.2.2.2.2.2.1 =
 [48, 48])) (sel (!decide (r_4.1.2.2.1 = 3)) (some (Sum.inr (false, ()))) (ocall (G15_22 k k (v0, v1, v2, 0, v3, (v0.getD v2.toNat (0, [], 0, 0, [], [], ())).1, (v0.getD v2.toNat (0, [], 0, 0, [], [], ())).2.1, (v0.getD v2.toNat (0, [], 0, 0, [], [], ())).2.2.1,
 (v0.getD v2.toNat (0, [], 0, 0, [], [], ())).2.2.2.1, (v0.getD v2.toNat (0, [], 0, 0, [], [], ())).2.2.2.2.1, (v0.getD v2.toNat (0, [], 0, 0, [], [], ())).2.2.2.2.2.1, r.1.1, ())) fun e => esel e (fun v => G15_6 k j (v.1, v.2.1, IntKind.i64.wrap (v.2.2.1 + 1),
 v.2.2.2.2.1, ())) fun e => some (Sum.inr (e.1, ())))) (ocall (G15_22 k k (v0, v1, v2, 0, v3, (v0.getD v2.toNat (0, [], 0, 0, [], [], ())).1, (v0.getD v2.toNat (0, [], 0, 0, [], [], ())).2.1, (v0.getD v2.toNat (0, [], 0, 0, [], [], ())).2.2.1, (v0.getD v2.toNat
 (0, [], 0, 0, [], [], ())).2.2.2.1, (v0.getD v2.toNat (0, [], 0, 0, [], [], ())).2.2.2.2.1, (v0.getD v2.toNat (0, [], 0, 0, [], [], ())).2.2.2.2.2.1, r.1.1, ())) fun e => esel e (fun v => G15_6 k j (v.1, v.2.1, IntKind.i64.wrap (v.2.2.1 + 1), v.2.2.2.2.1, ()))
 fun e => some (Sum.inr (e.1, ())))) (ocall (G15_22 k k (v0, v1, v2, 0, v3, (v0.getD v2.toNat (0, [], 0, 0, [], [], ())).1, (v0.getD v2.toNat (0, [], 0, 0, [], [], ())).2.1, (v0.getD v2.toNat (0, [], 0, 0, [], [], ())).2.2.1, (v0.getD v2.toNat (0, [], 0, 0, [], [],
 ())).2.2.2.1, (v0.getD v2.toNat (0, [], 0, 0, [], [], ())).2.2.2.2.1, (v0.getD v2.toNat (0, [], 0, 0, [], [], ())).2.2.2.2.2.1, r.1.1, ())) fun e => esel e (fun v => G15_6 k j (v.1, v.2.1, IntKind.i64.wrap (v.2.2.1 + 1), v.2.2.2.2.1, ())) fun e => some
 (Sum.inr (e.1, ())))))) (sel (decide (r.2.1.1 = 7)) (sel (decide (r.2.1.2.2.2.2.2.1 = [48, 48])) (sel (!decide (r_4.1.2.2.1 = 3)) (some (Sum.inr (false, ()))) (ocall (G15_22 k k (v0, v1, v2, 0, v3, (v0.getD v2.toNat (0, [], 0, 0, [], [], ())).1, (v0.getD v2.toNat (0, [], 0,
 0, [], [], ())).2.1, (v0.getD v2.toNat (0, [], 0, 0, [], [], ())).2.2.1, (v0.getD v2.toNat (0, [], 0, 0, [], [], ())).2.2.2.1, (v0.getD v2.toNat (0, [], 0, 0, [], [], ())).2.2.2.2.1, (v0.getD v2.toNat (0, [], 0, 0, [], [], ())).2.2.2.2.2.1, r.1.1, ()))
 fun e => esel e (fun v => G15_6 k j (v.1, v.2.1, IntKind.i64.wrap (v.2.2.1 + 1), v.2.2.2.2.1, ())) fun e => some (Sum.inr (e.1, ())))) (ocall (G15_22 k k (v0, v1, v2, 0, v3, (v0.getD v2.toNat (0, [], 0, 0, [], [], ())).1, (v0.getD v2.toNat (0, [], 0, 0, [], [],
 ())).2.1, (v0.getD v2.toNat (0, [], 0, 0, [], [], ())).2.2.1, (v0.getD v2.toNat (0, [], 0, 0, [], [], ())).2.2.2.1, (v0.getD v2.toNat (0, [], 0, 0, [], [], ())).2.2.2.2.1, (v0.getD v2.toNat (0, [], 0, 0, [], [], ())).2.2.2.2.2.1, r.1.1, ())) fun e =>
 esel e (fun v => G15_6 k j (v.1, v.2.1, IntKind.i64.wrap (v.2.2.1 + 1), v.2.2.2.2.1, ())) fun e => some (Sum.inr (e.1, ())))) (ocall (G15_22 k k (v0, v1, v2, 0, v3, (v0.getD v2.toNat (0, [], 0, 0, [], [], ())).1, (v0.getD v2.toNat (0, [], 0, 0, [], [], ())).2.1,
 (v0.getD v2.toNat (0, [], 0, 0, [], [], ())).2.2.1, (v0.getD v2.toNat (0, [], 0, 0, [], [], ())).2.2.2.1, (v0.getD v2.toNat (0, [], 0, 0, [], [], ())).2.2.2.2.1, (v0.getD v2.toNat (0, [], 0, 0, [], [], ())).2.2.2.2.2.1, r.1.1, ())) fun e => esel e (fun v =>
 G15_6 k j (v.1, v.2.1, IntKind.i64.wrap (v.2.2.1 + 1), v.2.2.2.2.1, ())) fun e => some (Sum.inr (e.1, ()))))) (sel (decide (r.2.1.1 = 7)) (sel (decide (r.2.1.2.2.2.2.2.1 = [48, 48])) (sel (!decide (r_4.1.2.2.1 = 3)) (some (Sum.inr (false, ()))) (ocall (G15_22 k k (v0, v1, v2,
 0, v3, (v0.getD v2.toNat (0, [], 0, 0, [], [], ())).1, (v0.getD v2.toNat (0, [], 0, 0, [], [], ())).2.1, (v0.getD v2.toNat (0, [], 0, 0, [], [], ())).2.2.1, (v0.getD v2.toNat (0, [], 0, 0, [], [], ())).2.2.2.1, (v0.getD v2.toNat (0, [], 0, 0, [], [],
 ())).2.2.2.2.1, (v0.getD v2.toNat (0, [], 0, 0, [], [], ())).2.2.2.2.2.1, r.1.1, ())) fun e => esel e (fun v => G15_6 k j (v.1, v.2.1, IntKind.i64.wrap (v.2.2.1 + 1), v.2.2.2.2.1, ())) fun e => some (Sum.inr (e.1, ())))) (ocall (G15_22 k k (v0, v1, v2, 0, v3,
 (v0.getD v2.toNat (0, [], 0, 0, [], [], ())).1, (v0.getD v2.toNat (0, [], 0, 0, [], [], ())).2.1, (v0.getD v2.toNat (0, [], 0, 0, [], [], ())).2.2.1, (v0.getD v2.toNat (0, [], 0, 0, [], [], ())).2.2.2.1, (v0.getD v2.toNat (0, [], 0, 0, [], [], ())).2.2.2.2.1,
 (v0.getD v2.toNat (0, [], 0, 0, [], [], ())).2.2.2.2.2.1, r.1.1, ())) fun e => esel e (fun v => G15_6 k j (v.1, v.2.1, IntKind.i64.wrap (v.2.2.1 + 1), v.2.2.2.2.1, ())) fun e => some (Sum.inr (e.1, ())))) (ocall (G15_22 k k (v0, v1, v2, 0, v3, (v0.getD v2.toNat (0,
 [], 0, 0, [], [], ())).1, (v0.getD v2.toNat (0, [], 0, 0, [], [], ())).2.1, (v0.getD v2.toNat (0, [], 0, 0, [], [], ())).2.2.1, (v0.getD v2.toNat (0, [], 0, 0, [], [], ())).2.2.2.1, (v0.getD v2.toNat (0, [], 0, 0, [], [], ())).2.2.2.2.1, (v0.getD v2.toNat (0,
 [], 0, 0, [], [], ())).2.2.2.2.2.1, r.1.1, ())) fun e => esel e (fun v => G15_6 k j (v.1, v.2.1, IntKind.i64.wrap (v.2.2.1 + 1), v.2.2.2.2.1, ())) fun e => some (Sum.inr (e.1, ()))))))))))) none) none)) none) none) (some (Sum.inl ())) := by kernel_rfl
noncomputable def G15 (k : Nat) (v : (List ((Int × List UInt8 × Unit) × Int × Int × Unit) × Unit) × List (Int × List UInt8 × Int × Int × List UInt8 × List UInt8 × Unit) × List Bool × Unit) : Option (Bool × Unit) := F15 k v
theorem G15_eq (k : Nat) (v0 : List ((Int × List UInt8 × Unit) × Int × Int × Unit)) (v1 : List (Int × List UInt8 × Int × Int × List UInt8 × List UInt8 × Unit)) (v2 : List Bool) : G15 k ((v0, ()), v1, v2, ()) = ocall (G68 k ()) fun r => sel (!r.1) (some (false, ()))
 (ocall (G69 k ((v0, ()), ())) fun r => sel (!r.1) (some (true, ())) (sel (decide (60 < Int.ofNat v1.length)) (some (true, ())) (sel (decide (Int.ofNat v2.length < Int.ofNat v1.length)) (some (true, ())) (ocall (G76 k ((v0, ()), ())) fun r =>
 sel (!r.1) (some (true, ())) (ocall (G15_6 k k (v1, v2, 0, v0, ())) fun e => esel e (fun v => some (true, ())) fun e => some (e.1, ())))))) := by kernel_rfl
end Go.Proofs.YtjgnpmdbkgeakaaDoor.G
end
section
set_option linter.unusedVariables false
set_option linter.unusedSimpArgs false
set_option maxRecDepth 100000
namespace Go.Proofs.YtjgnpmdbkgeakaaDoor.G
open Go Go.Proofs.YtjgnpmdbkgeakaaDoor Th
def zeroHo : Hold := ((0, [], ()), 0, 0, ())
def holdOK (h : Hold) : Bool := keyOK h.1 && (decide (h.2.1 < 1000000000000) && (decide (1 ≤ h.2.2.1) && decide (h.2.2.1 ≤ 3)))
def ledOK (l : List Hold) : Bool := l.all holdOK && orderedH l && decide (l.length ≤ 256)
def goodHo (h : Hold) : Prop := (0 ≤ h.1.1 ∧ h.1.1 ≤ 4294967295) ∧ 0 ≤ h.2.1 ∧ h.2.1 ≤ 18446744073709551615
def goodHs (l : List Hold) : Prop := ∀ h ∈ l, goodHo h
def lensHs (l : List Hold) : Prop := ∀ h ∈ l, h.1.2.1.length ≤ 300
theorem led_parts {l : List Hold} (h : ledOK l = true) : l.all holdOK = true ∧ orderedH l = true ∧ l.length ≤ 256 := by
  unfold ledOK at h
  simp only [Bool.and_eq_true, decide_eq_true_eq] at h
  exact ⟨h.1.1, h.1.2, h.2⟩
theorem hold_parts {h : Hold} (e : holdOK h = true) : keyOK h.1 = true ∧ h.2.1 < 1000000000000 ∧ 1 ≤ h.2.2.1 ∧ h.2.2.1 ≤ 3 := by
  unfold holdOK at e
  simpa [Bool.and_eq_true, decide_eq_true_eq] using e
theorem sameHo (a b : Hold) : (sameI a.1.1 b.1.1 && (sameS a.1.2.1 b.1.2.1 && true) && (sameI a.2.1 b.2.1 && (sameI a.2.2.1 b.2.2.1 && true))) = decide (a = b) := by
  have hk := sameK a.1 b.1
  rw [hk]
  obtain ⟨a1, a2, a3, ⟨⟩⟩ := a
  obtain ⟨b1, b2, b3, ⟨⟩⟩ := b
  simp only [sameI]
  by_cases h1 : a1 = b1 <;> by_cases h2 : a2 = b2 <;> by_cases h3 : a3 = b3 <;> simp [h1, h2, h3]
theorem led_loop (k : Nat) (hk : 1000 < k) (l : List Hold) (hl : lensHs l) (hg : goodHs l) (hn : l.length ≤ 1000) : ∀ (j i : Nat), i + 1 + j = l.length → ∀ n, j < n →
    G76_2 k n (l, (l.length : Int), ((i + 1 : Nat) : Int), l, ()) = some (sel ((l.drop (i + 1)).all holdOK && orderedH (l.drop i)) (.inl (l, ())) (.inr (false, ()))) := by
  intro j
  induction j with
  | zero =>
    intro i hij n hn'
    obtain ⟨n, rfl⟩ : ∃ m, n = m + 1 := ⟨n - 1, by omega⟩
    have hd : l.drop (i + 1) = [] := List.drop_eq_nil_of_le (by omega)
    rw [G76_2_eq, sel_neg (by omega), List.drop_eq_getElem_cons (show i < l.length by omega), hd]
    rfl
  | succ j ih =>
    intro i hij n hn'
    obtain ⟨n, rfl⟩ : ∃ m, n = m + 1 := ⟨n - 1, by omega⟩
    have hlt : i + 1 < l.length := by omega
    have hlt0 : i < l.length := by omega
    have hm := List.getElem_mem hlt
    have hR : G27 k (((l[i + 1]).1.1, (l[i + 1]).1.2.1, ()), ()) = _ := G27_is k 300 (by omega) (by omega) l[i + 1].1 (hl _ hm) (by omega) (hg _ hm).1
    have hO : G29 k (((l[i]).1.1, (l[i]).1.2.1, ()), ((l[i + 1]).1.1, (l[i + 1]).1.2.1, ()), ()) = _ := G29_is k (by omega) l[i].1 l[i + 1].1
    have hw : IntKind.i64.wrap (((i + 1 : Nat) : Int) + 1) = ((i + 1 + 1 : Nat) : Int) := by rw [wrap64 (by omega) (by omega)]; omega
    have hw2 : IntKind.i64.wrap (((i + 1 : Nat) : Int) - 1) = (i : Int) := by rw [wrap64 (by omega) (by omega)]; omega
    rw [G76_2_eq]
    simp only [ofNat_len, hw, hw2, Int.toNat_natCast, getD_of hlt, getD_of hlt0]
    rw [sel_pos (by omega), sel_pos (by omega), sel_pos (by omega), hR, ocall_some]
    have hd0 : l.drop i = l[i] :: l[i + 1] :: l.drop (i + 1 + 1) := by rw [List.drop_eq_getElem_cons hlt0, List.drop_eq_getElem_cons hlt]
    have hi := ih (i + 1) (by omega) n (by omega)
    rw [List.drop_eq_getElem_cons hlt] at hi ⊢
    rw [hd0]
    simp only [List.all_cons, orderedH]
    rw [show holdOK l[i + 1] = (keyOK (l[i + 1]).1 && (decide ((l[i + 1]).2.1 < (1000000000000 : Int)) && (decide ((1 : Int) ≤ (l[i + 1]).2.2.1) && decide ((l[i + 1]).2.2.1 ≤ (3 : Int))))) from rfl]
    cases keyOK (l[i + 1]).1 with
    | false => rfl
    | true =>
    simp only [Bool.not_true, sel_false, Bool.true_and]
    by_cases c1 : (l[i + 1]).2.1 < 1000000000000
    case neg => rw [sel_pos (by omega), decide_eq_false c1]; rfl
    rw [sel_neg (by omega), decide_eq_true c1]
    by_cases c2 : (1 : Int) ≤ (l[i + 1]).2.2.1
    case neg => rw [sel_pos (by omega), decide_eq_false c2]; rfl
    rw [sel_neg (by omega), decide_eq_true c2]
    by_cases c3 : (l[i + 1]).2.2.1 ≤ 3
    case neg => rw [sel_pos (by omega), decide_eq_false c3]; rfl
    rw [sel_neg (by omega), decide_eq_true c3, sel_pos (by omega), sel_pos (by omega), sel_pos (by omega), hO, ocall_some]
    by_cases ho : ordK l[i].1 l[i + 1].1 = -1
    · simp only [ho, decide_true, Bool.true_and]
      rw [sel_neg (by decide)]
      exact hi
    · have := ordK_cases l[i].1 l[i + 1].1
      rw [sel_pos (show (0 : Int) ≤ ordK l[i].1 l[i + 1].1 by omega), decide_eq_false ho]
      simp
theorem G76_is (k : Nat) (hk : 1001 < k) (l : List Hold) (hl : lensHs l) (hg : goodHs l) (hn : l.length ≤ 1000) : G76 k ((l, ()), ()) = some (ledOK l, ()) := by
  have hlp := led_loop k (by omega) l hl hg hn
  rw [G76_eq]
  unfold ledOK
  obtain ⟨k', rfl⟩ : ∃ m, k = m + 1 := ⟨k - 1, by omega⟩
  have h1 : G76_2 (k' + 1) (k' + 1) (l, (l.length : Int), 0, l, ()) = some (sel (l.all holdOK && orderedH l) (.inl (l, ())) (.inr (false, ()))) := by
    rw [G76_2_eq]
    by_cases h0 : l.length = 0
    · obtain rfl : l = [] := List.eq_nil_of_length_eq_zero h0
      rw [sel_neg (by simp)]; rfl
    have hlt : 0 < l.length := by omega
    have hm := List.getElem_mem hlt
    have e0 : l.getD (Int.toNat 0) ((0, [], ()), 0, 0, ()) = l[0] := getD_of hlt _
    have hR : G27 (k' + 1) (((l[0]).1.1, (l[0]).1.2.1, ()), ()) = _ := G27_is (k' + 1) 300 (by omega) (by omega) l[0].1 (hl _ hm) (by omega) (hg _ hm).1
    simp only [e0, ofNat_len]
    have hw : IntKind.i64.wrap (0 + 1) = ((0 + 1 : Nat) : Int) := rfl
    rw [sel_pos (by omega), sel_pos (by omega), sel_pos (by omega), hR, ocall_some, hw, hlp (l.length - 1) 0 (by omega) k' (by omega)]
    have hd : l = l[0] :: l.drop 1 := by
      have := List.drop_eq_getElem_cons hlt
      rwa [List.drop_zero] at this
    have ha : l.all holdOK = (holdOK l[0] && (l.drop 1).all holdOK) := by
      conv => lhs; rw [hd]
      rfl
    rw [ha, List.drop_zero, show holdOK l[0] = (keyOK (l[0]).1 && (decide ((l[0]).2.1 < (1000000000000 : Int)) && (decide ((1 : Int) ≤ (l[0]).2.2.1) && decide ((l[0]).2.2.1 ≤ (3 : Int))))) from rfl]
    cases keyOK (l[0]).1 with
    | false => rfl
    | true =>
    simp only [Bool.not_true, sel_false, Bool.true_and]
    by_cases c1 : (l[0]).2.1 < 1000000000000
    case neg => rw [sel_pos (by omega), decide_eq_false c1]; rfl
    rw [sel_neg (by omega), decide_eq_true c1]
    by_cases c2 : (1 : Int) ≤ (l[0]).2.2.1
    case neg => rw [sel_pos (by omega), decide_eq_false c2]; rfl
    rw [sel_neg (by omega), decide_eq_true c2]
    by_cases c3 : (l[0]).2.2.1 ≤ 3
    case neg => rw [sel_pos (by omega), decide_eq_false c3]; rfl
    rw [sel_neg (by omega), decide_eq_true c3, sel_neg (by omega)]
    rfl
  simp only [ofNat_len]
  rw [h1, ocall_some]
  cases c : (l.all holdOK && orderedH l) with
  | true =>
    rw [sel_true, esel_inl, Bool.true_and]
    simp only [ofNat_len]
    rw [show decide ((l.length : Int) ≤ 256) = decide (l.length ≤ 256) from decide_eq_decide.2 (by omega)]
  | false => rw [sel_false, esel_inr]; rfl
theorem bsH_loop (k : Nat) (hk : 2 < k) (l : List Hold) (hn : l.length ≤ 1000) (ho : orderedH l = true) (key : Key) (v1 : Int) : ∀ (d i j : Nat), i ≤ j → j ≤ l.length → j - i ≤ d → (∀ x (hx : x < l.length), x < i → ordK l[x].1 key = -1) → (∀ x (hx : x < l.length), j ≤ x → ordK l[x].1 key ≠ -1) → ∀ n, d < n →
    G7000002_3 k n (l, (), v1, (i : Int), (j : Int), key.1, key.2.1, ()) = some (l, (), v1, ((posEH l key : Nat) : Int), key.1, key.2.1, ()) := by
  intro d
  induction d with
  | zero =>
    intro i j hij hj hd h1 h2 n hn'
    obtain ⟨n, rfl⟩ : ∃ m, n = m + 1 := ⟨n - 1, by omega⟩
    obtain rfl : i = j := by omega
    rw [G7000002_3_eq, sel_neg (by omega), posE_ofH key l i hj h1 h2]
  | succ d ih =>
    intro i j hij hj hd h1 h2 n hn'
    obtain ⟨n, rfl⟩ : ∃ m, n = m + 1 := ⟨n - 1, by omega⟩
    rw [G7000002_3_eq]
    by_cases hlt : i < j
    case neg =>
      obtain rfl : i = j := by omega
      rw [sel_neg (by omega), posE_ofH key l i hj h1 h2]
    have hm : (i + j) / 2 < l.length := by omega
    have hm1 : i ≤ (i + j) / 2 := by omega
    have hm2 : (i + j) / 2 < j := by omega
    simp only [mid_is i j (by omega)]
    generalize (i + j) / 2 = h at hm hm1 hm2
    have hC : G225 k ((((l[h]).1.1, (l[h]).1.2.1, ()), (l[h]).2.1, (l[h]).2.2.1, ()), (key.1, key.2.1, ()), ()) = some (ordK l[h].1 key, ()) := by
      rw [G225_eq]
      rw [show G29 k (((l[h]).1.1, (l[h]).1.2.1, ()), (key.1, key.2.1, ()), ()) = _ from G29_is k hk l[h].1 key, ocall_some]
    simp only [ofNat_len, Int.toNat_natCast, getD_of hm]
    rw [sel_pos (by omega), sel_pos (by omega), sel_pos (by omega), hC, ocall_some]
    have hw : IntKind.i64.wrap ((h : Int) + 1) = ((h + 1 : Nat) : Int) := by rw [wrap64 (by omega) (by omega)]; omega
    have hcs := ordK_cases l[h].1 key
    by_cases c : ordK l[h].1 key = -1
    · rw [sel_pos (show ordK l[h].1 key < 0 by omega), hw]
      refine ih (h + 1) j (by omega) hj (by omega) (fun x hx hxi => ?_) h2 n (by omega)
      rcases Nat.lt_or_eq_of_le (Nat.le_of_lt_succ hxi) with c2 | c2
      · exact ordK_trans (ordered_getH ho x h c2 hm) c
      · simp only [c2]; exact c
    · rw [sel_neg (show ¬ ordK l[h].1 key < 0 by omega)]
      refine ih i h hm1 (by omega) (by omega) h1 (fun x hx hxi => ?_) n (by omega)
      rcases Nat.lt_or_eq_of_le hxi with c2 | c2
      · exact fun e => c (ordK_trans (ordered_getH ho h x c2 hx) e)
      · simp only [← c2]; exact c
theorem G209_is (k : Nat) (hk : 1001 < k) (l : List Hold) (hn : l.length ≤ 1000) (ho : orderedH l = true) (key : Key) : G209 k ((l, ()), key, ()) = some (((posEH l key : Nat) : Int), hasAtH l key, ()) := by
  have hb := bsH_loop k (by omega) l hn ho key (l.length : Int) l.length 0 l.length (Nat.zero_le _) (Nat.le_refl _) (by omega) (fun x hx h => absurd h (Nat.not_lt_zero _)) (fun x hx h => by omega) k (by omega)
  rw [Int.natCast_zero] at hb
  have hp := posE_leH l key
  have hC := fun (h : posEH l key < l.length) => show G225 k ((((l[posEH l key]).1.1, (l[posEH l key]).1.2.1, ()), (l[posEH l key]).2.1, (l[posEH l key]).2.2.1, ()), (key.1, key.2.1, ()), ()) = some (ordK l[posEH l key].1 key, ()) from by
    rw [G225_eq]
    rw [show G29 k (((l[posEH l key]).1.1, (l[posEH l key]).1.2.1, ()), (key.1, key.2.1, ()), ()) = _ from G29_is k (by omega) l[posEH l key].1 key, ocall_some]
  unfold hasAtH
  obtain ⟨k1, k2, ⟨⟩⟩ := key
  (try simp only [] at hb hC)
  rw [G209_eq, G7000002_eq]
  simp only [ofNat_len]
  rw [hb, ocall_some]
  simp only [ofNat_len, Int.toNat_natCast]
  generalize posEH l (k1, k2, ()) = p at hp hC
  by_cases h : p < l.length
  · have hC := hC h
    simp only [getD_of h]
    rw [sel_pos (by omega), sel_pos (by omega), sel_pos (by omega), hC, ocall_some, ocall_some, List.getElem?_eq_getElem h]
    (try simp only [])
    rw [show decide (ordK l[p].1 (k1, k2, ()) = 0) = decide (l[p].1 = (k1, k2, ())) from decide_eq_decide.2 ordK_zero]
  · rw [sel_neg (by omega), ocall_some, List.getElem?_eq_none (by omega)]
theorem findH_loop (k : Nat) (l : List Hold) (hn : l.length ≤ 1000000) (key : Key) (v5 : Int) (v6 : Txt) (v7 v8 : Int) : ∀ (j i : Nat), i + j = l.length → ∀ n, j < n →
    G70_2 k n (l, (l.length : Int), (i : Int), key.1, key.2.1, v5, v6, v7, v8, ()) = some (match findEH (l.drop i) key with
      | some e => .inr (true, e.1.1, e.1.2.1, e.2.1, e.2.2.1, ())
      | none => .inl (v5, v6, v7, v8, ())) := by
  intro j
  induction j with
  | zero =>
    intro i hij n hn'
    obtain ⟨n, rfl⟩ : ∃ m, n = m + 1 := ⟨n - 1, by omega⟩
    rw [G70_2_eq, sel_neg (by omega), List.drop_eq_nil_of_le (by omega)]
    rfl
  | succ j ih =>
    intro i hij n hn'
    obtain ⟨n, rfl⟩ : ∃ m, n = m + 1 := ⟨n - 1, by omega⟩
    have hlt : i < l.length := by omega
    have hi := ih (i + 1) (by omega) n (by omega)
    have hw : IntKind.i64.wrap ((i : Int) + 1) = ((i + 1 : Nat) : Int) := by rw [wrap64 (by omega) (by omega)]; omega
    have hs : (sameI (l[i]).1.1 key.1 && (sameS (l[i]).1.2.1 key.2.1 && true)) = decide ((l[i]).1 = key) := sameK (l[i]).1 key
    rw [G70_2_eq]
    simp only [ofNat_len, Int.toNat_natCast, getD_of hlt, hw]
    rw [sel_pos (by omega), sel_pos (by omega), sel_pos (by omega), hs, List.drop_eq_getElem_cons hlt]
    unfold findEH at hi ⊢
    rw [List.find?_cons]
    unfold keyIsH at hi ⊢
    cases c : decide ((l[i]).1 = key) with
    | true => rfl
    | false => exact hi
theorem G70_is (k : Nat) (l : List Hold) (hn : l.length ≤ 1000000) (hk : l.length < k) (key : Key) : G70 k ((l, ()), key, ()) = some (match findEH l key with | some e => (e, true, ()) | none => (zeroHo, false, ())) := by
  have h := findH_loop k l hn key 0 [] 0 0 l.length 0 (by omega) k hk
  rw [List.drop_zero, Int.natCast_zero] at h
  obtain ⟨k1, k2, ⟨⟩⟩ := key
  rw [G70_eq]
  simp only [ofNat_len] at h ⊢
  rw [h, ocall_some]
  cases findEH l (k1, k2, ()) with
  | some e => rfl
  | none => rfl
def withL (l : List Hold) (h : Hold) : List Hold × Bool := if hasAtH l h.1 = true then (l.set (posEH l h.1) h, true) else if l.length = 256 then (l, false) else (insLH l h, true)
theorem hClone (k : Nat) (l : List Hold) (h : l.length ≤ 1000) : G210 k l = some (l, ()) := by
  rw [G210_eq, sel_pos (by omega)]
theorem G188_is (k : Nat) (hk : 1001 < k) (l : List Hold) (hn : l.length ≤ 1000) (ho : orderedH l = true) (h : Hold) : G188 k ((l, ()), h, ()) = some (((withL l h).1, ()), (withL l h).2, ()) := by
  have hP := G209_is k hk l hn ho h.1
  have hlt := @hasAt_ltH l h.1
  have hp := posE_leH l h.1
  unfold withL insLH
  obtain ⟨⟨e1, e2, ⟨⟩⟩, e3, e4, ⟨⟩⟩ := h
  (try simp only [] at hP hlt hp ⊢)
  rw [G188_eq, hP, ocall_some]
  cases hh : hasAtH l (e1, e2, ()) with
  | true =>
    obtain ⟨h4, _⟩ := hlt hh
    rw [if_pos rfl]
    generalize posEH l (e1, e2, ()) = p at h4
    simp only [sel_true]
    rw [hClone k l hn, ocall_some]
    simp only [ofNat_len, Int.toNat_natCast]
    rw [sel_pos (by omega), sel_pos (by omega), sel_pos (by omega)]
  | false =>
    rw [if_neg (by simp)]
    simp only [sel_false, ofNat_len]
    by_cases h7 : l.length = 256
    · rw [sel_pos (by omega), if_pos h7]
    rw [sel_neg (by omega), if_neg h7, hClone k l hn, ocall_some, G211_eq]
    simp only [ofNat_len]
    rw [sel_pos (by omega), sel_pos (by omega), sel_pos (by omega), sel_pos (by simp), ocall_some, Int.toNat_natCast]
end Go.Proofs.YtjgnpmdbkgeakaaDoor.G
end
section
set_option linter.unusedVariables false
set_option linter.unusedSimpArgs false
set_option maxRecDepth 100000
namespace Go.Proofs.YtjgnpmdbkgeakaaDoor.G
open Go Go.Proofs.YtjgnpmdbkgeakaaDoor Th
def keyD (d : Deal) : Key := (d.2.2.2.1, d.2.2.2.2.1, ())
def askL (l : List Hold) (d : Deal) (ap : Bool) : List Hold × Txt := match findEH l (keyD d) with
  | some h => if h.2.2.1 = 1 then (if h.2.1 = d.2.2.1 then (l, [48, 48]) else (l, [57, 52])) else (l, [48, 53])
  | none => if (withL l (keyD d, d.2.2.1, if ap = true then 1 else 2, ())).2 = true then ((withL l (keyD d, d.2.2.1, if ap = true then 1 else 2, ())).1, if ap = true then [48, 48] else [48, 53]) else (l, [57, 54])
def backL (l : List Hold) (h : Hold) : List Hold × Txt := if (withL l h).2 = true then ((withL l h).1, [48, 48]) else (l, [57, 54])
def advL (l : List Hold) (d : Deal) : List Hold × Txt := match findEH l (keyD d) with
  | some h => backL l (h.1, h.2.1, 3, ())
  | none => backL l (keyD d, d.2.2.1, 3, ())
def doL (l : List Hold) (d : Deal) (ap : Bool) : List Hold × Deal × Int := if ledOK l = true ∧ dealOK d = true then
    (if d.1 = 1 then ((askL l d ap).1, (2, [], 0, d.2.2.2.1, d.2.2.2.2.1, (askL l d ap).2, ()), 0)
     else if d.1 = 5 ∨ d.1 = 6 then ((advL l d).1, (7, [], 0, d.2.2.2.1, d.2.2.2.2.1, (advL l d).2, ()), 0) else (l, zeroD, 3))
  else (l, zeroD, 1)
theorem G136_is (k : Nat) (hk : 1001 < k) (l : List Hold) (hn : l.length ≤ 1000) (ho : orderedH l = true) (d : Deal) (ap : Bool) : G136 k ((l, ()), d, ap, ()) = some (((askL l d ap).1, ()), (askL l d ap).2, ()) := by
  have hF := G70_is k l (by omega) (by omega) (keyD d)
  have hW := fun h => G188_is k hk l hn ho h
  unfold askL
  obtain ⟨d1, d2, d3, d4, d5, d6, ⟨⟩⟩ := d
  unfold keyD at hF ⊢
  (try simp only [] at hF ⊢)
  rw [G136_eq, G26_is, ocall_some]
  (try simp only [])
  rw [hF, ocall_some]
  cases findEH l (d4, d5, ()) with
  | some h =>
    simp only [sel_true]
    by_cases c : h.2.2.1 = 1
    case neg => rw [sel_not, sel_neg c, if_neg c]
    rw [sel_not, sel_pos c, if_pos c]
    by_cases c2 : h.2.1 = d3
    · rw [sel_not, sel_pos c2, if_pos c2]
    · rw [sel_not, sel_neg c2, if_neg c2]
  | none =>
    simp only [sel_false]
    rw [ocall_some]
    (try simp only [])
    cases ap with
    | true =>
      simp only [sel_true]
      rw [hW, ocall_some]
      simp only [if_true]
      cases (withL l ((d4, d5, ()), d3, 1, ())).2 <;> rfl
    | false =>
      simp only [sel_false]
      rw [hW, ocall_some]
      simp only [Bool.false_eq_true, if_false]
      cases (withL l ((d4, d5, ()), d3, 2, ())).2 <;> rfl
theorem G137_is (k : Nat) (hk : 1001 < k) (l : List Hold) (hn : l.length ≤ 1000) (ho : orderedH l = true) (d : Deal) : G137 k ((l, ()), d, ()) = some (((advL l d).1, ()), (advL l d).2, ()) := by
  have hF := G70_is k l (by omega) (by omega) (keyD d)
  have hW := fun h => G188_is k hk l hn ho h
  unfold advL backL
  obtain ⟨d1, d2, d3, d4, d5, d6, ⟨⟩⟩ := d
  unfold keyD at hF ⊢
  (try simp only [] at hF ⊢)
  rw [G137_eq, G26_is, ocall_some]
  (try simp only [])
  rw [hF, ocall_some]
  cases findEH l (d4, d5, ()) with
  | some h =>
    have hW' : G188 k ((l, ()), ((h.1.1, h.1.2.1, ()), h.2.1, 3, ()), ()) = _ := hW (h.1, h.2.1, 3, ())
    simp only [Bool.not_true, sel_false]
    rw [hW', ocall_some]
    (try simp only [])
    cases (withL l (h.1, h.2.1, 3, ())).2 <;> rfl
  | none =>
    simp only [Bool.not_false, sel_true]
    rw [ocall_some]
    (try simp only [])
    rw [hW, ocall_some]
    (try simp only [])
    cases (withL l ((d4, d5, ()), d3, 3, ())).2 <;> rfl
theorem G72_is (k : Nat) (hk : 1001 < k) (l : List Hold) (hl : lensHs l) (hg : goodHs l) (hn : l.length ≤ 1000) (d : Deal) (hd : lens 300 d) (gd : goodD d) (ap : Bool) : G72 k ((l, ()), d, ap, ()) = some (((doL l d ap).1, ()), (doL l d ap).2.1, (doL l d ap).2.2, ()) := by
  have hR := G76_is k hk l hl hg hn
  have hD := G33_is k 300 (by omega) (by omega) d hd gd
  have hA := fun ho => G136_is k hk l hn ho d ap
  have hV := fun ho => G137_is k hk l hn ho d
  unfold doL
  obtain ⟨d1, d2, d3, d4, d5, d6, ⟨⟩⟩ := d
  rw [G72_eq, hR, ocall_some]
  cases hs : ledOK l with
  | false => rw [if_neg (by simp)]; rfl
  | true =>
  obtain ⟨_, ho, _⟩ := led_parts hs
  have hA := hA ho
  have hV := hV ho
  simp only [Bool.not_true, sel_false]
  rw [hD, ocall_some]
  cases he : dealOK (d1, d2, d3, d4, d5, d6, ()) with
  | false => rw [if_neg (by simp)]; rfl
  | true =>
  simp only [Bool.not_true, sel_false]
  first | rw [if_pos (⟨rfl, rfl⟩ : true = true ∧ true = true)] | rw [if_pos (⟨trivial, trivial⟩ : True ∧ True)]
  by_cases c1 : d1 = 1
  · rw [sel_pos c1, if_pos c1, hA, ocall_some]
  rw [sel_neg c1, if_neg c1]
  by_cases c5 : d1 = 5
  · rw [sel_pos c5, sel_pos c5, if_pos (.inl c5), hV, ocall_some]
  rw [sel_neg c5]
  by_cases c6 : d1 = 6
  · rw [sel_pos c6, if_pos (.inr c6), hV, ocall_some]
  · rw [sel_neg c6, if_neg (by omega)]; rfl
def dL1 : Deal := (1, [49, 56], 500, 1, [82, 82, 78, 48, 48, 48, 48, 48, 48, 48, 48, 49], [], ())
def dL5 : Deal := (5, [49, 56], 500, 1, [82, 82, 78, 48, 48, 48, 48, 48, 48, 48, 48, 49], [], ())
def hL1 : Hold := ((1, [82, 82, 78, 48, 48, 48, 48, 48, 48, 48, 48, 49], ()), 500, 1, ())
def hL3 : Hold := ((1, [82, 82, 78, 48, 48, 48, 48, 48, 48, 48, 48, 49], ()), 500, 3, ())
theorem goodHL {l : List Hold} (h : ∀ e ∈ l, e = hL1 ∨ e = hL3) : lensHs l ∧ goodHs l := by
  constructor <;> intro e he <;> rcases h e he with rfl | rfl <;> (first | decide | exact ⟨⟨by decide, by decide⟩, by decide, by decide⟩)
theorem sumL1 (k : Nat) (hk : 1001 < k) : ∃ x y, G78 k (([hL1], ()), ()) = some ((x, y), ()) ∧ cSame x y 4647503709213818880 0 = true := by
  obtain ⟨g1, g2⟩ := goodHL (l := [hL1]) (by simp)
  have hR := G76_is k hk [hL1] g1 g2 (by simp)
  rw [show ledOK [hL1] = true from by kernel_rfl] at hR
  obtain ⟨m, rfl⟩ : ∃ m, k = m + 1 + 1 := ⟨k - 2, by omega⟩
  have c1 : cOK BinOp.add 0 0 (fltOf 500) 0 = true := by kernel_rfl
  have e0 : ([hL1] : List Hold).getD (Int.toNat 0) ((0, [], ()), 0, 0, ()) = ((1, [82, 82, 78, 48, 48, 48, 48, 48, 48, 48, 48, 49], ()), 500, 1, ()) := rfl
  have e1 : Int.ofNat ([hL1] : List Hold).length = 1 := rfl
  have hw : IntKind.i64.wrap (0 + 1) = 1 := rfl
  have hl : G78_5 (m + 1 + 1) (m + 1 + 1) ((0, 0), [hL1], 1, 0, ()) = some (((cVal BinOp.add 0 0 (fltOf 500) 0).1, (cVal BinOp.add 0 0 (fltOf 500) 0).2), ()) := by
    rw [G78_5_eq]
    simp only [e0, e1, hw]
    rw [sel_pos (by decide), sel_pos (by decide), sel_pos (by decide), sel_pos trivial, c1, sel_true, G78_5_eq, sel_neg (by decide)]
  refine ⟨(cVal BinOp.add 0 0 (fltOf 500) 0).1, (cVal BinOp.add 0 0 (fltOf 500) 0).2, ?_, ?_⟩
  · rw [G78_eq, hR, ocall_some]
    simp only [Bool.not_true, sel_false, e1]
    rw [hl, ocall_some]
  · kernel_rfl
theorem sumL3 (k : Nat) (hk : 1001 < k) : ∃ x y, G78 k (([hL3], ()), ()) = some ((x, y), ()) ∧ cSame x y 0 4647503709213818880 = true := by
  obtain ⟨g1, g2⟩ := goodHL (l := [hL3]) (by simp)
  have hR := G76_is k hk [hL3] g1 g2 (by simp)
  rw [show ledOK [hL3] = true from by kernel_rfl] at hR
  obtain ⟨m, rfl⟩ : ∃ m, k = m + 1 + 1 := ⟨k - 2, by omega⟩
  have c1 : cOK BinOp.mul (fltOf 500) 0 0 4607182418800017408 = true := by kernel_rfl
  have c2 : cOK BinOp.add 0 0 (cVal BinOp.mul (fltOf 500) 0 0 4607182418800017408).1 (cVal BinOp.mul (fltOf 500) 0 0 4607182418800017408).2 = true := by kernel_rfl
  have e0 : ([hL3] : List Hold).getD (Int.toNat 0) ((0, [], ()), 0, 0, ()) = ((1, [82, 82, 78, 48, 48, 48, 48, 48, 48, 48, 48, 49], ()), 500, 3, ()) := rfl
  have e1 : Int.ofNat ([hL3] : List Hold).length = 1 := rfl
  have hw : IntKind.i64.wrap (0 + 1) = 1 := rfl
  have hl : G78_5 (m + 1 + 1) (m + 1 + 1) ((0, 0), [hL3], 1, 0, ()) = some (((cVal BinOp.add 0 0 (cVal BinOp.mul (fltOf 500) 0 0 4607182418800017408).1 (cVal BinOp.mul (fltOf 500) 0 0 4607182418800017408).2).1, (cVal BinOp.add 0 0 (cVal BinOp.mul (fltOf 500) 0 0 4607182418800017408).1 (cVal BinOp.mul (fltOf 500) 0 0 4607182418800017408).2).2), ()) := by
    rw [G78_5_eq]
    simp only [e0, e1, hw]
    rw [sel_pos (by decide), sel_pos (by decide), sel_pos (by decide), sel_neg (by decide), sel_pos trivial, c1, sel_true, c2, sel_true, G78_5_eq, sel_neg (by decide)]
  refine ⟨(cVal BinOp.add 0 0 (cVal BinOp.mul (fltOf 500) 0 0 4607182418800017408).1 (cVal BinOp.mul (fltOf 500) 0 0 4607182418800017408).2).1, (cVal BinOp.add 0 0 (cVal BinOp.mul (fltOf 500) 0 0 4607182418800017408).1 (cVal BinOp.mul (fltOf 500) 0 0 4607182418800017408).2).2, ?_, ?_⟩
  · rw [G78_eq, hR, ocall_some]
    simp only [Bool.not_true, sel_false, e1]
    rw [hl, ocall_some]
  · kernel_rfl
theorem G68_is (k : Nat) (hk : 2000 < k) : G68 k () = some (true, ()) := by
  have g0 := goodHL (l := []) (by simp)
  have g1 := goodHL (l := [hL1]) (by simp)
  have g3 := goodHL (l := [hL3]) (by simp)
  have d1 : lens 300 dL1 ∧ goodD dL1 := ⟨⟨by decide, by decide, by decide⟩, by decide, by decide⟩
  have d5 : lens 300 dL5 ∧ goodD dL5 := ⟨⟨by decide, by decide, by decide⟩, by decide, by decide⟩
  have h1 := G72_is k (by omega) [] g0.1 g0.2 (by simp) dL1 d1.1 d1.2 true
  have h2 := G72_is k (by omega) [hL1] g1.1 g1.2 (by simp) dL5 d5.1 d5.2 true
  have h3 := G72_is k (by omega) [hL3] g3.1 g3.2 (by simp) dL1 d1.1 d1.2 true
  have h4 := G70_is k [hL3] (by simp) (by simp; omega) (1, [82, 82, 78, 48, 48, 48, 48, 48, 48, 48, 48, 49], ())
  have h5 := G76_is k (by omega) [hL3] g3.1 g3.2 (by simp)
  rw [show doL [] dL1 true = ([hL1], (2, [], 0, 1, [82, 82, 78, 48, 48, 48, 48, 48, 48, 48, 48, 49], [48, 48], ()), 0) from by kernel_rfl] at h1
  rw [show doL [hL1] dL5 true = ([hL3], (7, [], 0, 1, [82, 82, 78, 48, 48, 48, 48, 48, 48, 48, 48, 49], [48, 48], ()), 0) from by kernel_rfl] at h2
  rw [show doL [hL3] dL1 true = ([hL3], (2, [], 0, 1, [82, 82, 78, 48, 48, 48, 48, 48, 48, 48, 48, 49], [48, 53], ()), 0) from by kernel_rfl] at h3
  rw [show findEH [hL3] (1, [82, 82, 78, 48, 48, 48, 48, 48, 48, 48, 48, 49], ()) = some hL3 from by kernel_rfl] at h4
  rw [show ledOK [hL3] = true from by kernel_rfl] at h5
  obtain ⟨x1, y1, s1, t1⟩ := sumL1 k (by omega)
  obtain ⟨x3, y3, s3, t3⟩ := sumL3 k (by omega)
  simp only [dL1, dL5] at h1 h2 h3
  rw [G68_eq, h1, ocall_some]
  (try simp only [])
  rw [h2, ocall_some]
  (try simp only [])
  rw [h3, ocall_some, G26_is, ocall_some]
  (try simp only [])
  rw [h4, ocall_some]
  simp only [hL3, decide_true, sel_true] at *
  rw [s1, ocall_some]
  simp only [t1, sel_true]
  rw [s3, ocall_some]
  simp only [t3, sel_true]
  rw [h5, ocall_some]
end Go.Proofs.YtjgnpmdbkgeakaaDoor.G
end
section
set_option linter.unusedVariables false
set_option linter.unusedSimpArgs false
set_option maxRecDepth 100000
namespace Go.Proofs.YtjgnpmdbkgeakaaDoor.G
open Go Go.Proofs.YtjgnpmdbkgeakaaDoor Th
theorem ordered_keys : ∀ (l m : List Hold), l.map (·.1) = m.map (·.1) → orderedH l = orderedH m := by
  intro l
  induction l with
  | nil => intro m h; cases m with
    | nil => rfl
    | cons b t => cases h
  | cons a t ih =>
    intro m h
    cases m with
    | nil => cases h
    | cons b u =>
      have h1 : a.1 = b.1 := (List.cons.inj h).1
      have h2 : t.map (·.1) = u.map (·.1) := (List.cons.inj h).2
      cases t with
      | nil =>
        cases u with
        | nil => rfl
        | cons c v => cases h2
      | cons c v =>
        cases u with
        | nil => cases h2
        | cons d w =>
          have h3 : c.1 = d.1 := (List.cons.inj h2).1
          simp only [orderedH]
          rw [h1, h3, ih (d :: w) h2]
theorem set_keys {l : List Hold} {p : Nat} (hp : p < l.length) {h : Hold} (hk : h.1 = (l[p]).1) : (l.set p h).map (·.1) = l.map (·.1) := by
  rw [List.map_set, hk]
  apply List.ext_getElem?
  intro i
  rw [List.getElem?_set]
  by_cases e : p = i
  · subst e
    rw [if_pos rfl, if_pos (by simpa using hp), List.getElem?_map, List.getElem?_eq_getElem hp]
    rfl
  · rw [if_neg e]
theorem set_pos {l : List Hold} (ho : orderedH l = true) {key : Key} (hh : hasAtH l key = true) {h : Hold} (hk : h.1 = key) : posEH (l.set (posEH l key) h) key = posEH l key := by
  obtain ⟨hp, he⟩ := hasAt_ltH hh
  refine posE_ofH key _ _ (by rw [List.length_set]; omega) (fun x hx hxp => ?_) (fun x hx hxp => ?_)
  · rw [List.getElem_set_ne (by omega)]
    exact posE_ltH key l x (by rw [List.length_set] at hx; exact hx) hxp
  · rcases Nat.lt_or_eq_of_le hxp with c | c
    · rw [List.getElem_set_ne (by omega)]
      exact posE_geH ho key x (by rw [List.length_set] at hx; exact hx) hxp
    · simp only [← c, List.getElem_set_self]
      rw [hk, ordK_zero.2 rfl]; decide
theorem set_get {l : List Hold} {key : Key} (hh : hasAtH l key = true) (h : Hold) : (l.set (posEH l key) h)[posEH l key]? = some h := by
  obtain ⟨hp, _⟩ := hasAt_ltH hh
  rw [List.getElem?_set, if_pos rfl, if_pos hp]
theorem set_has {l : List Hold} (ho : orderedH l = true) {key : Key} (hh : hasAtH l key = true) {h : Hold} (hk : h.1 = key) : hasAtH (l.set (posEH l key) h) key = true := by
  unfold hasAtH
  rw [set_pos ho hh hk, set_get hh]
  exact decide_eq_true hk
theorem set_ordered {l : List Hold} (ho : orderedH l = true) {key : Key} (hh : hasAtH l key = true) {h : Hold} (hk : h.1 = key) : orderedH (l.set (posEH l key) h) = true := by
  obtain ⟨hp, he⟩ := hasAt_ltH hh
  rw [ordered_keys _ l (set_keys hp (by rw [hk, he]))]
  exact ho
theorem set_find {l : List Hold} (ho : orderedH l = true) {key : Key} (hh : hasAtH l key = true) {h : Hold} (hk : h.1 = key) : findEH (l.set (posEH l key) h) key = some h := by
  rw [has_findH (set_ordered ho hh hk), if_pos (set_has ho hh hk), set_pos ho hh hk, set_get hh]
theorem find_set_other : ∀ (l : List Hold) (p : Nat) (hp : p < l.length) (h : Hold) (key : Key), (l[p]).1 ≠ key → h.1 ≠ key → findEH (l.set p h) key = findEH l key := by
  intro l
  induction l with
  | nil => intro p hp; exact absurd hp (Nat.not_lt_zero _)
  | cons a t ih =>
    intro p hp h key h1 h2
    cases p with
    | zero =>
      have h1 : a.1 ≠ key := h1
      unfold findEH
      rw [List.set_cons_zero, List.find?_cons, List.find?_cons, show keyIsH key h = false from decide_eq_false h2, show keyIsH key a = false from decide_eq_false h1]
    | succ p =>
      have := ih p (by simpa using hp) h key h1 h2
      unfold findEH at this ⊢
      rw [List.set_cons_succ, List.find?_cons, List.find?_cons, this]
theorem set_ok {l : List Hold} (ok : ledOK l = true) {key : Key} (hh : hasAtH l key = true) {h : Hold} (hk : h.1 = key) (hok : holdOK h = true) : ledOK (l.set (posEH l key) h) = true := by
  obtain ⟨h1, h2, h3⟩ := led_parts ok
  unfold ledOK
  rw [set_ordered h2 hh hk, decide_eq_true (show (l.set (posEH l key) h).length ≤ 256 by rw [List.length_set]; exact h3)]
  have ha : (l.set (posEH l key) h).all holdOK = true := List.all_eq_true.2 fun x hx => by
    rcases List.mem_or_eq_of_mem_set hx with hx | hx
    · exact List.all_eq_true.1 h1 x hx
    · rw [hx]; exact hok
  rw [ha]; rfl
theorem insH_ok {l : List Hold} {h : Hold} (ok : ledOK l = true) (hok : holdOK h = true) (hh : hasAtH l h.1 = false) (h7 : l.length ≠ 256) : ledOK (insLH l h) = true := by
  obtain ⟨h1, h2, h3⟩ := led_parts ok
  unfold ledOK
  rw [ins_orderedH h l h2 hh, decide_eq_true (show (insLH l h).length ≤ 256 by rw [ins_lengthH]; omega)]
  have ha : (insLH l h).all holdOK = true := List.all_eq_true.2 fun x hx => by
    rcases ins_memH hx with hx | hx
    · exact List.all_eq_true.1 h1 x hx
    · rw [hx]; exact hok
  rw [ha]; rfl
theorem find_mem {l : List Hold} {key : Key} {h : Hold} (e : findEH l key = some h) : h ∈ l ∧ h.1 = key := by
  have h2 : keyIsH key h = true := List.find?_some e
  exact ⟨List.mem_of_find?_eq_some e, of_decide_eq_true h2⟩
theorem with_set {l : List Hold} {h : Hold} (hh : hasAtH l h.1 = true) : withL l h = (l.set (posEH l h.1) h, true) := by unfold withL; rw [if_pos hh]
theorem with_full {l : List Hold} {h : Hold} (hh : hasAtH l h.1 = false) (h7 : l.length = 256) : withL l h = (l, false) := by unfold withL; rw [if_neg (by rw [hh]; simp), if_pos h7]
theorem with_ins {l : List Hold} {h : Hold} (hh : hasAtH l h.1 = false) (h7 : l.length ≠ 256) : withL l h = (insLH l h, true) := by unfold withL; rw [if_neg (by rw [hh]; simp), if_neg h7]
theorem with_again {l : List Hold} (ho : orderedH l = true) {h : Hold} (hm : (withL l h).2 = true) : findEH (withL l h).1 h.1 = some h ∧ withL (withL l h).1 h = ((withL l h).1, true) := by
  cases hh : hasAtH l h.1 with
  | true =>
    rw [with_set hh]
    refine ⟨set_find ho hh rfl, ?_⟩
    rw [with_set (set_has ho hh rfl), set_pos ho hh rfl, List.set_set]
  | false =>
    by_cases h7 : l.length = 256
    · rw [with_full hh h7] at hm; cases hm
    rw [with_ins hh h7]
    refine ⟨ins_findH l h (ins_orderedH h l ho hh), ?_⟩
    rw [with_set (ins_hasH l h), ins_posH, ins_setH l h h rfl]
theorem with_ok {l : List Hold} (ok : ledOK l = true) {h : Hold} (hok : holdOK h = true) (hm : (withL l h).2 = true) : ledOK (withL l h).1 = true := by
  cases hh : hasAtH l h.1 with
  | true => rw [with_set hh]; exact set_ok ok hh rfl hok
  | false =>
    by_cases h7 : l.length = 256
    · rw [with_full hh h7] at hm; cases hm
    rw [with_ins hh h7]; exact insH_ok ok hok hh h7
theorem with_mem {l : List Hold} {h x : Hold} (hx : x ∈ (withL l h).1) : x ∈ l ∨ x = h := by
  unfold withL at hx
  split at hx
  · exact List.mem_or_eq_of_mem_set hx
  · split at hx
    · exact .inl hx
    · exact ins_memH hx
theorem with_other {l : List Hold} {h : Hold} {key : Key} (hne : key ≠ h.1) : findEH (withL l h).1 key = findEH l key := by
  cases hh : hasAtH l h.1 with
  | true =>
    obtain ⟨hp, he⟩ := hasAt_ltH hh
    rw [with_set hh]
    exact find_set_other l _ hp h key (by rw [he]; exact fun e => hne e.symm) (fun e => hne e.symm)
  | false =>
    by_cases h7 : l.length = 256
    · rw [with_full hh h7]
    rw [with_ins hh h7]; exact ins_find_otherH hne
theorem doL_bad {l : List Hold} {d : Deal} {ap : Bool} (h : ¬ (ledOK l = true ∧ dealOK d = true)) : doL l d ap = (l, zeroD, 1) := by unfold doL; rw [if_neg h]
theorem ask_holdOK {d : Deal} (h : dealOK d = true) (h1 : asksK d.1 = true) {st : Int} (s1 : 1 ≤ st) (s3 : st ≤ 3) : holdOK (keyD d, d.2.2.1, st, ()) = true := by
  obtain ⟨_, _, hs, hr, hc⟩ := ok_parts h
  rcases hc with ⟨_, _, _, ha, _⟩ | ⟨h0, _⟩
  · unfold holdOK keyOK keyD
    (try simp only [])
    rw [decide_eq_true hs, hr, decide_eq_true ha, decide_eq_true s1, decide_eq_true s3]; rfl
  · rw [h1] at h0; cases h0
end Go.Proofs.YtjgnpmdbkgeakaaDoor.G
end
section
set_option linter.unusedVariables false
set_option linter.unusedSimpArgs false
set_option maxRecDepth 100000
namespace Go.Proofs.YtjgnpmdbkgeakaaDoor.G
open Go Go.Proofs.YtjgnpmdbkgeakaaDoor Th
theorem shortK (k : Nat) (a : Key) : G25 k (a, ()) = some (decide (a.2.1.length ≤ 300), ()) := by
  rw [G25_eq]
  have : decide ((Int.ofNat a.2.1.length) ≤ 300) = decide (a.2.1.length ≤ 300) := decide_eq_decide.2 (by simp only [Int.ofNat_eq_natCast]; omega)
  simp only [this]
theorem shortH_loop (k : Nat) (l : List Hold) : ∀ (j i : Nat), i + j = (l.take 300).length → ∀ n, j < n →
    G69_2 k n ((i : Int), l, ()) = some (sel (((l.take 300).drop i).all (fun e => decide (e.1.2.1.length ≤ 300))) (.inl (l, ())) (.inr (false, ()))) := by
  intro j
  induction j with
  | zero =>
    intro i hij n hn
    obtain ⟨n, rfl⟩ : ∃ m, n = m + 1 := ⟨n - 1, by omega⟩
    rw [List.drop_eq_nil_of_le (by omega), G69_2_eq]
    rw [List.length_take] at hij
    simp only [ofNat_len]
    by_cases h : i < l.length
    · rw [sel_pos (by omega), sel_neg (by omega)]; rfl
    · rw [sel_neg (by omega)]; rfl
  | succ j ih =>
    intro i hij n hn
    obtain ⟨n, rfl⟩ : ∃ m, n = m + 1 := ⟨n - 1, by omega⟩
    have hlt' : i < (l.take 300).length := by omega
    have hij' := hij
    rw [List.length_take] at hij'
    have hlt : i < l.length := by omega
    have hw : IntKind.i64.wrap ((i : Int) + 1) = ((i + 1 : Nat) : Int) := by rw [wrap64 (by omega) (by omega)]; omega
    have he : (l.take 300)[i] = l[i] := List.getElem_take
    have hS : G25 k (((l[i]).1.1, (l[i]).1.2.1, ()), ()) = _ := shortK k l[i].1
    rw [G69_2_eq]
    simp only [ofNat_len, Int.toNat_natCast, getD_of hlt]
    rw [sel_pos (by omega), sel_pos (by omega), sel_pos (by omega), sel_pos (by omega), hS, ocall_some, List.drop_eq_getElem_cons hlt', he, List.all_cons]
    by_cases c : (l[i]).1.2.1.length ≤ 300
    · rw [decide_eq_true c, Bool.not_true, sel_false, hw, ih (i + 1) (by omega) n (by omega), Bool.true_and]
    · rw [decide_eq_false c, Bool.not_false, sel_true, Bool.false_and]; rfl
theorem G69_is (k : Nat) (hk : 301 < k) (l : List Hold) : ∃ b, G69 k ((l, ()), ()) = some (b, ()) ∧ (b = true → l.length ≤ 300 ∧ lensHs l) := by
  have h := shortH_loop k l (l.take 300).length 0 (by omega) k (by rw [List.length_take]; omega)
  rw [List.drop_zero, Int.natCast_zero] at h
  rw [G69_eq, h, ocall_some]
  cases c : (l.take 300).all (fun e => decide (e.1.2.1.length ≤ 300)) with
  | true =>
    rw [sel_true, esel_inl]
    refine ⟨_, rfl, fun h => ?_⟩
    have hle : l.length ≤ 300 := by have := of_decide_eq_true h; simp only [ofNat_len] at this; omega
    rw [List.take_of_length_le (by omega)] at c
    exact ⟨hle, fun e he => by simpa using List.all_eq_true.1 c e he⟩
  | false =>
    rw [sel_false, esel_inr]
    exact ⟨_, rfl, fun h => absurd h (by simp)⟩
theorem sameH_loop (k : Nat) (a b : List Hold) (hab : a.length = b.length) (hl : a.length ≤ 1000000) : ∀ (j i : Nat), i + j = a.length → ∀ n, j < n →
    G77_4 k n ((i : Int), a, b, ()) = some (sel (decide (a.drop i = b.drop i)) (.inl ()) (.inr (false, ()))) := by
  intro j
  induction j with
  | zero =>
    intro i hij n hn
    obtain ⟨n, rfl⟩ : ∃ m, n = m + 1 := ⟨n - 1, by omega⟩
    rw [G77_4_eq, sel_neg (by simp only [ofNat_len]; omega), List.drop_eq_nil_of_le (by omega), List.drop_eq_nil_of_le (by omega), decide_eq_true rfl]
    rfl
  | succ j ih =>
    intro i hij n hn
    obtain ⟨n, rfl⟩ : ∃ m, n = m + 1 := ⟨n - 1, by omega⟩
    have hlt : i < a.length := by omega
    have hlt' : i < b.length := by omega
    have hw : IntKind.i64.wrap ((i : Int) + 1) = ((i + 1 : Nat) : Int) := by rw [wrap64 (by omega) (by omega)]; omega
    rw [G77_4_eq]
    simp only [ofNat_len, Int.toNat_natCast, getD_of hlt, getD_of hlt', hw]
    rw [sel_pos (by omega), sel_pos (by omega), sel_pos (by omega), sel_pos (by omega), sel_pos (by omega), sameHo, List.drop_eq_getElem_cons hlt, List.drop_eq_getElem_cons hlt', ih (i + 1) (by omega) n (by omega)]
    by_cases c : a[i] = b[i]
    · rw [decide_eq_true c, Bool.not_true, sel_false]
      have e : decide (a[i] :: a.drop (i + 1) = b[i] :: b.drop (i + 1)) = decide (a.drop (i + 1) = b.drop (i + 1)) := decide_eq_decide.2 ⟨fun h => (List.cons.inj h).2, fun h => by rw [c, h]⟩
      rw [e]
    · rw [decide_eq_false c, Bool.not_false, sel_true, decide_eq_false (fun h => c (List.cons.inj h).1)]; rfl
theorem G77_is (k : Nat) (a b : List Hold) (hl : a.length ≤ 1000000) (hk : a.length < k) : G77 k ((a, ()), (b, ()), ()) = some (decide (a = b), ()) := by
  rw [G77_eq]
  simp only [ofNat_len]
  by_cases h2 : a.length = b.length
  case neg => rw [sel_not, sel_neg (by omega), decide_eq_false (fun e => h2 (by rw [e]))]
  have := sameH_loop k a b h2 hl a.length 0 (by omega) k hk
  simp only [List.drop_zero, Int.natCast_zero] at this
  rw [sel_not, sel_pos (by omega), this, ocall_some]
  cases decide (a = b) <;> rfl
theorem do_in {l : List Hold} {d : Deal} {ap : Bool} {x : Hold} (hx : x ∈ (doL l d ap).1) : x ∈ l ∨ (∃ h, h ∈ l ∧ x.1 = h.1 ∧ x.2.1 = h.2.1) ∨ (x.1 = keyD d ∧ x.2.1 = d.2.2.1) := by
  have wi : ∀ {h : Hold}, x ∈ (withL l h).1 → x ∈ l ∨ x = h := fun h => with_mem h
  have bk : ∀ {h : Hold}, x ∈ (backL l h).1 → x ∈ l ∨ x = h := fun {h} e => by
    unfold backL at e
    split at e
    · exact wi e
    · exact .inl e
  unfold doL at hx
  split at hx
  · split at hx
    · unfold askL at hx
      split at hx
      · split at hx
        · split at hx <;> exact .inl hx
        · exact .inl hx
      · split at hx <;> split at hx
        · rcases wi hx with e | e
          · exact .inl e
          · rw [e]; exact .inr (.inr ⟨rfl, rfl⟩)
        · exact .inl hx
        · rcases wi hx with e | e
          · exact .inl e
          · rw [e]; exact .inr (.inr ⟨rfl, rfl⟩)
        · exact .inl hx
    · split at hx
      · unfold advL at hx
        split at hx
        · rename_i h hf
          rcases bk hx with e | e
          · exact .inl e
          · rw [e]; exact .inr (.inl ⟨h, (find_mem hf).1, rfl, rfl⟩)
        · rcases bk hx with e | e
          · exact .inl e
          · rw [e]; exact .inr (.inr ⟨rfl, rfl⟩)
      · exact .inl hx
  · exact .inl hx
theorem do_lens {l : List Hold} {d : Deal} (ap : Bool) (hl : lensHs l) (hd : lens 300 d) : lensHs (doL l d ap).1 := fun x hx => by
  rcases do_in hx with h | ⟨h, hm, e, _⟩ | ⟨e, _⟩
  · exact hl x h
  · rw [e]; exact hl h hm
  · rw [e]; exact hd.2.1
theorem do_good {l : List Hold} {d : Deal} (ap : Bool) (hl : goodHs l) (hd : goodD d) : goodHs (doL l d ap).1 := fun x hx => by
  rcases do_in hx with h | ⟨h, hm, e, e2⟩ | ⟨e, e2⟩
  · exact hl x h
  · unfold goodHo; rw [e, e2]; exact hl h hm
  · unfold goodHo; rw [e, e2]; exact ⟨hd.2, hd.1⟩
end Go.Proofs.YtjgnpmdbkgeakaaDoor.G
end
section
set_option linter.unusedVariables false
set_option linter.unusedSimpArgs false
set_option maxRecDepth 100000
namespace Go.Proofs.YtjgnpmdbkgeakaaDoor.G
open Go Go.Proofs.YtjgnpmdbkgeakaaDoor Th
theorem shortDO (k : Nat) (d : Deal) : G24 k (d, ()) = some (decide (lens 300 d), ()) := by
  obtain ⟨kind, pan, amt, stan, rrn, code, ⟨⟩⟩ := d
  rw [G24_eq]
  simp only [ofNat_len]
  by_cases h : lens 300 (kind, pan, amt, stan, rrn, code, ())
  · have h1 : pan.length ≤ 300 := h.1
    have h2 : rrn.length ≤ 300 := h.2.1
    have h3 : code.length ≤ 300 := h.2.2
    rw [sel_pos (by omega), sel_pos (by omega), decide_eq_true h, decide_eq_true (show (code.length : Int) ≤ 300 by omega)]
  · rw [decide_eq_false h]
    by_cases h1 : pan.length ≤ 300
    · rw [sel_pos (by omega)]
      by_cases h2 : rrn.length ≤ 300
      · have h3 : ¬ code.length ≤ 300 := fun e => h ⟨h1, h2, e⟩
        rw [sel_pos (by omega), decide_eq_false (show ¬ (code.length : Int) ≤ 300 by omega)]
      · rw [sel_neg (by omega)]
    · rw [sel_neg (by omega)]
theorem rf39O (s : Txt) : rightF 39 s = (decide (s.length = 2) && s.all Signs.plain) := by
  have : defOf 39 = some (39, 2, 2, ()) := rfl
  unfold rightF; rw [this]
  simp [sized, ahead, signs, Signs.signsOf]
  by_cases h : s.length = 2 <;> simp [h]; omega
theorem code_len {c : Txt} (h : rightF 39 c = true) : c.length ≤ 300 := by
  rw [rf39O] at h
  simp only [Bool.and_eq_true, decide_eq_true_eq] at h
  omega
structure StepL (l : List Hold) (d : Deal) (m : List Hold) (code : Txt) (kind : Int) : Prop where
  ok : ledOK m = true
  right : rightF 39 code = true
  kept : ∀ h, findEH l (keyD d) = some h → ∃ h', findEH m (keyD d) = some h' ∧ h'.2.1 = h.2.1 ∧ (h'.2.2.1 = h.2.2.1 ∨ h'.2.2.1 = 3)
  new : findEH l (keyD d) = none → ∀ h', findEH m (keyD d) = some h' → h'.2.1 = d.2.2.1
  fine : kind = 2 → code = [48, 48] → ∃ h', findEH m (keyD d) = some h' ∧ h'.2.2.1 = 1 ∧ h'.2.1 = d.2.2.1
  back : kind = 7 → code = [48, 48] → ∃ h', findEH m (keyD d) = some h' ∧ h'.2.2.1 = 3
  other : ∀ key, key ≠ keyD d → findEH m key = findEH l key
theorem step_same {l : List Hold} {d : Deal} (ok : ledOK l = true) {code : Txt} (hc : rightF 39 code = true) {kind : Int}
    (h2 : kind = 2 → code = [48, 48] → ∃ h', findEH l (keyD d) = some h' ∧ h'.2.2.1 = 1 ∧ h'.2.1 = d.2.2.1) (h7 : kind = 7 → code = [48, 48] → ∃ h', findEH l (keyD d) = some h' ∧ h'.2.2.1 = 3) : StepL l d l code kind :=
  ⟨ok, hc, fun h e => ⟨h, e, rfl, .inl rfl⟩, fun e h' e2 => by rw [e] at e2; (cases e2), h2, h7, fun _ _ => rfl⟩
theorem ask_step {l : List Hold} {d : Deal} (ok : ledOK l = true) (dk : dealOK d = true) (h1 : d.1 = 1) (ap : Bool) : StepL l d (askL l d ap).1 (askL l d ap).2 2 := by
  obtain ⟨_, ho, _⟩ := led_parts ok
  have hask : asksK d.1 = true := by rw [h1]; rfl
  unfold askL
  cases hf : findEH l (keyD d) with
  | some h =>
    (try simp only [])
    by_cases c2 : h.2.2.1 = 1
    · by_cases c3 : h.2.1 = d.2.2.1
      · rw [if_pos c2, if_pos c3]
        exact step_same ok (by rfl) (fun _ _ => ⟨h, hf, c2, c3⟩) (fun e => absurd e (by decide))
      · rw [if_pos c2, if_neg c3]
        exact step_same ok (by rfl) (fun _ e => absurd (show ([57, 52] : Txt) = [48, 48] from e) (by decide)) (fun e => absurd e (by decide))
    · rw [if_neg c2]
      exact step_same ok (by rfl) (fun _ e => absurd (show ([48, 53] : Txt) = [48, 48] from e) (by decide)) (fun e => absurd e (by decide))
  | none =>
    (try simp only [])
    have st : ∀ c : Bool, (1 : Int) ≤ (if c = true then 1 else 2) ∧ (if c = true then (1 : Int) else 2) ≤ 3 := fun c => by cases c <;> simp
    by_cases hm : (withL l (keyD d, d.2.2.1, if ap = true then 1 else 2, ())).2 = true
    · rw [if_pos hm]
      have ok2 := with_ok ok (ask_holdOK dk hask (st ap).1 (st ap).2) hm
      have hf2 := (with_again ho hm).1
      have hf2' : findEH (withL l (keyD d, d.2.2.1, if ap = true then 1 else 2, ())).1 (keyD d) = some (keyD d, d.2.2.1, if ap = true then 1 else 2, ()) := hf2
      refine ⟨ok2, by cases ap <;> rfl, fun h e => by rw [hf] at e; (cases e), fun _ h' e => by rw [hf2'] at e; cases e; rfl, fun _ e => ⟨_, hf2', ?_, rfl⟩, fun e => absurd e (by decide), fun key hk => with_other hk⟩
      cases ap with
      | true => rfl
      | false => exact absurd (show ([48, 53] : Txt) = [48, 48] from e) (by decide)
    · rw [if_neg hm]
      exact step_same ok (by rfl) (fun _ e => absurd (show ([57, 54] : Txt) = [48, 48] from e) (by decide)) (fun e => absurd e (by decide))
theorem back_step {l : List Hold} {d : Deal} (ok : ledOK l = true) {h : Hold} (hk : h.1 = keyD d) (h3 : h.2.2.1 = 3) (hok : holdOK h = true)
    (hs : ∀ h0, findEH l (keyD d) = some h0 → h.2.1 = h0.2.1) (hn : findEH l (keyD d) = none → h.2.1 = d.2.2.1) : StepL l d (backL l h).1 (backL l h).2 7 := by
  obtain ⟨_, ho, _⟩ := led_parts ok
  unfold backL
  by_cases hm : (withL l h).2 = true
  · rw [if_pos hm]
    have hf2 := (with_again ho hm).1
    rw [hk] at hf2
    refine ⟨with_ok ok hok hm, by rfl, fun h0 e => ⟨h, hf2, hs h0 e, .inr h3⟩, fun e h' e2 => ?_, fun e => absurd e (by decide), fun _ _ => ⟨h, hf2, h3⟩, fun key hne => with_other (by rw [hk]; exact hne)⟩
    rw [hf2] at e2; cases e2; exact hn e
  · rw [if_neg hm]
    exact step_same ok (by rfl) (fun e => absurd e (by decide)) (fun _ e => absurd (show ([57, 54] : Txt) = [48, 48] from e) (by decide))
theorem adv_step {l : List Hold} {d : Deal} (ok : ledOK l = true) (dk : dealOK d = true) (h5 : d.1 = 5 ∨ d.1 = 6) : StepL l d (advL l d).1 (advL l d).2 7 := by
  have hask : asksK d.1 = true := by rcases h5 with h | h <;> rw [h] <;> rfl
  unfold advL
  cases hf : findEH l (keyD d) with
  | some h =>
    obtain ⟨hm, hk⟩ := find_mem hf
    obtain ⟨p1, p2, _, _⟩ := hold_parts (List.all_eq_true.1 (led_parts ok).1 h hm)
    have hok : holdOK (h.1, h.2.1, 3, ()) = true := by
      unfold holdOK
      (try simp only [])
      rw [p1, decide_eq_true p2]; rfl
    exact back_step ok hk rfl hok (fun h0 e => by rw [hf] at e; cases e; rfl) (fun e => by rw [hf] at e; (cases e))
  | none => exact back_step ok rfl rfl (ask_holdOK dk hask (by decide) (by decide)) (fun h0 e => by rw [hf] at e; (cases e)) (fun _ => rfl)
theorem ans_ok {d : Deal} (dk : dealOK d = true) {kind : Int} (h : kind = 2 ∨ kind = 7) {code : Txt} (hc : rightF 39 code = true) : dealOK (kind, [], 0, d.2.2.2.1, d.2.2.2.2.1, code, ()) = true := by
  obtain ⟨_, _, hs, hr, _⟩ := ok_parts dk
  unfold dealOK
  have ha : ¬ asksK kind = true := by rcases h with h | h <;> rw [h] <;> decide
  rw [if_neg ha]
  simp only [hr, hc, decide_eq_true hs]
  rcases h with h | h <;> subst h <;> rfl
theorem do_step {l : List Hold} {d : Deal} {ap : Bool} (e : (doL l d ap).2.2 = 0) : (doL l d ap).2.1.1 = 2 ∧ StepL l d (doL l d ap).1 (doL l d ap).2.1.2.2.2.2.2.1 2 ∧ dealOK (doL l d ap).2.1 = true ∧ keyD (doL l d ap).2.1 = keyD d ∨ (doL l d ap).2.1.1 = 7 ∧ StepL l d (doL l d ap).1 (doL l d ap).2.1.2.2.2.2.2.1 7 ∧ dealOK (doL l d ap).2.1 = true ∧ keyD (doL l d ap).2.1 = keyD d := by
  by_cases ok : ledOK l = true ∧ dealOK d = true
  case neg => rw [doL_bad ok] at e; exact absurd e (show ¬ ((1 : Int) = 0) by decide)
  unfold doL at e ⊢
  rw [if_pos ok] at e ⊢
  by_cases c1 : d.1 = 1
  · rw [if_pos c1]
    have s := ask_step ok.1 ok.2 c1 ap
    exact .inl ⟨rfl, s, ans_ok ok.2 (.inl rfl) s.right, rfl⟩
  rw [if_neg c1] at e ⊢
  by_cases c5 : d.1 = 5 ∨ d.1 = 6
  · rw [if_pos c5]
    have s := adv_step ok.1 ok.2 c5
    exact .inr ⟨rfl, s, ans_ok ok.2 (.inr rfl) s.right, rfl⟩
  · rw [if_neg c5] at e; exact absurd e (show ¬ ((3 : Int) = 0) by decide)
theorem do_none {l : List Hold} {d : Deal} {ap : Bool} (e : (doL l d ap).2.2 ≠ 0) : (doL l d ap).1 = l ∧ (doL l d ap).2.1 = zeroD := by
  by_cases ok : ledOK l = true ∧ dealOK d = true
  case neg => rw [doL_bad ok]; exact ⟨rfl, rfl⟩
  unfold doL at e ⊢
  rw [if_pos ok] at e ⊢
  by_cases c1 : d.1 = 1
  · rw [if_pos c1] at e; exact absurd rfl e
  rw [if_neg c1] at e ⊢
  by_cases c5 : d.1 = 5 ∨ d.1 = 6
  · rw [if_pos c5] at e; exact absurd rfl e
  · rw [if_neg c5]; exact ⟨rfl, rfl⟩
theorem find_get {l : List Hold} (ho : orderedH l = true) : ∀ {n : Nat} (hn : n < l.length), findEH l l[n].1 = some l[n] := by
  induction l with
  | nil => intro n hn; exact absurd hn (Nat.not_lt_zero _)
  | cons a t ih =>
    intro n hn
    unfold findEH
    rw [List.find?_cons]
    unfold keyIsH
    cases n with
    | zero => simp
    | succ n =>
      have hn' : n < t.length := by simpa using hn
      have hne : a.1 ≠ t[n].1 := fun e => by
        have h := ordered_ltH ho t[n] (List.getElem_mem hn')
        rw [e, ordK_zero.2 rfl] at h
        exact absurd h (by decide)
      have e : decide (a.1 = ((a :: t)[n + 1]).1) = false := decide_eq_false hne
      rw [e]
      exact ih (ordered_tailH ho) hn'
theorem doL_lenOK {l : List Hold} {d : Deal} {ap : Bool} (e : (doL l d ap).2.2 = 0) : (doL l d ap).1.length ≤ 256 := by
  rcases do_step e with ⟨_, s, _⟩ | ⟨_, s, _⟩ <;> exact (led_parts s.ok).2.2
end Go.Proofs.YtjgnpmdbkgeakaaDoor.G
end
section
set_option linter.unusedVariables false
set_option linter.unusedSimpArgs false
set_option maxRecDepth 100000
namespace Go.Proofs.YtjgnpmdbkgeakaaDoor.PureLedgerOnce
open Go Go.Proofs.YtjgnpmdbkgeakaaDoor Th G
theorem others (k : Nat) (hk : 2000 < k) (v0 : List Deal) (v1 : List Bool) (v2 : Int) (l m : List Hold) (d : Deal) (ho : orderedH l = true) (hn : l.length ≤ 1000) (hm : m.length ≤ 1000) (ht : ∀ key, key ≠ keyD d → findEH m key = findEH l key) (hkp : ∀ h, findEH l (keyD d) = some h → ∃ h', findEH m (keyD d) = some h') : ∀ (j i : Nat), i + j = l.length → ∀ n, j < n →
    G15_22 k n (v0, v1, v2, (i : Int), l, d.1, d.2.1, d.2.2.1, d.2.2.2.1, d.2.2.2.2.1, d.2.2.2.2.2.1, m, ()) = some (.inl (v0, v1, v2, l, m, ())) := by
  intro j
  induction j with
  | zero =>
    intro i hij n hn'
    obtain ⟨n, rfl⟩ : ∃ m, n = m + 1 := ⟨n - 1, by omega⟩
    rw [G15_22_eq, sel_neg (by simp only [ofNat_len]; omega)]
  | succ j ih =>
    intro i hij n hn'
    obtain ⟨n, rfl⟩ : ∃ m, n = m + 1 := ⟨n - 1, by omega⟩
    have hlt : i < l.length := by omega
    have hi := ih (i + 1) (by omega) n (by omega)
    have hw : IntKind.i64.wrap ((i : Int) + 1) = ((i + 1 : Nat) : Int) := by rw [wrap64 (by omega) (by omega)]; omega
    have hF : G70 k ((m, ()), ((l[i]).1.1, (l[i]).1.2.1, ()), ()) = _ := G70_is k m (by omega) (by omega) l[i].1
    have hs : (sameI (l[i]).1.1 (keyD d).1 && (sameS (l[i]).1.2.1 (keyD d).2.1 && true)) = decide ((l[i]).1 = keyD d) := sameK (l[i]).1 (keyD d)
    have hg := find_get ho hlt
    have hO : G26 k ((d.1, d.2.1, d.2.2.1, d.2.2.2.1, d.2.2.2.2.1, d.2.2.2.2.2.1, ()), ()) = some (keyD d, ()) := G26_is k d
    have hE := sameHo l[i] l[i]
    rw [decide_eq_true rfl] at hE
    rw [G15_22_eq]
    simp only [ofNat_len, Int.toNat_natCast, getD_of hlt, hw]
    rw [sel_pos (by omega), sel_pos (by omega), sel_pos (by omega), hF, ocall_some, sel_pos (by omega), sel_pos (by omega), hO]
    by_cases c : (l[i]).1 = keyD d
    · obtain ⟨h', e⟩ := hkp _ (by rw [← c]; exact hg)
      rw [c, e]
      simp only [Bool.not_true, sel_false]
      rw [ocall_some]
      (try simp only [])
      rw [sameK (keyD d) (keyD d), decide_eq_true rfl, Bool.not_true, sel_false]
      exact hi
    · rw [ht _ c, hg]
      simp only [Bool.not_true, sel_false]
      rw [ocall_some]
      (try simp only [])
      rw [hs, decide_eq_false c, Bool.not_false, sel_true, sel_pos (by omega), sel_pos (by omega), hE, Bool.not_true, sel_false]
      exact hi
theorem loop (k : Nat) (hk : 3000 < k) (v0 : List Deal) (v1 : List Bool) (h01 : v0.length ≤ v1.length) (h60 : v0.length ≤ 60) (gd : ∀ d ∈ v0, goodD d) : ∀ (j i : Nat), i + j = v0.length → ∀ n, j < n → ∀ (l : List Hold), lensHs l → goodHs l → ledOK l = true →
    ∃ z, G15_6 k n (v0, v1, (i : Int), l, ()) = some z ∧ (z = .inl () ∨ z = .inr (true, ())) := by
  intro j
  induction j with
  | zero =>
    intro i hij n hn' l hl hg ok
    obtain ⟨n, rfl⟩ : ∃ m, n = m + 1 := ⟨n - 1, by omega⟩
    rw [G15_6_eq, sel_neg (by simp only [ofNat_len]; omega)]
    exact ⟨_, rfl, .inl rfl⟩
  | succ j ih =>
    intro i hij n hn' l hl hg ok
    obtain ⟨n, rfl⟩ : ∃ m, n = m + 1 := ⟨n - 1, by omega⟩
    have hlt : i < v0.length := by omega
    have hlt1 : i < v1.length := by omega
    have hw : IntKind.i64.wrap ((i : Int) + 1) = ((i + 1 : Nat) : Int) := by rw [wrap64 (by omega) (by omega)]; omega
    have hi := fun m hl hg ok => ih (i + 1) (by omega) n (by omega) m hl hg ok
    have gd' := gd _ (List.getElem_mem hlt)
    have hS := shortDO k v0[i]
    obtain ⟨_, ho, h256⟩ := led_parts ok
    have hDo := fun (hd : lens 300 v0[i]) => G72_is k (by omega) l hl hg (by omega) v0[i] hd gd' v1[i]
    have hk2 : 2000 < k := by omega
    have h1000 : l.length ≤ 1000 := by omega
    have hlk : l.length < k := by omega
    have hoth := fun (m : List Hold) (hm : m.length ≤ 1000) (ht : ∀ key, key ≠ keyD v0[i] → findEH m key = findEH l key) (hkp : ∀ h, findEH l (keyD v0[i]) = some h → ∃ h', findEH m (keyD v0[i]) = some h') => others k hk2 v0 v1 (i : Int) l m v0[i] ho h1000 hm ht hkp l.length 0 (Nat.zero_add _) k hlk
    have hO := G26_is k v0[i]
    have dn := @do_none l v0[i] v1[i]
    have ds := @do_step l v0[i] v1[i]
    have dlen := do_lens (d := v0[i]) v1[i] hl
    have dgood := do_good v1[i] hg gd'
    have dl := @doL_lenOK l v0[i] v1[i]
    have hFl := G70_is k l (by omega) (by omega) (keyD v0[i])
    rw [G15_6_eq]
    simp only [ofNat_len, Int.toNat_natCast, getD_of hlt, getD_of hlt1, hw]
    rw [sel_pos (by omega), sel_pos (by omega), sel_pos (by omega)]
    generalize v0[i] = d at *
    generalize v1[i] = ap at *
    rw [show G24 k ((d.1, d.2.1, d.2.2.1, d.2.2.2.1, d.2.2.2.2.1, d.2.2.2.2.2.1, ()), ()) = _ from hS, ocall_some]
    by_cases hd : lens 300 d
    case neg => rw [decide_eq_false hd]; exact ⟨_, rfl, .inr rfl⟩
    rw [decide_eq_true hd]
    simp only [Bool.not_true, sel_false]
    rw [sel_pos (by omega), sel_pos (by omega), show G72 k ((l, ()), (d.1, d.2.1, d.2.2.1, d.2.2.2.1, d.2.2.2.2.1, d.2.2.2.2.2.1, ()), ap, ()) = _ from hDo hd, ocall_some]
    have dlen := dlen hd
    generalize doL l d ap = r at *
    obtain ⟨m, x, e⟩ := r
    (try simp only [] at dn ds dlen dgood dl ⊢)
    by_cases c : e = 0
    case neg =>
      obtain ⟨e1, e2⟩ := dn c
      subst e1 e2
      rw [sel_not, sel_neg c, G77_is k m m (by omega) (by omega), ocall_some, decide_eq_true rfl, Bool.not_true, sel_false]
      exact hi m hl hg ok
    rw [sel_not, sel_pos c]
    have hm256 := dl c
    have key : ∃ kd, (kd = 2 ∨ kd = 7) ∧ x.1 = kd ∧ StepL l d m x.2.2.2.2.2.1 kd ∧ dealOK x = true ∧ keyD x = keyD d := by
      rcases ds c with ⟨h1, h2, h3, h4⟩ | ⟨h1, h2, h3, h4⟩
      · exact ⟨2, .inl rfl, h1, h2, h3, h4⟩
      · exact ⟨7, .inr rfl, h1, h2, h3, h4⟩
    clear ds dn dl hDo
    obtain ⟨kd, hkd, e1, s, xok, xk⟩ := key
    have hR := G76_is k (by omega) m dlen dgood (by omega)
    rw [s.ok] at hR
    have lx : lens 300 x ∧ goodD x := by
      obtain ⟨p1, p2, p3, p4, p5⟩ := ok_parts xok
      have k1 : x.2.2.2.1 = d.2.2.2.1 := congrArg (fun a : Key => a.1) xk
      have k2 : x.2.2.2.2.1 = d.2.2.2.2.1 := congrArg (fun a : Key => a.2.1) xk
      have ha : asksK x.1 = false := by rw [e1]; rcases hkd with h | h <;> rw [h] <;> rfl
      rcases p5 with ⟨q, _⟩ | ⟨_, q1, q2, q3⟩
      · rw [ha] at q; cases q
      · exact ⟨⟨by rw [q2]; simp, by rw [k2]; exact hd.2.1, code_len q1⟩, ⟨by rw [q3]; decide, by rw [q3]; decide⟩, by rw [k1]; exact gd'.2⟩
    have hX := G33_is k 300 (by omega) (by omega) x lx.1 lx.2
    rw [xok] at hX
    have hFm := G70_is k m (by omega) (by omega) (keyD d)
    have hO' : G26 k ((d.1, d.2.1, d.2.2.1, d.2.2.2.1, d.2.2.2.2.1, d.2.2.2.2.2.1, ()), ()) = some (keyD d, ()) := hO
    have hOx : G26 k ((x.1, x.2.1, x.2.2.1, x.2.2.2.1, x.2.2.2.2.1, x.2.2.2.2.2.1, ()), ()) = some (keyD x, ()) := G26_is k x
    have hX' : G33 k ((x.1, x.2.1, x.2.2.1, x.2.2.2.1, x.2.2.2.2.1, x.2.2.2.2.2.1, ()), ()) = _ := hX
    rw [xk] at hOx
    have hL := hoth m (by omega) s.other (fun h e => by obtain ⟨h', e', _⟩ := s.kept h e; exact ⟨h', e'⟩)
    have hL' : ∃ z, (ocall (G15_22 k k (v0, v1, (i : Int), 0, l, d.1, d.2.1, d.2.2.1, d.2.2.2.1, d.2.2.2.2.1, d.2.2.2.2.2.1, m, ())) fun e => esel e (fun v => G15_6 k n (v.1, v.2.1, IntKind.i64.wrap (v.2.2.1 + 1), v.2.2.2.2.1, ())) fun e => some (Sum.inr (e.1, ()))) = some z ∧ (z = .inl () ∨ z = .inr (true, ())) := by
      rw [Int.natCast_zero] at hL
      rw [hL, ocall_some, esel_inl]
      simp only [hw]
      exact hi m dlen dgood s.ok
    rw [hO', ocall_some]
    (try simp only [])
    rw [show G70 k ((l, ()), ((keyD d).1, (keyD d).2.1, ()), ()) = _ from hFl, ocall_some, ocall_some]
    (try simp only [])
    rw [show G70 k ((m, ()), ((keyD d).1, (keyD d).2.1, ()), ()) = _ from hFm, ocall_some, hR, ocall_some]
    simp only [Bool.not_true, sel_false]
    rw [hX', ocall_some]
    simp only [Bool.not_true, sel_false]
    rw [hOx, ocall_some, ocall_some, sameK (keyD d) (keyD d), decide_eq_true rfl]
    simp only [Bool.not_true, sel_false]
    have kept := s.kept
    have new := s.new
    have fine := s.fine
    have back := s.back
    clear hi hoth hL hFl hFm hX hX' hR hO hO' hOx dlen dgood s
    generalize (ocall (G15_22 k k (v0, v1, (i : Int), 0, l, d.1, d.2.1, d.2.2.1, d.2.2.2.1, d.2.2.2.2.1, d.2.2.2.2.2.1, m, ())) fun e => esel e (fun v => G15_6 k n (v.1, v.2.1, IntKind.i64.wrap (v.2.2.1 + 1), v.2.2.2.2.1, ())) fun e => some (Sum.inr (e.1, ()))) = L at hL'
    generalize x.2.2.2.2.2.1 = code at *
    rw [e1]
    generalize findEH l (keyD d) = F at *
    generalize findEH m (keyD d) = M at *
    have d27 : decide ((2 : Int) = 7) = false := rfl
    have d72 : decide ((7 : Int) = 2) = false := rfl
    have d22 : decide ((2 : Int) = 2) = true := rfl
    have d77 : decide ((7 : Int) = 7) = true := rfl
    cases F with
    | some h =>
      obtain ⟨h', rfl, a1, a2⟩ := kept h rfl
      simp only [Bool.not_true, sel_false, sel_true, a1, decide_true]
      rcases hkd with rfl | rfl
      · by_cases cc : code = [48, 48]
        · obtain ⟨h1, f0, f1, f2⟩ := fine rfl cc
          cases f0
          rw [a1] at f2
          simp only [d27, d22, decide_eq_true cc, decide_eq_true f1, decide_eq_true f2, Bool.not_true, sel_false, sel_true]
          rcases a2 with a2 | a2
          · simp only [decide_eq_true a2, decide_true, Bool.not_true, sel_false, sel_true]; exact hL'
          · rw [a2] at f1; exact absurd f1 (by decide)
        · simp only [d27, d22, decide_eq_false cc, Bool.not_true, sel_false, sel_true]
          rcases a2 with a2 | a2
          · simp only [decide_eq_true a2, Bool.not_true, sel_false, sel_true]; exact hL'
          · simp only [decide_eq_true a2, Bool.not_true, sel_false, sel_true]
            cases !decide (h'.2.2.1 = h.2.2.1) <;> exact hL'
      · by_cases cc : code = [48, 48]
        · obtain ⟨h1, f0, f1⟩ := back rfl cc
          cases f0
          simp only [d77, d72, decide_eq_true cc, decide_eq_true f1, Bool.not_true, sel_false, sel_true]
          cases !decide (h'.2.2.1 = h.2.2.1) <;> exact hL'
        · simp only [d77, d72, decide_eq_false cc, Bool.not_true, sel_false, sel_true]
          rcases a2 with a2 | a2
          · simp only [decide_eq_true a2, Bool.not_true, sel_false, sel_true]; exact hL'
          · simp only [decide_eq_true a2, Bool.not_true, sel_false, sel_true]
            cases !decide (h'.2.2.1 = h.2.2.1) <;> exact hL'
    | none =>
      cases M with
      | some h' =>
        have a1 := new rfl h' rfl
        simp only [Bool.not_false, sel_false, sel_true, decide_eq_true a1, Bool.not_true]
        rcases hkd with rfl | rfl
        · by_cases cc : code = [48, 48]
          · obtain ⟨h1, f0, f1, f2⟩ := fine rfl cc
            cases f0
            simp only [d27, d22, decide_eq_true cc, decide_eq_true f1, Bool.not_true, sel_false, sel_true]
            exact hL'
          · simp only [d27, d22, decide_eq_false cc, Bool.not_true, sel_false, sel_true]
            exact hL'
        · by_cases cc : code = [48, 48]
          · obtain ⟨h1, f0, f1⟩ := back rfl cc
            cases f0
            simp only [d77, d72, decide_eq_true cc, decide_eq_true f1, Bool.not_true, sel_false, sel_true]
            exact hL'
          · simp only [d77, d72, decide_eq_false cc, Bool.not_true, sel_false, sel_true]
            exact hL'
      | none =>
        simp only [Bool.not_false, sel_false, sel_true, Bool.not_true]
        rcases hkd with rfl | rfl
        · by_cases cc : code = [48, 48]
          · obtain ⟨h1, f0, f1, f2⟩ := fine rfl cc
            cases f0
          · simp only [d27, d22, decide_eq_false cc, Bool.not_true, sel_false, sel_true]
            exact hL'
        · by_cases cc : code = [48, 48]
          · obtain ⟨h1, f0, f1⟩ := back rfl cc
            cases f0
          · simp only [d77, d72, decide_eq_false cc, Bool.not_true, sel_false, sel_true]
            exact hL'
theorem main (l : List Hold) (v0 : List Deal) (v1 : List Bool) (hg : goodHs l) (gd : ∀ d ∈ v0, goodD d) : G15 5000 ((l, ()), v0, v1, ()) = some (true, ()) := by
  rw [G15_eq, G68_is 5000 (by omega), ocall_some]
  simp only [Bool.not_true, sel_false]
  obtain ⟨s, hs, hs2⟩ := G69_is 5000 (by omega) l
  rw [hs, ocall_some]
  cases s with
  | false => rfl
  | true =>
  obtain ⟨hn, hl⟩ := hs2 rfl
  simp only [Bool.not_true, sel_false, ofNat_len]
  by_cases h60 : v0.length ≤ 60
  case neg => rw [sel_pos (by omega)]
  rw [sel_neg (by omega)]
  by_cases h01 : v0.length ≤ v1.length
  case neg => rw [sel_pos (by omega)]
  rw [sel_neg (by omega), G76_is 5000 (by omega) l hl hg (by omega), ocall_some]
  cases ok : ledOK l with
  | false => rfl
  | true =>
  simp only [Bool.not_true, sel_false]
  obtain ⟨z, hz, hz2⟩ := loop 5000 (by omega) v0 v1 h01 h60 gd v0.length 0 (by omega) 5000 (by omega) l hl hg ok
  rw [Int.natCast_zero] at hz
  rw [hz, ocall_some]
  rcases hz2 with rfl | rfl <;> rfl
theorem pure (x0 : Ty.den (.st (.cons (.slice (.st (.cons (.st (.cons (.int .u32) (.cons .str .nil))) (.cons (.int .u64) (.cons (.int .i64) .nil))))) .nil))) (x1 : Ty.den (.slice (.st (.cons (.int .i64) (.cons .str (.cons (.int .u64) (.cons (.int .u32) (.cons .str (.cons .str .nil))))))))) (x2 : Ty.den (.slice .bool)) (g0 : Ty.Good (.st (.cons (.slice (.st (.cons (.st (.cons (.int .u32) (.cons .str .nil))) (.cons (.int .u64) (.cons (.int .i64) .nil))))) .nil)) x0) (g1 : Ty.Good (.slice (.st (.cons (.int .i64) (.cons .str (.cons (.int .u64) (.cons (.int .u32) (.cons .str (.cons .str .nil)))))))) x1) (g2 : Ty.Good (.slice .bool) x2) : ∃ k, F15 k (x0, (x1, (x2, PUnit.unit))) = some (true, PUnit.unit) :=
  ⟨5000, main x0.1 x1 x2 (fun h hh => have g := g0.1.2.2 h hh; ⟨good_u32 g.1.1, good_u64 g.2.1⟩) (fun d hd => have g := g1.2.2 d hd; ⟨good_u64 g.2.2.1, good_u32 g.2.2.2.1⟩)⟩
end Go.Proofs.YtjgnpmdbkgeakaaDoor.PureLedgerOnce
end
section
set_option linter.unusedVariables false
set_option linter.unusedSimpArgs false
namespace Go.Proofs.YtjgnpmdbkgeakaaDoor
open Go Go.ChangeShapes Go.WideShapes Go.ChangeAt Go.RowKit Th
theorem own : ownKnob Tryd.prog.godebug = none := by kernel_rfl
theorem laidOut : laidOutB Tryd.prog = true := by kernel_rfl
theorem gTypes : Tryd.prog.globalNamed "paydesk/deal.types" = some 0 := by kernel_rfl
theorem tTypes : (Tryd.prog.globals[0]?).map (·.type) = some 229 := by kernel_rfl
theorem mapsRowed' : mapsRowed Tryd.prog = true := by kernel_rfl
theorem stopsHeard' : Tryd.prog.stopsHeard = true := by kernel_rfl
theorem stops' : Tryd.prog.stops = [] := by kernel_rfl
theorem stopKnobs' : Tryd.prog.stopKnobs = [] := by kernel_rfl
theorem plainKeys' : Tryd.prog.plainKeys = Rows.keyRightRow.plainKeys := by kernel_rfl
def ioL : List Char := [Char.ofNat 104, Char.ofNat 97, Char.ofNat 114, Char.ofNat 110, Char.ofNat 101, Char.ofNat 115, Char.ofNat 115, Char.ofNat 32, Char.ofNat 52, Char.ofNat 98, Char.ofNat 55, Char.ofNat 54, Char.ofNat 48, Char.ofNat 97, Char.ofNat 99, Char.ofNat 102, Char.ofNat 49, Char.ofNat 97, Char.ofNat 100, Char.ofNat 99, Char.ofNat 54, Char.ofNat 100, Char.ofNat 51, Char.ofNat 54, Char.ofNat 49, Char.ofNat 50, Char.ofNat 51, Char.ofNat 50, Char.ofNat 57, Char.ofNat 97, Char.ofNat 98, Char.ofNat 51, Char.ofNat 99, Char.ofNat 50, Char.ofNat 48, Char.ofNat 101, Char.ofNat 99, Char.ofNat 48, Char.ofNat 49, Char.ofNat 52, Char.ofNat 53, Char.ofNat 53, Char.ofNat 56, Char.ofNat 101, Char.ofNat 50, Char.ofNat 54, Char.ofNat 55, Char.ofNat 99, Char.ofNat 52, Char.ofNat 57, Char.ofNat 52, Char.ofNat 101, Char.ofNat 54, Char.ofNat 53, Char.ofNat 52, Char.ofNat 48, Char.ofNat 49, Char.ofNat 57, Char.ofNat 99, Char.ofNat 97, Char.ofNat 98, Char.ofNat 49, Char.ofNat 57, Char.ofNat 50, Char.ofNat 49, Char.ofNat 49, Char.ofNat 98, Char.ofNat 102, Char.ofNat 49, Char.ofNat 57, Char.ofNat 54, Char.ofNat 49, Char.ofNat 32, Char.ofNat 99, Char.ofNat 117, Char.ofNat 116, Char.ofNat 32, Char.ofNat 97, Char.ofNat 116, Char.ofNat 32, Char.ofNat 112, Char.ofNat 97, Char.ofNat 121, Char.ofNat 100, Char.ofNat 101, Char.ofNat 115, Char.ofNat 107, Char.ofNat 47, Char.ofNat 112, Char.ofNat 97, Char.ofNat 121, Char.ofNat 100, Char.ofNat 101, Char.ofNat 115, Char.ofNat 107, Char.ofNat 108, Char.ofNat 97, Char.ofNat 119, Char.ofNat 48, Char.ofNat 55, Char.ofNat 46, Char.ofNat 75, Char.ofNat 101, Char.ofNat 121, Char.ofNat 82, Char.ofNat 105, Char.ofNat 103, Char.ofNat 104, Char.ofNat 116, Char.ofNat 32, Char.ofNat 112, Char.ofNat 97, Char.ofNat 121, Char.ofNat 100, Char.ofNat 101, Char.ofNat 115, Char.ofNat 107, Char.ofNat 47, Char.ofNat 112, Char.ofNat 97, Char.ofNat 121, Char.ofNat 100, Char.ofNat 101, Char.ofNat 115, Char.ofNat 107, Char.ofNat 108, Char.ofNat 97, Char.ofNat 119, Char.ofNat 48, Char.ofNat 55, Char.ofNat 46, Char.ofNat 75, Char.ofNat 101, Char.ofNat 121, Char.ofNat 79, Char.ofNat 114, Char.ofNat 100, Char.ofNat 101, Char.ofNat 114, Char.ofNat 32, Char.ofNat 112, Char.ofNat 97, Char.ofNat 121, Char.ofNat 100, Char.ofNat 101, Char.ofNat 115, Char.ofNat 107, Char.ofNat 47, Char.ofNat 112, Char.ofNat 97, Char.ofNat 121, Char.ofNat 100, Char.ofNat 101, Char.ofNat 115, Char.ofNat 107, Char.ofNat 108, Char.ofNat 97, Char.ofNat 119, Char.ofNat 48, Char.ofNat 55, Char.ofNat 46, Char.ofNat 75, Char.ofNat 101, Char.ofNat 121, Char.ofNat 83, Char.ofNat 104, Char.ofNat 97, Char.ofNat 114, Char.ofNat 100, Char.ofNat 115, Char.ofNat 32, Char.ofNat 112, Char.ofNat 97, Char.ofNat 121, Char.ofNat 100, Char.ofNat 101, Char.ofNat 115, Char.ofNat 107, Char.ofNat 47, Char.ofNat 112, Char.ofNat 97, Char.ofNat 121, Char.ofNat 100, Char.ofNat 101, Char.ofNat 115, Char.ofNat 107, Char.ofNat 108, Char.ofNat 97, Char.ofNat 119, Char.ofNat 48, Char.ofNat 54, Char.ofNat 46, Char.ofNat 68, Char.ofNat 101, Char.ofNat 97, Char.ofNat 108, Char.ofNat 82, Char.ofNat 105, Char.ofNat 103, Char.ofNat 104, Char.ofNat 116, Char.ofNat 32, Char.ofNat 112, Char.ofNat 97, Char.ofNat 121, Char.ofNat 100, Char.ofNat 101, Char.ofNat 115, Char.ofNat 107, Char.ofNat 47, Char.ofNat 112, Char.ofNat 97, Char.ofNat 121, Char.ofNat 100, Char.ofNat 101, Char.ofNat 115, Char.ofNat 107, Char.ofNat 108, Char.ofNat 97, Char.ofNat 119, Char.ofNat 48, Char.ofNat 54, Char.ofNat 46, Char.ofNat 68, Char.ofNat 101, Char.ofNat 97, Char.ofNat 108, Char.ofNat 66, Char.ofNat 97, Char.ofNat 99, Char.ofNat 107, Char.ofNat 32, Char.ofNat 112, Char.ofNat 97, Char.ofNat 121, Char.ofNat 100, Char.ofNat 101, Char.ofNat 115, Char.ofNat 107, Char.ofNat 47, Char.ofNat 112, Char.ofNat 97, Char.ofNat 121, Char.ofNat 100, Char.ofNat 101, Char.ofNat 115, Char.ofNat 107, Char.ofNat 108, Char.ofNat 97, Char.ofNat 119, Char.ofNat 49, Char.ofNat 50, Char.ofNat 46, Char.ofNat 67, Char.ofNat 111, Char.ofNat 114, Char.ofNat 101, Char.ofNat 82, Char.ofNat 105, Char.ofNat 103, Char.ofNat 104, Char.ofNat 116, Char.ofNat 32, Char.ofNat 112, Char.ofNat 97, Char.ofNat 121, Char.ofNat 100, Char.ofNat 101, Char.ofNat 115, Char.ofNat 107, Char.ofNat 47, Char.ofNat 112, Char.ofNat 97, Char.ofNat 121, Char.ofNat 100, Char.ofNat 101, Char.ofNat 115, Char.ofNat 107, Char.ofNat 108, Char.ofNat 97, Char.ofNat 119, Char.ofNat 49, Char.ofNat 50, Char.ofNat 46, Char.ofNat 67, Char.ofNat 111, Char.ofNat 114, Char.ofNat 101, Char.ofNat 83, Char.ofNat 116, Char.ofNat 101, Char.ofNat 112, Char.ofNat 115, Char.ofNat 32, Char.ofNat 112, Char.ofNat 97, Char.ofNat 121, Char.ofNat 100, Char.ofNat 101, Char.ofNat 115, Char.ofNat 107, Char.ofNat 47, Char.ofNat 112, Char.ofNat 97, Char.ofNat 121, Char.ofNat 100, Char.ofNat 101, Char.ofNat 115, Char.ofNat 107, Char.ofNat 108, Char.ofNat 97, Char.ofNat 119, Char.ofNat 49, Char.ofNat 50, Char.ofNat 46, Char.ofNat 67, Char.ofNat 111, Char.ofNat 114, Char.ofNat 101, Char.ofNat 79, Char.ofNat 110, Char.ofNat 99, Char.ofNat 101, Char.ofNat 32, Char.ofNat 112, Char.ofNat 97, Char.ofNat 121, Char.ofNat 100, Char.ofNat 101, Char.ofNat 115, Char.ofNat 107, Char.ofNat 47, Char.ofNat 112, Char.ofNat 97, Char.ofNat 121, Char.ofNat 100, Char.ofNat 101, Char.ofNat 115, Char.ofNat 107, Char.ofNat 108, Char.ofNat 97, Char.ofNat 119, Char.ofNat 49, Char.ofNat 50, Char.ofNat 46, Char.ofNat 67, Char.ofNat 111, Char.ofNat 114, Char.ofNat 101, Char.ofNat 82, Char.ofNat 101, Char.ofNat 115, Char.ofNat 116, Char.ofNat 115, Char.ofNat 32, Char.ofNat 112, Char.ofNat 97, Char.ofNat 121, Char.ofNat 100, Char.ofNat 101, Char.ofNat 115, Char.ofNat 107, Char.ofNat 47, Char.ofNat 112, Char.ofNat 97, Char.ofNat 121, Char.ofNat 100, Char.ofNat 101, Char.ofNat 115, Char.ofNat 107, Char.ofNat 108, Char.ofNat 97, Char.ofNat 119, Char.ofNat 49, Char.ofNat 48, Char.ofNat 46, Char.ofNat 83, Char.ofNat 104, Char.ofNat 97, Char.ofNat 114, Char.ofNat 100, Char.ofNat 82, Char.ofNat 105, Char.ofNat 103, Char.ofNat 104, Char.ofNat 116, Char.ofNat 32, Char.ofNat 112, Char.ofNat 97, Char.ofNat 121, Char.ofNat 100, Char.ofNat 101, Char.ofNat 115, Char.ofNat 107, Char.ofNat 47, Char.ofNat 112, Char.ofNat 97, Char.ofNat 121, Char.ofNat 100, Char.ofNat 101, Char.ofNat 115, Char.ofNat 107, Char.ofNat 108, Char.ofNat 97, Char.ofNat 119, Char.ofNat 49, Char.ofNat 48, Char.ofNat 46, Char.ofNat 83, Char.ofNat 104, Char.ofNat 97, Char.ofNat 114, Char.ofNat 100, Char.ofNat 83, Char.ofNat 119, Char.ofNat 97, Char.ofNat 112, Char.ofNat 115, Char.ofNat 32, Char.ofNat 112, Char.ofNat 97, Char.ofNat 121, Char.ofNat 100, Char.ofNat 101, Char.ofNat 115, Char.ofNat 107, Char.ofNat 47, Char.ofNat 112, Char.ofNat 97, Char.ofNat 121, Char.ofNat 100, Char.ofNat 101, Char.ofNat 115, Char.ofNat 107, Char.ofNat 108, Char.ofNat 97, Char.ofNat 119, Char.ofNat 49, Char.ofNat 53, Char.ofNat 46, Char.ofNat 76, Char.ofNat 101, Char.ofNat 100, Char.ofNat 103, Char.ofNat 101, Char.ofNat 114, Char.ofNat 82, Char.ofNat 105, Char.ofNat 103, Char.ofNat 104, Char.ofNat 116, Char.ofNat 32, Char.ofNat 112, Char.ofNat 97, Char.ofNat 121, Char.ofNat 100, Char.ofNat 101, Char.ofNat 115, Char.ofNat 107, Char.ofNat 47, Char.ofNat 112, Char.ofNat 97, Char.ofNat 121, Char.ofNat 100, Char.ofNat 101, Char.ofNat 115, Char.ofNat 107, Char.ofNat 108, Char.ofNat 97, Char.ofNat 119, Char.ofNat 49, Char.ofNat 53, Char.ofNat 46, Char.ofNat 76, Char.ofNat 101, Char.ofNat 100, Char.ofNat 103, Char.ofNat 101, Char.ofNat 114, Char.ofNat 79, Char.ofNat 110, Char.ofNat 99, Char.ofNat 101, Char.ofNat 32, Char.ofNat 112, Char.ofNat 97, Char.ofNat 121, Char.ofNat 100, Char.ofNat 101, Char.ofNat 115, Char.ofNat 107, Char.ofNat 47, Char.ofNat 112, Char.ofNat 97, Char.ofNat 121, Char.ofNat 100, Char.ofNat 101, Char.ofNat 115, Char.ofNat 107, Char.ofNat 108, Char.ofNat 97, Char.ofNat 119, Char.ofNat 49, Char.ofNat 53, Char.ofNat 46, Char.ofNat 76, Char.ofNat 101, Char.ofNat 100, Char.ofNat 103, Char.ofNat 101, Char.ofNat 114, Char.ofNat 84, Char.ofNat 119, Char.ofNat 105, Char.ofNat 99, Char.ofNat 101, Char.ofNat 32, Char.ofNat 112, Char.ofNat 97, Char.ofNat 121, Char.ofNat 100, Char.ofNat 101, Char.ofNat 115, Char.ofNat 107, Char.ofNat 47, Char.ofNat 112, Char.ofNat 97, Char.ofNat 121, Char.ofNat 100, Char.ofNat 101, Char.ofNat 115, Char.ofNat 107, Char.ofNat 108, Char.ofNat 97, Char.ofNat 119, Char.ofNat 48, Char.ofNat 54, Char.ofNat 46, Char.ofNat 68, Char.ofNat 101, Char.ofNat 97, Char.ofNat 108, Char.ofNat 66, Char.ofNat 121, Char.ofNat 116, Char.ofNat 101, Char.ofNat 115, Char.ofNat 32, Char.ofNat 112, Char.ofNat 97, Char.ofNat 121, Char.ofNat 100, Char.ofNat 101, Char.ofNat 115, Char.ofNat 107, Char.ofNat 47, Char.ofNat 112, Char.ofNat 97, Char.ofNat 121, Char.ofNat 100, Char.ofNat 101, Char.ofNat 115, Char.ofNat 107, Char.ofNat 108, Char.ofNat 97, Char.ofNat 119, Char.ofNat 49, Char.ofNat 52, Char.ofNat 46, Char.ofNat 76, Char.ofNat 105, Char.ofNat 110, Char.ofNat 101, Char.ofNat 82, Char.ofNat 105, Char.ofNat 103, Char.ofNat 104, Char.ofNat 116, Char.ofNat 32, Char.ofNat 112, Char.ofNat 97, Char.ofNat 121, Char.ofNat 100, Char.ofNat 101, Char.ofNat 115, Char.ofNat 107, Char.ofNat 47, Char.ofNat 112, Char.ofNat 97, Char.ofNat 121, Char.ofNat 100, Char.ofNat 101, Char.ofNat 115, Char.ofNat 107, Char.ofNat 108, Char.ofNat 97, Char.ofNat 119, Char.ofNat 49, Char.ofNat 52, Char.ofNat 46, Char.ofNat 76, Char.ofNat 105, Char.ofNat 110, Char.ofNat 101, Char.ofNat 80, Char.ofNat 97, Char.ofNat 114, Char.ofNat 116, Char.ofNat 115, Char.ofNat 32, Char.ofNat 112, Char.ofNat 97, Char.ofNat 121, Char.ofNat 100, Char.ofNat 101, Char.ofNat 115, Char.ofNat 107, Char.ofNat 47, Char.ofNat 112, Char.ofNat 97, Char.ofNat 121, Char.ofNat 100, Char.ofNat 101, Char.ofNat 115, Char.ofNat 107, Char.ofNat 108, Char.ofNat 97, Char.ofNat 119, Char.ofNat 49, Char.ofNat 52, Char.ofNat 46, Char.ofNat 76, Char.ofNat 105, Char.ofNat 110, Char.ofNat 101, Char.ofNat 69, Char.ofNat 118, Char.ofNat 101, Char.ofNat 110, Char.ofNat 116, Char.ofNat 115, Char.ofNat 32, Char.ofNat 112, Char.ofNat 97, Char.ofNat 121, Char.ofNat 100, Char.ofNat 101, Char.ofNat 115, Char.ofNat 107, Char.ofNat 47, Char.ofNat 112, Char.ofNat 97, Char.ofNat 121, Char.ofNat 100, Char.ofNat 101, Char.ofNat 115, Char.ofNat 107, Char.ofNat 108, Char.ofNat 97, Char.ofNat 119, Char.ofNat 49, Char.ofNat 55, Char.ofNat 46, Char.ofNat 80, Char.ofNat 111, Char.ofNat 115, Char.ofNat 116, Char.ofNat 66, Char.ofNat 97, Char.ofNat 99, Char.ofNat 107, Char.ofNat 32, Char.ofNat 112, Char.ofNat 97, Char.ofNat 121, Char.ofNat 100, Char.ofNat 101, Char.ofNat 115, Char.ofNat 107, Char.ofNat 47, Char.ofNat 112, Char.ofNat 97, Char.ofNat 121, Char.ofNat 100, Char.ofNat 101, Char.ofNat 115, Char.ofNat 107, Char.ofNat 108, Char.ofNat 97, Char.ofNat 119, Char.ofNat 50, Char.ofNat 49, Char.ofNat 46, Char.ofNat 84, Char.ofNat 114, Char.ofNat 97, Char.ofNat 99, Char.ofNat 101, Char.ofNat 79, Char.ofNat 116, Char.ofNat 104, Char.ofNat 101, Char.ofNat 114, Char.ofNat 115]
theorem io0 : Tryd.prog.initOrder = String.ofList ioL := by kernel_rfl
theorem io : Tryd.prog.initOrder.toList = ioL := by rw [io0, String.toList_ofList]
def ioW : List (List Char) := wordsSigns ioL
theorem ws : wordsSigns Tryd.prog.initOrder.toList = ioW := by rw [io]; rfl
def mainOf (l : List (List Char)) : Option (Bool × List Char) := match l with
  | h :: s :: _ => if !isSumSigns s then none else if h == "harness".toList then some (true, s) else if h == "ownmain".toList then some (false, s) else none
  | _ => none
theorem mainIs_of {P : Program} {W : List (List Char)} (h : wordsSigns P.initOrder.toList = W) : P.mainIs = mainOf W := by
  unfold Program.mainIs; rw [h]; rfl
theorem sha : (ioL.drop 8).take 64 = "4b760acf1adc6d3612329ab3c20ec014558e267c494e654019cab19211bf1961".toList := by
  have : "4b760acf1adc6d3612329ab3c20ec014558e267c494e654019cab19211bf1961" = String.ofList ((ioL.drop 8).take 64) := by kernel_rfl
  rw [this, String.toList_ofList]
theorem main0 : mainOf ioW = some (true, (ioL.drop 8).take 64) := by kernel_rfl
theorem mainIs' : Tryd.prog.mainIs = some (true, "4b760acf1adc6d3612329ab3c20ec014558e267c494e654019cab19211bf1961".toList) := by
  rw [← sha, ← main0]; exact mainIs_of ws
def mayOf (l : List (List Char)) (laysLater bearsReflect : Bool) (fits : List String → Bool) : Bool := match behindMainWord l with
  | c :: rest =>
    ((c == "gc".toList || c == "spec".toList) && (rest.isEmpty || rest.head? == some "stop".toList)) ||
    (c == "carried".toList && rest.take 2 == ["gc".toList, "cut".toList] && !laysLater && !bearsReflect) ||
    ((stripLifts liftWords (c :: rest)).2.head? == some "cut".toList &&
      ((stripLifts liftWords (c :: rest)).1.contains "finals" || !laysLater) && ((stripLifts liftWords (c :: rest)).1.contains "reflectrows" || !bearsReflect) &&
      ((stripLifts liftWords (c :: rest)).1.contains "reflectrows" || !(stripLifts liftWords (c :: rest)).1.contains "leanrows") &&
      fits (stripLifts liftWords (c :: rest)).1)
  | [] => false
theorem may_of {P : Program} {W : List (List Char)} (h : wordsSigns P.initOrder.toList = W) : P.mayEnter = mayOf W P.laysLater P.bearsReflect P.doorFits := by
  unfold Program.mayEnter; rw [h]; rfl
theorem lays : Tryd.prog.laysLater = false := by kernel_rfl
theorem bears : Tryd.prog.bearsReflect = false := by kernel_rfl
theorem strip0 : mayOf ioW false false (fun l => decide (l = [])) = true := by kernel_rfl
theorem fits0 : Tryd.prog.doorFits [] = true := by kernel_rfl
theorem may_mono {W : List (List Char)} {a b : Bool} {f g : List String → Bool} (hfg : ∀ l, f l = true → g l = true) (h : mayOf W a b f = true) : mayOf W a b g = true := by
  unfold mayOf at h ⊢
  split at h
  · simp only [Bool.or_eq_true, Bool.and_eq_true] at h ⊢
    rcases h with (h | h) | h
    · exact .inl (.inl h)
    · exact .inl (.inr h)
    · exact .inr ⟨h.1, hfg _ h.2⟩
  · exact h
theorem mayEnter' : Tryd.prog.mayEnter = true := by
  rw [may_of ws, lays, bears]
  exact may_mono (fun l h => by rw [decide_eq_true_eq] at h; rw [h]; exact fits0) strip0
def liftsOf (l : List (List Char)) : List String :=
  let r := stripLifts liftWords (behindMainWord l)
  if r.2.head? == some "cut".toList then r.1 else []
theorem headLifts_of {P : Program} {W : List (List Char)} (h : wordsSigns P.initOrder.toList = W) : P.headLifts = liftsOf W := by
  unfold Program.headLifts; rw [h]; rfl
theorem headLifts' : Tryd.prog.headLifts = [] := (headLifts_of ws).trans (by kernel_rfl)
def finalOf (l : List (List Char)) (hl : List String) : Bool :=
  let ws := behindMainWord l
  (ws.head? == some "carried".toList && ws.take 3 != ["carried".toList, "gc".toList, "cut".toList]) || hl.contains "finals"
theorem liftsFinal_of {P : Program} {W : List (List Char)} (h : wordsSigns P.initOrder.toList = W) : P.liftsFinal = finalOf W P.headLifts := by
  unfold Program.liftsFinal; rw [h]; rfl
theorem liftsFinal' : Tryd.prog.liftsFinal = Rows.keyRightRow.lifted := by rw [liftsFinal_of ws, headLifts']; kernel_rfl
def makeOf (l : List (List Char)) (hl : List String) : Option Make :=
  match behindMainWord l with
  | c :: rest => if c == "gc".toList || c == "spec".toList then some .whole else if c == "cut".toList || (c == "finals".toList && rest.head? == some "cut".toList) then some .cut else if c == "carried".toList then some .carried else if hl.isEmpty then none else some (.lifted hl)
  | [] => none
theorem make_of {P : Program} {W : List (List Char)} (h : wordsSigns P.initOrder.toList = W) : P.make = makeOf W P.headLifts := by
  unfold Program.make; rw [h]; rfl
theorem make' : Tryd.prog.make = some Rows.keyRightRow.make := by rw [make_of ws, headLifts']; kernel_rfl
abbrev laidL : List (String × DataW Unit) := [("paydesk/deal.types", Rows.laid_paydesk_deal_types)]
theorem door_met (os : Os) (args : Array Value) : laidMetH Tryd.prog laidL ((World.doorLaid Tryd.prog 400 os).forCall (fun _ _ => 0) ⟨#[], args, []⟩).memory :=
  laidMetH_of_parts3 (fuel := 8) (laidMet_of_run' 8 (by kernel_rfl) (by kernel_rfl)) (by kernel_rfl) (by kernel_rfl)
theorem glob_of_laid {W : World} (h : laidMetH Tryd.prog laidL W) : GlobOK W (Old W) := by
  rw [MakeChecks.laidMetH_plain _ _ _ (by kernel_rfl)] at h
  obtain ⟨ps, ⟨g0, t0, cs0, f0, p0, q0, hg0, ht0, hv0, hd0, _, _⟩, _, _⟩ := h
  obtain rfl := Option.some.inj (gTypes.symm.trans hg0)
  obtain rfl := Option.some.inj (tTypes.symm.trans ht0)
  obtain ⟨xs, m1, rfl, hx1, hlen, hn8, hel⟩ := DataW.trod_array Tryd.underlying229 hd0
  have c9 : Tryd.prog.cellsOf 9 = 1 := by kernel_rfl
  have cA : Tryd.prog.cellsOf 229 = 8 := by kernel_rfl
  simp only [Prod.mk.injEq] at hx1
  have hx1 : (DataW.agg [.lit (.string []), .lit (.string [48, 49, 48, 48]), .lit (.string [48, 49, 49, 48]), .lit (.string [48, 52, 48, 48]), .lit (.string [48, 52, 49, 48]), .lit (.string [48, 52, 50, 48]), .lit (.string [48, 52, 50, 49]), .lit (.string [48, 52, 51, 48])] : DataW Unit) = .agg (xs.map (·.1)) := hx1.1
  simp only [DataW.agg.injEq] at hx1
  have key : ∀ (j : Nat) (s : List UInt8), ([[], [48, 49, 48, 48], [48, 49, 49, 48], [48, 52, 48, 48], [48, 52, 49, 48], [48, 52, 50, 48], [48, 52, 50, 49], [48, 52, 51, 48]] : List (List UInt8))[j]? = some s → W.cell? ⟨0, j, none⟩ = some (strV s) := by
    intro j s hs
    have hj : j < 8 := by have := (List.getElem?_eq_some_iff.1 hs).1; simpa using this
    have he := hel j hj
    rw [c9, Nat.mul_one] at he
    have hxj : xs[j]? = some xs[j] := by simp [show j < xs.length by omega]
    rw [hxj] at he
    obtain ⟨b, e1, e2, _⟩ := DataW.trod_string Tryd.underlying9 he
    have hlit : xs[j].1 = .lit (.string s) := by
      have e3 : (xs.map (·.1))[j]? = some xs[j].1 := by rw [List.getElem?_map, hxj]; rfl
      rw [← hx1] at e3
      have h8 : j = 0 ∨ j = 1 ∨ j = 2 ∨ j = 3 ∨ j = 4 ∨ j = 5 ∨ j = 6 ∨ j = 7 := by omega
      rcases h8 with rfl | rfl | rfl | rfl | rfl | rfl | rfl | rfl <;> (simp only [List.getElem?_cons_zero, List.getElem?_cons_succ, Option.some.injEq] at e3 hs; subst hs; exact e3.symm)
    rw [e2] at hlit
    have hb : b.data.toList = s := by simpa using hlit
    have hc : cs0[j]? = some (.string b) := by
      have : (cs0.toList.drop j).take 1 = [.string b] := e1
      have h1 : ((cs0.toList.drop j).take 1)[0]? = some (.string b) := by rw [this]; rfl
      rw [List.getElem?_take_of_lt (by omega), List.getElem?_drop, Nat.add_zero, Array.getElem?_toList] at h1
      exact h1
    rw [World.var?_cell gTypes hv0 j, hc]
    unfold strV
    rw [← hb]
  have h0 : 0 < W.heap.size := by
    have := key 0 [] rfl
    unfold World.cell? at this
    split at this
    · rename_i hb; exact (Array.getElem?_eq_some_iff.1 hb).1
    · cases this
  intro n r hr
  have hn : n = 0 := by
    unfold gtab at hr
    cases hb : Nat.beq n 0 with
    | false => rw [hb] at hr; cases hr
    | true => exact Nat.eq_of_beq_eq_true hb
  subst hn
  have hr : r = ⟨9, .str, [[], [48, 49, 48, 48], [48, 49, 49, 48], [48, 52, 48, 48], [48, 52, 49, 48], [48, 52, 50, 48], [48, 52, 50, 49], [48, 52, 51, 48]]⟩ := (Option.some.inj hr).symm
  subst hr
  refine ⟨_, rfl, fun j x hx => ⟨[strV x], rfl, fun i u hu => ?_, rfl⟩⟩
  have hi : i = 0 := by have := (List.getElem?_eq_some_iff.1 hu).1; simp at this; omega
  subst hi
  have hu : u = strV x := by simpa using hu.symm
  subst hu
  have ha : (⟨0, 0, none⟩ : Addr).add (j * (Ty.size .str) + 0) = ⟨0, j, none⟩ := by
    show (⟨0, 0, none⟩ : Addr).add (j * 1 + 0) = _
    unfold Addr.add; split <;> simp_all
  rw [ha]
  exact ⟨key j x hx, h0⟩
end Go.Proofs.YtjgnpmdbkgeakaaDoor
end
section
set_option linter.unusedVariables false
set_option linter.unusedSimpArgs false
namespace Go.Proofs.YtjgnpmdbkgeakaaDoor.ledgerOnce
open Go.ChangeShapes Go.WideShapes Go.ChangeAt Go.RowKit Go.Proofs.YtjgnpmdbkgeakaaDoor Th G
open Go.ChangeMaps (open_string shut_string)
theorem own : ownKnob Tryd.prog.godebug = none := by kernel_rfl
theorem laidOut : laidOutB Tryd.prog = true := by kernel_rfl
set_option maxRecDepth 100000 in
theorem lifted (os : Os) (started : os.Started) (H : Type) (enc : TypeId × Value → H) :
    ReturnsInHanded {} Tryd.checked os 15 .any (fun w args => (Rows.ledgerOnceSpec.pre enc Tryd.prog Tryd.f15 [] false w args ∧ laidMetH Tryd.prog laidL w) ∧ sizedMet enc Tryd.prog Tryd.f15 (OpenSpec.ofChange Rows.ledgerOnceSpec) false w args) (Rows.ledgerOnceSpec.post enc Tryd.prog Tryd.f15 false true false false) := by
  refine returnsInHanded_of_change_and (C := Tryd.checked) (X := fun w _ => laidMetH Tryd.prog laidL w) (fun _ _ _ hh h => h.of_heap hh) own started (by kernel_rfl) Tryd.func15
    (ChangeSpec.witness_shaped (enc := enc) (C := Tryd.checked) (os := os) (X := fun w _ => laidMetH Tryd.prog laidL w) false (World.doorLaid Tryd.prog 400 os) #[.agg #[.slice none 0 0], .slice none 0 0, .slice none 0 0] 8 rfl (World.shaped_of_RefB (by kernel_rfl) (by kernel_rfl)) (by kernel_rfl) (by kernel_rfl) (by kernel_rfl) (door_met os _)) ?_
  intro W base args ds gs before hval0 hW hcnd hsz0 hL _
  have hsz : (DataW.weightsEach Tryd.prog (Tryd.f15.params.toList ++ Rows.ledgerOnceSpec.plain.varTypes Tryd.prog) (ds ++ gs)).all (· ≤ reachBytes) = true := hsz0
  have hval : ∀ (j : Nat) t v, Tryd.f15.params[j]? = some t → args[j]? = some v → Value.okWide Tryd.prog W .any base t v := hval0
  have hW' := hW
  obtain ⟨p, q, hA0, hV, rfl, hfz, hnd⟩ := hW
  have hA : DataW.TrodAll enc Tryd.prog W 0 (fun _ => true) true Tryd.f15.params.toList args.toList ds p := hA0
  rw [Tryd.params15] at hA hval hsz
  obtain ⟨v0, vs0, d0, ds0, p0, q0, hargs, rfl, rfl, h0, r0⟩ := trodAll_cons hA
  obtain ⟨v1, vs1, d1, ds1, p1, q1, rfl, rfl, rfl, h1, r1⟩ := trodAll_cons r0
  obtain ⟨v2, vs2, d2, ds2, p2, q2, rfl, rfl, rfl, h2, r2⟩ := trodAll_cons r1
  obtain ⟨rfl, rfl, rfl⟩ := trodAll_nil r2
  obtain rfl : args = #[v0, v1, v2] := by cases args; simp_all
  obtain ⟨rfl, rfl⟩ := trodVars_none hV
  obtain ⟨x0, a0, g0⟩ := open_arg (T := (.st (.cons (.slice (.st (.cons (.st (.cons (.int .u32) (.cons .str .nil))) (.cons (.int .u64) (.cons (.int .i64) .nil))))) .nil))) (by kernel_rfl) (hval 0 89 v0 rfl rfl) h0 (weights_of hsz (j := 0) (t := 89) rfl rfl)
  have k0 := h0
  have lt0 : ∀ x ∈ p0, x.block < W.heap.size := by obtain ⟨m, hm⟩ := k0; exact DataW.trod_lt m _ _ _ hm
  obtain ⟨x1, a1, g1⟩ := open_arg (T := (.slice (.st (.cons (.int .i64) (.cons .str (.cons (.int .u64) (.cons (.int .u32) (.cons .str (.cons .str .nil))))))))) (by kernel_rfl) (hval 1 58 v1 rfl rfl) h1 (weights_of hsz (j := 1) (t := 58) rfl rfl)
  have k1 := h1
  have lt1 : ∀ x ∈ p1, x.block < W.heap.size := by obtain ⟨m, hm⟩ := k1; exact DataW.trod_lt m _ _ _ hm
  obtain ⟨x2, a2, g2⟩ := open_arg (T := (.slice .bool)) (by kernel_rfl) (hval 2 107 v2 rfl rfl) h2 (weights_of hsz (j := 2) (t := 107) rfl rfl)
  have k2 := h2
  have lt2 : ∀ x ∈ p2, x.block < W.heap.size := by obtain ⟨m, hm⟩ := k2; exact DataW.trod_lt m _ _ _ hm
  obtain ⟨k, hk⟩ := PureLedgerOnce.pure x0 x1 x2 g0 g1 g2
  clear hA0 hval0 hsz0 hsz
  refine (law_of (fn15 k [Ty.av (.st (.cons (.slice (.st (.cons (.st (.cons (.int .u32) (.cons .str .nil))) (.cons (.int .u64) (.cons (.int .i64) .nil))))) .nil)) x0, Ty.av (.slice (.st (.cons (.int .i64) (.cons .str (.cons (.int .u64) (.cons (.int .u32) (.cons .str (.cons .str .nil)))))))) x1, Ty.av (.slice .bool) x2] (x0, (x1, (x2, PUnit.unit))) (true, PUnit.unit) rfl rfl hk) (glob_of_laid hL) (us := [v0, v1, v2]) ⟨a0, a1, a2, trivial⟩).mono fun e W' ⟨he, bel⟩ => ?_
  subst he
  exact ⟨_, rfl, _, _, _, [], _, [], hW', trodAll_mk1 (shut_bool Tryd.underlying4 _), (trodAll_cons_mk (Below.trod laidOut (by kernel_rfl) (of_decide_eq_true (by kernel_rfl)) k0 bel lt0) (trodAll_cons_mk (Below.trod laidOut (by kernel_rfl) (of_decide_eq_true (by kernel_rfl)) k1 bel lt1) (trodAll_cons_mk (Below.trod laidOut (by kernel_rfl) (of_decide_eq_true (by kernel_rfl)) k2 bel lt2) trodAll_mk0))), rfl, bel.frame _, fun h => by cases h⟩
theorem inP : Tryd.prog.inPlace 15 = ["slices.overlaps[paydesk/api.Hold]"] := by kernel_rfl
theorem unf : Tryd.prog.unfollowed 15 = true := by kernel_rfl
theorem rec' : Tryd.prog.recurses 15 = true := by kernel_rfl
theorem nam : Tryd.prog.varsNamed 15 = ["paydesk/deal.types"] := by kernel_rfl
theorem lk : false = Tryd.prog.looks [] := by kernel_rfl
theorem gb : false = Rows.ledgerOnceRow.goesBy Tryd.prog := by kernel_rfl
theorem facts : joinedFacts Tryd.prog 15 Tryd.f15 Rows.ledgerOnceSpec Rows.ledgerOnceRow = true := by
  unfold joinedFacts
  rw [laidOut, mapsRowed', stopsHeard', mayEnter', plainKeys', liftsFinal', make', stops', stopKnobs', inP, unf, rec', nam]
  kernel_rfl
theorem over : Rows.ledgerOnceRow.holds Tryd.pinned (OpenSpec.ofChange Rows.ledgerOnceSpec) :=
  OpenClaim.holds_of_wide 15 Tryd.f15 rfl rfl rfl rfl rfl rfl rfl ⟨rfl, rfl, rfl, rfl, rfl⟩ rfl rfl rfl rfl rfl (by kernel_rfl) Tryd.func15 facts
    (of_decide_eq_true (by kernel_rfl)) (by unfold Func.isWrapper; first | (rw [if_pos (by decide +kernel)]; kernel_rfl) | (rw [if_neg (by decide +kernel)]; exact ⟨rfl, rfl⟩))
    (fun os started H enc _ => lifted os started H enc)
end Go.Proofs.YtjgnpmdbkgeakaaDoor.ledgerOnce
namespace Go.Proofs.YtjgnpmdbkgeakaaDoor
theorem ledgerOnce_card_holds : Rows.LedgerOnceCardSaid :=
  Claim7.holds_tied_plain_at .later [] [.data] true (true, "4b760acf1adc6d3612329ab3c20ec014558e267c494e654019cab19211bf1961") false
    ledgerOnce.over (fun _ h => by cases h) (by kernel_rfl) (fun _ h => by cases h) ledgerOnce_row_tie rfl ⟨rfl, rfl⟩ mainIs' rfl
    (fun f fn hf hfn => by
      obtain rfl : f = 15 := Option.some.inj ((show Tryd.prog.funcNamed "paydesk/paydesklaw15.LedgerOnce" = some 15 by kernel_rfl).symm.trans hf) |>.symm
      obtain rfl : fn = Tryd.f15 := (Option.some.inj (Tryd.func15.symm.trans hfn)).symm
      exact ⟨ledgerOnce.lk, fun j t ht => by
        rw [Tryd.params15] at ht
        have hm : t ∈ [89, 58, 107] := by simpa using Array.mem_of_getElem? ht
        have hall : ([89, 58, 107].all fun u => !Tryd.prog.wantsStandIn u) = true := by kernel_rfl
        exact (show Tryd.prog.wantsStandIn t = false by simpa using List.all_eq_true.1 hall t hm)⟩)
    ledgerOnce.gb
end Go.Proofs.YtjgnpmdbkgeakaaDoor
end
