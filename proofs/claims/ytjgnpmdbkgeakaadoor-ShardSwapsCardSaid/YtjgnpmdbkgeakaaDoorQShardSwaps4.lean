/- The statement ShardSwaps, out of what its function answers. No condition. -/
import Derived.Test.YtjgnpmdbkgeakaaDoorQShardSwaps3
import Derived.Test.YtjgnpmdbkgeakaaDoorRows
import Derived.JoinedOf
import Derived.LaidMore
import Derived.FnData
import Derived.ChangeBears2
import Derived.Stop.Joined
import Derived.Carry
import Derived.Test.YtjgnpmdbkgeakaaDoorCards
import Derived.Test.YtjgnpmdbkgeakaaDoorTie
import Derived.SevenTiedAt
section
set_option linter.unusedVariables false
set_option linter.unusedSimpArgs false
namespace Go.Proofs.YtjgnpmdbkgeakaaDoor.G
open Go Go.Proofs.YtjgnpmdbkgeakaaDoor.Th
theorem ok_O62 (k : Nat) : OrcOK (O62 k) (CallOK Tryd.prog) := orc_add (fn62 k) (ok_O60 k)
noncomputable def c64 : Code := Tryd.f64.body.getD .skip
noncomputable def mi64 : Msk := ⟨[(.tmp 0, .val (.slice (.st (.cons (.st (.cons (.int .u32) (.cons .str .nil))) (.cons (.int .i64) (.cons .str (.cons (.int .u64) (.cons .str (.cons (.int .i64) (.cons (.int .i64) .nil)))))))))), (.tmp 1, .val (.st (.cons (.int .u32) (.cons .str .nil))))], []⟩
noncomputable def mo64 : Msk := ⟨[(.tmp 4, .val (.slice (.st (.cons (.st (.cons (.int .u32) (.cons .str .nil))) (.cons (.int .i64) (.cons .str (.cons (.int .u64) (.cons .str (.cons (.int .i64) (.cons (.int .i64) .nil)))))))))), (.tmp 5, .val (.int .i64))], []⟩
noncomputable def L64 (k : Nat) : LOrc := fun _ _ _ _ => none
noncomputable def F64 (k : Nat) (v : mi64.den) : Option mo64.den := runF TI2 (O62 k) (L64 k) c64 mi64 mo64 v
theorem lk64 (k : Nat) : LinksOK Tryd.prog 27 (L64 k) c64 := (And.intro True.intro (And.intro (And.intro True.intro (And.intro (And.intro True.intro True.intro) True.intro)) (And.intro True.intro (And.intro (And.intro True.intro (And.intro (And.intro True.intro True.intro) True.intro)) (And.intro True.intro True.intro)))))
theorem fn64 (k : Nat) (args : List AV) (x : mi64.den) (r : mo64.den) (h1 : args.length = mi64.items.length) (h2 : mi64.dec (Th.start args) = some x) (h3 : F64 k x = some r) : CallOK Tryd.prog 64 args (ansOf (outL mo64.items r)) :=
  call_of hm hT2 (ok_O62 k) (fn := Tryd.f64) (c := c64) Tryd.func64 rfl rfl rfl (lk64 k) rfl (by decide) rfl h1 h2 h3
noncomputable def O64 (k : Nat) : Orc := fun R f args K => bif Nat.beq f 64 then callF mi64 mo64 (F64 k) args K else O62 k R f args K
theorem ok_O64 (k : Nat) : OrcOK (O64 k) (CallOK Tryd.prog) := orc_add (fn64 k) (ok_O62 k)
noncomputable def c12 : Code := Tryd.f12.body.getD .skip
noncomputable def mi12 : Msk := ⟨[(.tmp 0, .val (.slice (.st (.cons (.st (.cons (.int .u32) (.cons .str .nil))) (.cons (.int .i64) (.cons .str (.cons (.int .u64) (.cons .str (.cons (.int .i64) (.cons (.int .i64) .nil)))))))))), (.tmp 1, .val (.st (.cons (.st (.cons (.int .u32) (.cons .str .nil))) (.cons (.int .i64) (.cons .str (.cons (.int .u64) (.cons .str (.cons (.int .i64) (.cons (.int .i64) .nil))))))))), (.tmp 2, .val (.st (.cons (.int .u32) (.cons .str .nil)))), (.tmp 3, .val (.int .i64))], []⟩
noncomputable def mo12 : Msk := ⟨[(.tmp 8, .val .bool)], []⟩
noncomputable def L12 (k : Nat) : LOrc := fun _ _ _ _ => none
noncomputable def F12 (k : Nat) (v : mi12.den) : Option mo12.den := runF TI2 (O64 k) (L12 k) c12 mi12 mo12 v
theorem lk12 (k : Nat) : LinksOK Tryd.prog 142 (L12 k) c12 := (And.intro True.intro (And.intro (And.intro True.intro (And.intro (And.intro True.intro True.intro) True.intro)) (And.intro (And.intro True.intro (And.intro (And.intro True.intro True.intro) True.intro)) (And.intro True.intro (And.intro True.intro (And.intro (And.intro True.intro (And.intro (And.intro True.intro True.intro) True.intro)) (And.intro True.intro (And.intro True.intro (And.intro (And.intro True.intro (And.intro (And.intro True.intro True.intro) True.intro)) (And.intro True.intro (And.intro True.intro (And.intro (And.intro True.intro (And.intro (And.intro True.intro True.intro) True.intro)) (And.intro True.intro (And.intro True.intro (And.intro True.intro True.intro)))))))))))))))
theorem fn12 (k : Nat) (args : List AV) (x : mi12.den) (r : mo12.den) (h1 : args.length = mi12.items.length) (h2 : mi12.dec (Th.start args) = some x) (h3 : F12 k x = some r) : CallOK Tryd.prog 12 args (ansOf (outL mo12.items r)) :=
  call_of hm hT2 (ok_O64 k) (fn := Tryd.f12) (c := c12) Tryd.func12 rfl rfl rfl (lk12 k) rfl (by decide) rfl h1 h2 h3
noncomputable def O12 (k : Nat) : Orc := fun R f args K => bif Nat.beq f 12 then callF mi12 mo12 (F12 k) args K else O64 k R f args K
theorem ok_O12 (k : Nat) : OrcOK (O12 k) (CallOK Tryd.prog) := orc_add (fn12 k) (ok_O64 k)
noncomputable def c13 : Code := Tryd.f13.body.getD .skip
noncomputable def mi13 : Msk := ⟨[(.tmp 0, .val (.slice (.st (.cons (.st (.cons (.int .u32) (.cons .str .nil))) (.cons (.int .i64) (.cons .str (.cons (.int .u64) (.cons .str (.cons (.int .i64) (.cons (.int .i64) .nil)))))))))), (.tmp 1, .val (.st (.cons (.st (.cons (.int .u32) (.cons .str .nil))) (.cons (.int .i64) (.cons .str (.cons (.int .u64) (.cons .str (.cons (.int .i64) (.cons (.int .i64) .nil))))))))), (.tmp 2, .val (.st (.cons (.st (.cons (.int .u32) (.cons .str .nil))) (.cons (.int .i64) (.cons .str (.cons (.int .u64) (.cons .str (.cons (.int .i64) (.cons (.int .i64) .nil))))))))), (.tmp 3, .val (.st (.cons (.int .u32) (.cons .str .nil))))], []⟩
noncomputable def mo13 : Msk := ⟨[(.tmp 8, .val .bool)], []⟩
noncomputable def L13 (k : Nat) : LOrc := fun _ _ _ _ => none
noncomputable def F13 (k : Nat) (v : mi13.den) : Option mo13.den := runF TI2 (O12 k) (L13 k) c13 mi13 mo13 v
theorem lk13 (k : Nat) : LinksOK Tryd.prog 204 (L13 k) c13 := (And.intro True.intro (And.intro (And.intro True.intro (And.intro (And.intro True.intro True.intro) True.intro)) (And.intro (And.intro True.intro (And.intro (And.intro True.intro True.intro) True.intro)) (And.intro True.intro (And.intro (And.intro True.intro (And.intro (And.intro True.intro True.intro) True.intro)) (And.intro True.intro (And.intro True.intro (And.intro True.intro (And.intro True.intro (And.intro (And.intro True.intro (And.intro (And.intro True.intro True.intro) True.intro)) (And.intro True.intro (And.intro True.intro (And.intro (And.intro True.intro (And.intro (And.intro True.intro True.intro) True.intro)) (And.intro True.intro (And.intro True.intro (And.intro (And.intro True.intro (And.intro (And.intro True.intro True.intro) True.intro)) (And.intro True.intro (And.intro True.intro (And.intro True.intro True.intro)))))))))))))))))))
theorem fn13 (k : Nat) (args : List AV) (x : mi13.den) (r : mo13.den) (h1 : args.length = mi13.items.length) (h2 : mi13.dec (Th.start args) = some x) (h3 : F13 k x = some r) : CallOK Tryd.prog 13 args (ansOf (outL mo13.items r)) :=
  call_of hm hT2 (ok_O12 k) (fn := Tryd.f13) (c := c13) Tryd.func13 rfl rfl rfl (lk13 k) rfl (by decide) rfl h1 h2 h3
noncomputable def O13 (k : Nat) : Orc := fun R f args K => bif Nat.beq f 13 then callF mi13 mo13 (F13 k) args K else O12 k R f args K
theorem ok_O13 (k : Nat) : OrcOK (O13 k) (CallOK Tryd.prog) := orc_add (fn13 k) (ok_O12 k)
end Go.Proofs.YtjgnpmdbkgeakaaDoor.G
end
section
set_option maxRecDepth 1000000
set_option linter.unusedVariables false
set_option linter.unusedSimpArgs false
namespace Go.Proofs.YtjgnpmdbkgeakaaDoor.G
open Go Go.Proofs.YtjgnpmdbkgeakaaDoor Th
noncomputable def G66_g0 (k : Nat) (j : Nat) (v : List ((Int × List UInt8 × Unit) × Int × List UInt8 × Int × List UInt8 × Int × Int × Unit) × Int × Unit) : Option (Bool × Unit) := F66_g0 k j v
theorem G66_g0_eq (k : Nat) (j : Nat) (v0 : List ((Int × List UInt8 × Unit) × Int × List UInt8 × Int × List UInt8 × Int × Int × Unit)) (v1 : Int) : G66_g0 k (j + 1) (v0, v1, ()) = sel (decide (v1 = Int.ofNat v0.length)) (some (decide (v1 ≤ 128), ())) (sel (decide (0 ≤ v1)) (sel
 (decide (v1 < Int.ofNat v0.length)) (ocall (G53 k ((((v0.getD v1.toNat ((0, [], ()), 0, [], 0, [], 0, 0, ())).1.1, (v0.getD v1.toNat ((0, [], ()), 0, [], 0, [], 0, 0, ())).1.2.1, ()), (v0.getD v1.toNat ((0, [], ()), 0, [], 0, [], 0, 0,
 ())).2.1, (v0.getD v1.toNat ((0, [], ()), 0, [], 0, [], 0, 0, ())).2.2.1, (v0.getD v1.toNat ((0, [], ()), 0, [], 0, [], 0, 0, ())).2.2.2.1, (v0.getD v1.toNat ((0, [], ()), 0, [], 0, [], 0, 0, ())).2.2.2.2.1, (v0.getD v1.toNat ((0, [],
 ()), 0, [], 0, [], 0, 0, ())).2.2.2.2.2.1, (v0.getD v1.toNat ((0, [], ()), 0, [], 0, [], 0, 0, ())).2.2.2.2.2.2.1, ()), ())) fun r => sel (!r.1) (some (false, ())) (sel (decide (0 < v1)) (sel (decide (0 ≤ IntKind.i64.wrap (v1 - 1))) (sel
 (decide (IntKind.i64.wrap (v1 - 1) < Int.ofNat v0.length)) (sel (decide (0 ≤ v1)) (sel (decide (v1 < Int.ofNat v0.length)) (ocall (G29 k (((v0.getD (IntKind.i64.wrap (v1 - 1)).toNat ((0, [], ()), 0, [], 0, [], 0, 0, ())).1.1, (v0.getD (IntKind.i64.wrap (v1 - 1)).toNat ((0, [],
 ()), 0, [], 0, [], 0, 0, ())).1.2.1, ()), ((v0.getD v1.toNat ((0, [], ()), 0, [], 0, [], 0, 0, ())).1.1, (v0.getD v1.toNat ((0, [], ()), 0, [], 0, [], 0, 0, ())).1.2.1, ()), ())) fun r => sel (decide (0 ≤ r.1)) (some (false,
 ())) (G66_g0 k j (v0, IntKind.i64.wrap (v1 + 1), ()))) none) none) none) none) (G66_g0 k j (v0, IntKind.i64.wrap (v1 + 1), ())))) none) none) := by kernel_rfl
noncomputable def G66 (k : Nat) (v : List ((Int × List UInt8 × Unit) × Int × List UInt8 × Int × List UInt8 × Int × Int × Unit) × Unit) : Option (Bool × Unit) := F66 k v
theorem G66_eq (k : Nat) (v0 : List ((Int × List UInt8 × Unit) × Int × List UInt8 × Int × List UInt8 × Int × Int × Unit)) : G66 k (v0, ()) = sel (decide (0 = Int.ofNat v0.length)) (some (true, ())) (sel (decide (0 < Int.ofNat v0.length)) (ocall (G53 k ((((v0.getD (Int.toNat 0) ((0,
 [], ()), 0, [], 0, [], 0, 0, ())).1.1, (v0.getD (Int.toNat 0) ((0, [], ()), 0, [], 0, [], 0, 0, ())).1.2.1, ()), (v0.getD (Int.toNat 0) ((0, [], ()), 0, [], 0, [], 0, 0, ())).2.1, (v0.getD (Int.toNat 0) ((0, [], ()), 0, [], 0, [], 0, 0,
 ())).2.2.1, (v0.getD (Int.toNat 0) ((0, [], ()), 0, [], 0, [], 0, 0, ())).2.2.2.1, (v0.getD (Int.toNat 0) ((0, [], ()), 0, [], 0, [], 0, 0, ())).2.2.2.2.1, (v0.getD (Int.toNat 0) ((0, [], ()), 0, [], 0, [], 0, 0, ())).2.2.2.2.2.1, (v0.getD
 (Int.toNat 0) ((0, [], ()), 0, [], 0, [], 0, 0, ())).2.2.2.2.2.2.1, ()), ())) fun r => sel (!r.1) (some (false, ())) (ocall (G66_g0 k k (v0, IntKind.i64.wrap (0 + 1), ())) fun e => some (e.1, ()))) none) := by kernel_rfl
noncomputable def G185 (k : Nat) (v : ((Int × List UInt8 × Unit) × Int × List UInt8 × Int × List UInt8 × Int × Int × Unit) × (Int × List UInt8 × Unit) × Unit) : Option (Int × Unit) := F185 k v
theorem G185_eq (k : Nat) (v0 : Int) (v1 : List UInt8) (v2 : Int) (v3 : List UInt8) (v4 : Int) (v5 : List UInt8) (v6 v7 v8 : Int) (v9 : List UInt8) : G185 k (((v0, v1, ()), v2, v3, v4, v5, v6, v7, ()), (v8, v9, ()), ()) = ocall (G29 k ((v0, v1, ()), (v8, v9,
 ()), ())) fun r => some (r.1, ()) := by kernel_rfl
noncomputable def G7000001_3 (k : Nat) (j : Nat) (v : List ((Int × List UInt8 × Unit) × Int × List UInt8 × Int × List UInt8 × Int × Int × Unit) × Unit × Int × Int × Int × Int × List UInt8 × Unit) : Option (List ((Int × List UInt8 × Unit) × Int × List UInt8 × Int × List UInt8 × Int × Int ×
 Unit) × Unit × Int × Int × Int × List UInt8 × Unit) := F7000001_3 k j v
theorem G7000001_3_eq (k : Nat) (j : Nat) (v0 : List ((Int × List UInt8 × Unit) × Int × List UInt8 × Int × List UInt8 × Int × Int × Unit)) (v1 v2 v3 v4 : Int) (v5 : List UInt8) : G7000001_3 k (j + 1) (v0, (), v1, v2, v3, v4, v5, ()) = sel (decide (v2 < v3)) (sel (decide (0 ≤
 IntKind.i64.wrap ((IntKind.u64.wrap (IntKind.i64.wrap (v2 + v3))).fdiv (2 ^ min (Int.toNat 1) 64)))) (sel (decide (IntKind.i64.wrap ((IntKind.u64.wrap (IntKind.i64.wrap (v2 + v3))).fdiv (2 ^ min (Int.toNat 1) 64)) < Int.ofNat v0.length)) (ocall (G185 k ((((v0.getD (IntKind.i64.wrap
 ((IntKind.u64.wrap (IntKind.i64.wrap (v2 + v3))).fdiv (2 ^ min (Int.toNat 1) 64))).toNat ((0, [], ()), 0, [], 0, [], 0, 0, ())).1.1, (v0.getD (IntKind.i64.wrap ((IntKind.u64.wrap (IntKind.i64.wrap (v2 + v3))).fdiv (2 ^ min (Int.toNat 1) 64))).toNat ((0, [], ()), 0, [], 0, [],
 0, 0, ())).1.2.1, ()), (v0.getD (IntKind.i64.wrap ((IntKind.u64.wrap (IntKind.i64.wrap (v2 + v3))).fdiv (2 ^ min (Int.toNat 1) 64))).toNat ((0, [], ()), 0, [], 0, [], 0, 0, ())).2.1, (v0.getD (IntKind.i64.wrap ((IntKind.u64.wrap (IntKind.i64.wrap (v2 + v3))).fdiv (2 ^
 min (Int.toNat 1) 64))).toNat ((0, [], ()), 0, [], 0, [], 0, 0, ())).2.2.1, (v0.getD (IntKind.i64.wrap ((IntKind.u64.wrap (IntKind.i64.wrap (v2 + v3))).fdiv (2 ^ min (Int.toNat 1) 64))).toNat ((0, [], ()), 0, [], 0, [], 0, 0, ())).2.2.2.1, (v0.getD (IntKind.i64.wrap
 ((IntKind.u64.wrap (IntKind.i64.wrap (v2 + v3))).fdiv (2 ^ min (Int.toNat 1) 64))).toNat ((0, [], ()), 0, [], 0, [], 0, 0, ())).2.2.2.2.1, (v0.getD (IntKind.i64.wrap ((IntKind.u64.wrap (IntKind.i64.wrap (v2 + v3))).fdiv (2 ^ min (Int.toNat 1) 64))).toNat ((0, [], ()), 0, [],
 0, [], 0, 0, ())).2.2.2.2.2.1, (v0.getD (IntKind.i64.wrap ((IntKind.u64.wrap (IntKind.i64.wrap (v2 + v3))).fdiv (2 ^ min (Int.toNat 1) 64))).toNat ((0, [], ()), 0, [], 0, [], 0, 0, ())).2.2.2.2.2.2.1, ()), (v4, v5, ()), ())) fun r => sel (decide (r.1 <
 0)) (G7000001_3 k j (v0, (), v1, IntKind.i64.wrap (IntKind.i64.wrap ((IntKind.u64.wrap (IntKind.i64.wrap (v2 + v3))).fdiv (2 ^ min (Int.toNat 1) 64)) + 1), v3, v4, v5, ())) (G7000001_3 k j (v0, (), v1, v2, IntKind.i64.wrap ((IntKind.u64.wrap (IntKind.i64.wrap (v2 + v3))).fdiv
 (2 ^ min (Int.toNat 1) 64)), v4, v5, ()))) none) none) (some (v0, (), v1, v2, v4, v5, ())) := by kernel_rfl
noncomputable def G7000001 (k : Nat) (v : List ((Int × List UInt8 × Unit) × Int × List UInt8 × Int × List UInt8 × Int × Int × Unit) × (Int × List UInt8 × Unit) × Unit × Unit) : Option (Int × Bool × Unit) := F7000001 k v
theorem G7000001_eq (k : Nat) (v0 : List ((Int × List UInt8 × Unit) × Int × List UInt8 × Int × List UInt8 × Int × Int × Unit)) (v1 : Int) (v2 : List UInt8) : G7000001 k (v0, (v1, v2, ()), (), ()) = ocall (G7000001_3 k k (v0, (), Int.ofNat v0.length, 0, Int.ofNat
 v0.length, v1, v2, ())) fun e => sel (decide (e.2.2.2.1 < e.2.2.1)) (sel (decide (0 ≤ e.2.2.2.1)) (sel (decide (e.2.2.2.1 < Int.ofNat e.1.length)) (ocall (G185 k ((((e.1.getD e.2.2.2.1.toNat ((0, [], ()), 0, [], 0, [], 0, 0, ())).1.1, (e.1.getD e.2.2.2.1.toNat ((0, [],
 ()), 0, [], 0, [], 0, 0, ())).1.2.1, ()), (e.1.getD e.2.2.2.1.toNat ((0, [], ()), 0, [], 0, [], 0, 0, ())).2.1, (e.1.getD e.2.2.2.1.toNat ((0, [], ()), 0, [], 0, [], 0, 0, ())).2.2.1, (e.1.getD e.2.2.2.1.toNat ((0, [], ()), 0, [], 0,
 [], 0, 0, ())).2.2.2.1, (e.1.getD e.2.2.2.1.toNat ((0, [], ()), 0, [], 0, [], 0, 0, ())).2.2.2.2.1, (e.1.getD e.2.2.2.1.toNat ((0, [], ()), 0, [], 0, [], 0, 0, ())).2.2.2.2.2.1, (e.1.getD e.2.2.2.1.toNat ((0, [], ()), 0, [], 0, [], 0, 0,
 ())).2.2.2.2.2.2.1, ()), (e.2.2.2.2.1, e.2.2.2.2.2.1, ()), ())) fun r => some (e.2.2.2.1, decide (r.1 = 0), ())) none) none) (some (e.2.2.2.1, false, ())) := by kernel_rfl
noncomputable def G131 (k : Nat) (v : List ((Int × List UInt8 × Unit) × Int × List UInt8 × Int × List UInt8 × Int × Int × Unit) × (Int × List UInt8 × Unit) × Unit) : Option (Int × Bool × Unit) := F131 k v
theorem G131_eq (k : Nat) (v0 : List ((Int × List UInt8 × Unit) × Int × List UInt8 × Int × List UInt8 × Int × Int × Unit)) (v1 : Int) (v2 : List UInt8) : G131 k (v0, (v1, v2, ()), ()) = ocall (G7000001 k (v0, (v1, v2, ()), (), ())) fun r => some (r.1, r.2.1,
 ()) := by kernel_rfl
noncomputable def G133 (k : Nat) (v : List ((Int × List UInt8 × Unit) × Int × List UInt8 × Int × List UInt8 × Int × Int × Unit)) : Option (List ((Int × List UInt8 × Unit) × Int × List UInt8 × Int × List UInt8 × Int × Int × Unit) × Unit) := F133 k v
theorem G133_eq (k : Nat) (v0 : List ((Int × List UInt8 × Unit) × Int × List UInt8 × Int × List UInt8 × Int × Int × Unit)) : G133 k v0 = sel (decide ((0 + v0.length) * 88 ≤ 140737488355328)) (some (v0, ())) none := by kernel_rfl
noncomputable def G132 (k : Nat) (v : List ((Int × List UInt8 × Unit) × Int × List UInt8 × Int × List UInt8 × Int × Int × Unit) × Int × List ((Int × List UInt8 × Unit) × Int × List UInt8 × Int × List UInt8 × Int × Int × Unit) × Unit) : Option (List ((Int × List UInt8 × Unit) × Int × List UInt8
 × Int × List UInt8 × Int × Int × Unit) × Unit) := F132 k v
theorem G132_eq (k : Nat) (v0 : List ((Int × List UInt8 × Unit) × Int × List UInt8 × Int × List UInt8 × Int × Int × Unit)) (v1 : Int) (v2 : List ((Int × List UInt8 × Unit) × Int × List UInt8 × Int × List UInt8 × Int × Int × Unit)) : G132 k (v0, v1, v2, ()) = sel (decide (0 ≤ v1)) (sel
 (decide (v1 ≤ Int.ofNat v0.length)) (sel (decide (v0.length ≤ 1000000)) (sel (decide (v2.length = 1)) (some (List.take v1.toNat v0 ++ v2 ++ List.drop v1.toNat v0, ())) none) none) none) none := by kernel_rfl
noncomputable def G58 (k : Nat) (v : List ((Int × List UInt8 × Unit) × Int × List UInt8 × Int × List UInt8 × Int × Int × Unit) × ((Int × List UInt8 × Unit) × Int × List UInt8 × Int × List UInt8 × Int × Int × Unit) × Unit) : Option (List ((Int × List UInt8 × Unit) × Int × List UInt8 × Int ×
 List UInt8 × Int × Int × Unit) × Int × Unit) := F58 k v
theorem G58_eq (k : Nat) (v0 : List ((Int × List UInt8 × Unit) × Int × List UInt8 × Int × List UInt8 × Int × Int × Unit)) (v1 : Int) (v2 : List UInt8) (v3 : Int) (v4 : List UInt8) (v5 : Int) (v6 : List UInt8) (v7 v8 : Int) : G58 k (v0, ((v1, v2, ()), v3, v4, v5, v6, v7, v8, ()),
 ()) = ocall (G66 k (v0, ())) fun r => sel (!r.1) (some (v0, 1, ())) (ocall (G53 k (((v1, v2, ()), v3, v4, v5, v6, v7, v8, ()), ())) fun r => sel (!r.1) (some (v0, 1, ())) (ocall (G131 k (v0, (v1, v2, ()), ())) fun r => sel r.2.1
 (some (v0, 6, ())) (sel (decide (Int.ofNat v0.length = 128)) (some (v0, 7, ())) (ocall (G133 k v0) fun r_1 => ocall (G132 k (r_1.1, r.1, [((v1, v2, ()), v3, v4, v5, v6, v7, v8, ())], ())) fun r => some (r.1, 0, ()))))) := by kernel_rfl
noncomputable def G61 (k : Nat) (v : List ((Int × List UInt8 × Unit) × Int × List UInt8 × Int × List UInt8 × Int × Int × Unit) × Int × ((Int × List UInt8 × Unit) × Int × List UInt8 × Int × List UInt8 × Int × Int × Unit) × Unit) : Option (List ((Int × List UInt8 × Unit) × Int × List UInt8 × Int
 × List UInt8 × Int × Int × Unit) × Int × Unit) := F61 k v
theorem G61_eq (k : Nat) (v0 : List ((Int × List UInt8 × Unit) × Int × List UInt8 × Int × List UInt8 × Int × Int × Unit)) (v1 v2 : Int) (v3 : List UInt8) (v4 : Int) (v5 : List UInt8) (v6 : Int) (v7 : List UInt8) (v8 v9 : Int) : G61 k (v0, v1, ((v2, v3, ()), v4, v5, v6, v7, v8, v9,
 ()), ()) = ocall (G66 k (v0, ())) fun r => sel (!r.1) (some (v0, 1, ())) (ocall (G53 k (((v2, v3, ()), v4, v5, v6, v7, v8, v9, ()), ())) fun r => sel (!r.1) (some (v0, 1, ())) (ocall (G131 k (v0, (v2, v3, ()), ())) fun r
 => sel (!r.2.1) (some (v0, 5, ())) (sel (decide (0 ≤ r.1)) (sel (decide (r.1 < Int.ofNat v0.length)) (sel (!decide ((v0.getD r.1.toNat ((0, [], ()), 0, [], 0, [], 0, 0, ())).2.1 = v1)) (some (v0, 8, ())) (ocall (G133 k v0) fun r_1 => sel (decide (0 ≤ r.1)) (sel
 (decide (r.1 < Int.ofNat r_1.1.length)) (sel (decide (r.1.toNat < r_1.1.length)) (some (r_1.1.set r.1.toNat ((v2, v3, ()), v4, v5, v6, v7, v8, v9, ()), 0, ())) none) none) none)) none) none))) := by kernel_rfl
noncomputable def G135 (k : Nat) (v : List ((Int × List UInt8 × Unit) × Int × List UInt8 × Int × List UInt8 × Int × Int × Unit) × Int × Int × Unit) : Option (List ((Int × List UInt8 × Unit) × Int × List UInt8 × Int × List UInt8 × Int × Int × Unit) × Unit) := F135 k v
theorem G135_eq (k : Nat) (v0 : List ((Int × List UInt8 × Unit) × Int × List UInt8 × Int × List UInt8 × Int × Int × Unit)) (v1 v2 : Int) : G135 k (v0, v1, v2, ()) = sel (decide (0 ≤ v1)) (sel (decide (v1 ≤ v2)) (sel (decide (v2 ≤ Int.ofNat v0.length)) (some (List.take v1.toNat v0 ++
 List.drop v2.toNat v0, ())) none) none) none := by kernel_rfl
noncomputable def G63 (k : Nat) (v : List ((Int × List UInt8 × Unit) × Int × List UInt8 × Int × List UInt8 × Int × Int × Unit) × (Int × List UInt8 × Unit) × Unit) : Option (List ((Int × List UInt8 × Unit) × Int × List UInt8 × Int × List UInt8 × Int × Int × Unit) × Int × Unit) := F63 k v
theorem G63_eq (k : Nat) (v0 : List ((Int × List UInt8 × Unit) × Int × List UInt8 × Int × List UInt8 × Int × Int × Unit)) (v1 : Int) (v2 : List UInt8) : G63 k (v0, (v1, v2, ()), ()) = ocall (G66 k (v0, ())) fun r => sel (!r.1) (some (v0, 1, ())) (ocall (G131 k (v0,
 (v1, v2, ()), ())) fun r => sel (!r.2.1) (some (v0, 5, ())) (ocall (G133 k v0) fun r_1 => ocall (G135 k (r_1.1, r.1, IntKind.i64.wrap (r.1 + 1), ())) fun r => some (r.1, 0, ()))) := by kernel_rfl
noncomputable def G56_2 (k : Nat) (j : Nat) (v : List ((Int × List UInt8 × Unit) × Int × List UInt8 × Int × List UInt8 × Int × Int × Unit) × Int × Int × Int × List UInt8 × Int × List UInt8 × Int × List UInt8 × Int × List UInt8 × Int × Int × Unit) : Option (Int × List UInt8 × Int × List UInt8 ×
 Int × List UInt8 × Int × Int × Unit ⊕ Bool × Int × List UInt8 × Int × List UInt8 × Int × List UInt8 × Int × Int × Unit) := F56_2 k j v
theorem G56_2_eq (k : Nat) (j : Nat) (v0 : List ((Int × List UInt8 × Unit) × Int × List UInt8 × Int × List UInt8 × Int × Int × Unit)) (v1 v2 v3 : Int) (v4 : List UInt8) (v5 : Int) (v6 : List UInt8) (v7 : Int) (v8 : List UInt8) (v9 : Int) (v10 : List UInt8) (v11 v12 : Int) : G56_2 k (j + 1) (v0,
 v1, v2, v3, v4, v5, v6, v7, v8, v9, v10, v11, v12, ()) = sel (decide (v2 < v1)) (sel (decide (0 ≤ v2)) (sel (decide (v2 < Int.ofNat v0.length)) (sel (sameI (v0.getD v2.toNat ((0, [], ()), 0, [], 0, [], 0, 0, ())).1.1 v3 && (sameS (v0.getD v2.toNat ((0, [], ()), 0, [],
 0, [], 0, 0, ())).1.2.1 v4 && true)) (some (Sum.inr (true, (v0.getD v2.toNat ((0, [], ()), 0, [], 0, [], 0, 0, ())).1.1, (v0.getD v2.toNat ((0, [], ()), 0, [], 0, [], 0, 0, ())).1.2.1, (v0.getD v2.toNat ((0, [], ()), 0, [], 0, [], 0, 0,
 ())).2.1, (v0.getD v2.toNat ((0, [], ()), 0, [], 0, [], 0, 0, ())).2.2.1, (v0.getD v2.toNat ((0, [], ()), 0, [], 0, [], 0, 0, ())).2.2.2.1, (v0.getD v2.toNat ((0, [], ()), 0, [], 0, [], 0, 0, ())).2.2.2.2.1, (v0.getD v2.toNat ((0, [],
 ()), 0, [], 0, [], 0, 0, ())).2.2.2.2.2.1, (v0.getD v2.toNat ((0, [], ()), 0, [], 0, [], 0, 0, ())).2.2.2.2.2.2.1, ()))) (G56_2 k j (v0, v1, IntKind.i64.wrap (v2 + 1), v3, v4, v5, v6, v7, v8, v9, v10, v11, v12, ()))) none) none) (some (Sum.inl (v5, v6,
 v7, v8, v9, v10, v11, v12, ()))) := by kernel_rfl
noncomputable def G56 (k : Nat) (v : List ((Int × List UInt8 × Unit) × Int × List UInt8 × Int × List UInt8 × Int × Int × Unit) × (Int × List UInt8 × Unit) × Unit) : Option (((Int × List UInt8 × Unit) × Int × List UInt8 × Int × List UInt8 × Int × Int × Unit) × Bool × Unit) := F56 k v
theorem G56_eq (k : Nat) (v0 : List ((Int × List UInt8 × Unit) × Int × List UInt8 × Int × List UInt8 × Int × Int × Unit)) (v1 : Int) (v2 : List UInt8) : G56 k (v0, (v1, v2, ()), ()) = ocall (G56_2 k k (v0, Int.ofNat v0.length, 0, v1, v2, 0, [], 0, [], 0, [], 0, 0, ())) fun
 e => esel e (fun v => some (((0, [], ()), 0, [], 0, [], 0, 0, ()), false, ())) fun e => some (((e.2.1, e.2.2.1, ()), e.2.2.2.1, e.2.2.2.2.1, e.2.2.2.2.2.1, e.2.2.2.2.2.2.1, e.2.2.2.2.2.2.2.1, e.2.2.2.2.2.2.2.2.1, ()), e.1, ()) := by kernel_rfl
noncomputable def G54 (k : Nat) (v : Unit) : Option (Bool × Unit) := F54 k v
theorem G54_eq (k : Nat) : G54 k () = ocall (G58 k ([((2, [82, 82, 78, 48, 48, 48, 48, 48, 48, 48, 48, 49], ()), 1, [49, 56], 5, [], 0, 0, ())], ((1, [82, 82, 78, 48, 48, 48, 48, 48, 48, 48, 48, 49], ()), 1, [49, 56], 5, [], 0, 0, ()), ())) fun r =>
 ocall (G61 k (r.1, 1, ((2, [82, 82, 78, 48, 48, 48, 48, 48, 48, 48, 48, 49], ()), 2, [49, 56], 5, [48, 48], 0, 0, ()), ())) fun r_1 => ocall (G61 k (r_1.1, 1, ((2, [82, 82, 78, 48, 48, 48, 48, 48, 48, 48, 48, 49], ()), 2, [49, 56], 5, [48, 48], 0, 0, ()),
 ())) fun r_2 => ocall (G63 k (r_1.1, (1, [82, 82, 78, 48, 48, 48, 48, 48, 48, 48, 48, 49], ()), ())) fun r_3 => ocall (G56 k (r_3.1, (2, [82, 82, 78, 48, 48, 48, 48, 48, 48, 48, 48, 49], ()), ())) fun r_4 => sel (decide (r.2.1 = 0)) (sel (decide (r_1.2.1 = 0))
 (sel (decide (r_2.2.1 = 8)) (sel (decide (r_3.2.1 = 0)) (sel (decide (Int.ofNat r.1.length = 2)) (sel (decide (0 < Int.ofNat r.1.length)) (sel (sameI (r.1.getD (Int.toNat 0) ((0, [], ()), 0, [], 0, [], 0, 0, ())).1.1 1 && (sameS (r.1.getD (Int.toNat 0) ((0, [], ()), 0, [], 0,
 [], 0, 0, ())).1.2.1 [82, 82, 78, 48, 48, 48, 48, 48, 48, 48, 48, 49] && true) && (sameI (r.1.getD (Int.toNat 0) ((0, [], ()), 0, [], 0, [], 0, 0, ())).2.1 1 && (sameS (r.1.getD (Int.toNat 0) ((0, [], ()), 0, [], 0, [], 0, 0, ())).2.2.1 [49, 56] && (sameI
 (r.1.getD (Int.toNat 0) ((0, [], ()), 0, [], 0, [], 0, 0, ())).2.2.2.1 5 && (sameS (r.1.getD (Int.toNat 0) ((0, [], ()), 0, [], 0, [], 0, 0, ())).2.2.2.2.1 [] && (sameI (r.1.getD (Int.toNat 0) ((0, [], ()), 0, [], 0, [], 0, 0, ())).2.2.2.2.2.1 0 &&
 (sameI (r.1.getD (Int.toNat 0) ((0, [], ()), 0, [], 0, [], 0, 0, ())).2.2.2.2.2.2.1 0 && true))))))) (sel (decide (1 < Int.ofNat r_1.1.length)) (sel (sameI (r_1.1.getD (Int.toNat 1) ((0, [], ()), 0, [], 0, [], 0, 0, ())).1.1 2 && (sameS (r_1.1.getD (Int.toNat 1) ((0,
 [], ()), 0, [], 0, [], 0, 0, ())).1.2.1 [82, 82, 78, 48, 48, 48, 48, 48, 48, 48, 48, 49] && true) && (sameI (r_1.1.getD (Int.toNat 1) ((0, [], ()), 0, [], 0, [], 0, 0, ())).2.1 2 && (sameS (r_1.1.getD (Int.toNat 1) ((0, [], ()), 0, [], 0, [], 0, 0,
 ())).2.2.1 [49, 56] && (sameI (r_1.1.getD (Int.toNat 1) ((0, [], ()), 0, [], 0, [], 0, 0, ())).2.2.2.1 5 && (sameS (r_1.1.getD (Int.toNat 1) ((0, [], ()), 0, [], 0, [], 0, 0, ())).2.2.2.2.1 [48, 48] && (sameI (r_1.1.getD (Int.toNat 1) ((0, [], ()), 0,
 [], 0, [], 0, 0, ())).2.2.2.2.2.1 0 && (sameI (r_1.1.getD (Int.toNat 1) ((0, [], ()), 0, [], 0, [], 0, 0, ())).2.2.2.2.2.2.1 0 && true))))))) (sel r_4.2.1 (sel (sameI r_4.1.1.1 2 && (sameS r_4.1.1.2.1 [82, 82, 78, 48, 48, 48, 48, 48, 48, 48, 48, 49] && true) && (sameI
 r_4.1.2.1 2 && (sameS r_4.1.2.2.1 [49, 56] && (sameI r_4.1.2.2.2.1 5 && (sameS r_4.1.2.2.2.2.1 [48, 48] && (sameI r_4.1.2.2.2.2.2.1 0 && (sameI r_4.1.2.2.2.2.2.2.1 0 && true))))))) (ocall (G66 k (r.1, ())) fun r => sel r.1 (ocall (G53 k (((2, [82, 82, 78, 48, 48, 48, 48, 48, 48, 48, 48, 49],
 ()), 2, [49, 56], 5, [48, 48], 0, 0, ()), ())) fun r => some (r.1, ())) (some (false, ()))) (some (false, ()))) (some (false, ()))) (some (false, ()))) none) (some (false, ()))) none) (some (false, ()))) (some (false,
 ()))) (some (false, ()))) (some (false, ()))) (some (false, ())) := by kernel_rfl
noncomputable def G55_2 (k : Nat) (j : Nat) (v : List ((Int × List UInt8 × Unit) × Int × List UInt8 × Int × List UInt8 × Int × Int × Unit) × Int × Unit) : Option (List ((Int × List UInt8 × Unit) × Int × List UInt8 × Int × List UInt8 × Int × Int × Unit) × Unit ⊕ Bool × Unit) := F55_2 k j v
theorem G55_2_eq (k : Nat) (j : Nat) (v0 : List ((Int × List UInt8 × Unit) × Int × List UInt8 × Int × List UInt8 × Int × Int × Unit)) (v1 : Int) : G55_2 k (j + 1) (v0, v1, ()) = sel (decide (v1 < Int.ofNat v0.length)) (sel (decide (v1 < 200)) (sel (decide (0 ≤ v1)) (sel (decide (v1 <
 Int.ofNat v0.length)) (ocall (G46 k ((((v0.getD v1.toNat ((0, [], ()), 0, [], 0, [], 0, 0, ())).1.1, (v0.getD v1.toNat ((0, [], ()), 0, [], 0, [], 0, 0, ())).1.2.1, ()), (v0.getD v1.toNat ((0, [], ()), 0, [], 0, [], 0, 0, ())).2.1, (v0.getD
 v1.toNat ((0, [], ()), 0, [], 0, [], 0, 0, ())).2.2.1, (v0.getD v1.toNat ((0, [], ()), 0, [], 0, [], 0, 0, ())).2.2.2.1, (v0.getD v1.toNat ((0, [], ()), 0, [], 0, [], 0, 0, ())).2.2.2.2.1, (v0.getD v1.toNat ((0, [], ()), 0, [], 0, [], 0, 0,
 ())).2.2.2.2.2.1, (v0.getD v1.toNat ((0, [], ()), 0, [], 0, [], 0, 0, ())).2.2.2.2.2.2.1, ()), ())) fun r => sel (!r.1) (some (Sum.inr (false, ()))) (G55_2 k j (v0, IntKind.i64.wrap (v1 + 1), ()))) none) none) (some (Sum.inl (v0, ()))))
 (some (Sum.inl (v0, ()))) := by kernel_rfl
noncomputable def G55 (k : Nat) (v : List ((Int × List UInt8 × Unit) × Int × List UInt8 × Int × List UInt8 × Int × Int × Unit) × Unit) : Option (Bool × Unit) := F55 k v
theorem G55_eq (k : Nat) (v0 : List ((Int × List UInt8 × Unit) × Int × List UInt8 × Int × List UInt8 × Int × Int × Unit)) : G55 k (v0, ()) = ocall (G55_2 k k (v0, 0, ())) fun e => esel e (fun v => some (decide (Int.ofNat v.1.length ≤ 200), ())) fun e => some (e.1,
 ()) := by kernel_rfl
noncomputable def G57_2 (k : Nat) (j : Nat) (v : List ((Int × List UInt8 × Unit) × Int × List UInt8 × Int × List UInt8 × Int × Int × Unit) × Int × Int × List UInt8 × Unit) : Option (Unit ⊕ Int × Unit) := F57_2 k j v
theorem G57_2_eq (k : Nat) (j : Nat) (v0 : List ((Int × List UInt8 × Unit) × Int × List UInt8 × Int × List UInt8 × Int × Int × Unit)) (v1 v2 : Int) (v3 : List UInt8) : G57_2 k (j + 1) (v0, v1, v2, v3, ()) = sel (decide (v1 < Int.ofNat v0.length)) (sel (decide (0 ≤ v1)) (sel (decide (v1 <
 Int.ofNat v0.length)) (sel (sameI (v0.getD v1.toNat ((0, [], ()), 0, [], 0, [], 0, 0, ())).1.1 v2 && (sameS (v0.getD v1.toNat ((0, [], ()), 0, [], 0, [], 0, 0, ())).1.2.1 v3 && true)) (some (Sum.inr (v1, ()))) (G57_2 k j (v0, IntKind.i64.wrap (v1 + 1), v2, v3,
 ()))) none) none) (some (Sum.inl ())) := by kernel_rfl
noncomputable def G57 (k : Nat) (v : List ((Int × List UInt8 × Unit) × Int × List UInt8 × Int × List UInt8 × Int × Int × Unit) × (Int × List UInt8 × Unit) × Unit) : Option (Int × Unit) := F57 k v
theorem G57_eq (k : Nat) (v0 : List ((Int × List UInt8 × Unit) × Int × List UInt8 × Int × List UInt8 × Int × Int × Unit)) (v1 : Int) (v2 : List UInt8) : G57 k (v0, (v1, v2, ()), ()) = ocall (G57_2 k k (v0, 0, v1, v2, ())) fun e => esel e (fun v => some ((-1 : Int),
 ())) fun e => some (e.1, ()) := by kernel_rfl
noncomputable def G67_2 (k : Nat) (j : Nat) (v : List ((Int × List UInt8 × Unit) × Int × List UInt8 × Int × List UInt8 × Int × Int × Unit) × Int × Unit) : Option (List ((Int × List UInt8 × Unit) × Int × List UInt8 × Int × List UInt8 × Int × Int × Unit) × Unit ⊕ Bool × Unit) := F67_2 k j v
theorem G67_2_eq (k : Nat) (j : Nat) (v0 : List ((Int × List UInt8 × Unit) × Int × List UInt8 × Int × List UInt8 × Int × Int × Unit)) (v1 : Int) : G67_2 k (j + 1) (v0, v1, ()) = sel (decide (v1 < Int.ofNat v0.length)) (sel (decide (0 ≤ v1)) (sel (decide (v1 < Int.ofNat v0.length)) (ocall
 (G65 k ((((v0.getD v1.toNat ((0, [], ()), 0, [], 0, [], 0, 0, ())).1.1, (v0.getD v1.toNat ((0, [], ()), 0, [], 0, [], 0, 0, ())).1.2.1, ()), (v0.getD v1.toNat ((0, [], ()), 0, [], 0, [], 0, 0, ())).2.1, (v0.getD v1.toNat ((0, [], ()),
 0, [], 0, [], 0, 0, ())).2.2.1, (v0.getD v1.toNat ((0, [], ()), 0, [], 0, [], 0, 0, ())).2.2.2.1, (v0.getD v1.toNat ((0, [], ()), 0, [], 0, [], 0, 0, ())).2.2.2.2.1, (v0.getD v1.toNat ((0, [], ()), 0, [], 0, [], 0, 0, ())).2.2.2.2.2.1, (v0.getD
 v1.toNat ((0, [], ()), 0, [], 0, [], 0, 0, ())).2.2.2.2.2.2.1, ()), ())) fun r => sel (!r.1) (some (Sum.inr (false, ()))) (sel (decide (0 < v1)) (sel (decide (0 ≤ IntKind.i64.wrap (v1 - 1))) (sel (decide (IntKind.i64.wrap (v1 - 1) < Int.ofNat v0.length)) (sel
 (decide (0 ≤ v1)) (sel (decide (v1 < Int.ofNat v0.length)) (ocall (G30 k (((v0.getD (IntKind.i64.wrap (v1 - 1)).toNat ((0, [], ()), 0, [], 0, [], 0, 0, ())).1.1, (v0.getD (IntKind.i64.wrap (v1 - 1)).toNat ((0, [], ()), 0, [], 0, [], 0, 0, ())).1.2.1, ()),
 ((v0.getD v1.toNat ((0, [], ()), 0, [], 0, [], 0, 0, ())).1.1, (v0.getD v1.toNat ((0, [], ()), 0, [], 0, [], 0, 0, ())).1.2.1, ()), ())) fun r => sel (!decide (r.1 = (-1 : Int))) (some (Sum.inr (false, ()))) (G67_2 k j (v0, IntKind.i64.wrap (v1
 + 1), ()))) none) none) none) none) (G67_2 k j (v0, IntKind.i64.wrap (v1 + 1), ())))) none) none) (some (Sum.inl (v0, ()))) := by kernel_rfl
noncomputable def G67 (k : Nat) (v : List ((Int × List UInt8 × Unit) × Int × List UInt8 × Int × List UInt8 × Int × Int × Unit) × Unit) : Option (Bool × Unit) := F67 k v
theorem G67_eq (k : Nat) (v0 : List ((Int × List UInt8 × Unit) × Int × List UInt8 × Int × List UInt8 × Int × Int × Unit)) : G67 k (v0, ()) = ocall (G67_2 k k (v0, 0, ())) fun e => esel e (fun v => some (decide (Int.ofNat v.1.length < 129), ())) fun e => some (e.1,
 ()) := by kernel_rfl
noncomputable def G134_4 (k : Nat) (j : Nat) (v : List ((Int × List UInt8 × Unit) × Int × List UInt8 × Int × List UInt8 × Int × Int × Unit) × List ((Int × List UInt8 × Unit) × Int × List UInt8 × Int × List UInt8 × Int × Int × Unit) × Bool × Int × Int × List UInt8 × Int × List UInt8 × Int × List
 UInt8 × Int × Int × Unit) : Option (List ((Int × List UInt8 × Unit) × Int × List UInt8 × Int × List UInt8 × Int × Int × Unit) × Bool × Int × List UInt8 × Int × List UInt8 × Int × List UInt8 × Int × Int × Unit) := F134_4 k j v
theorem G134_4_eq (k : Nat) (j : Nat) (v0 v1 : List ((Int × List UInt8 × Unit) × Int × List UInt8 × Int × List UInt8 × Int × Int × Unit)) (v2 : Bool) (v3 v4 : Int) (v5 : List UInt8) (v6 : Int) (v7 : List UInt8) (v8 : Int) (v9 : List UInt8) (v10 v11 : Int) : G134_4 k (j + 1) (v0, v1, v2, v3, v4,
 v5, v6, v7, v8, v9, v10, v11, ()) = sel (decide (v3 < Int.ofNat v0.length)) (sel (decide (0 ≤ v3)) (sel (decide (v3 < Int.ofNat v0.length)) (ocall (G30 k ((v4, v5, ()), ((v0.getD v3.toNat ((0, [], ()), 0, [], 0, [], 0, 0, ())).1.1, (v0.getD v3.toNat ((0, [],
 ()), 0, [], 0, [], 0, 0, ())).1.2.1, ()), ())) fun r => sel (decide (r.1 ≤ 0)) (sel (!v2) (sel (decide ((v1.length + 1) * 88 ≤ 140737488355328)) (sel (!decide (r.1 = 0)) (sel (decide (0 ≤ v3)) (sel (decide (v3 < Int.ofNat v0.length)) (sel (decide (((v1 ++ [((v4, v5,
 ()), v6, v7, v8, v9, v10, v11, ())]).length + 1) * 88 ≤ 140737488355328)) (G134_4 k j (v0, v1 ++ [((v4, v5, ()), v6, v7, v8, v9, v10, v11, ())] ++ [(((v0.getD v3.toNat ((0, [], ()), 0, [], 0, [], 0, 0, ())).1.1, (v0.getD v3.toNat ((0, [], ()),
 0, [], 0, [], 0, 0, ())).1.2.1, ()), (v0.getD v3.toNat ((0, [], ()), 0, [], 0, [], 0, 0, ())).2.1, (v0.getD v3.toNat ((0, [], ()), 0, [], 0, [], 0, 0, ())).2.2.1, (v0.getD v3.toNat ((0, [], ()), 0, [], 0, [], 0, 0, ())).2.2.2.1,
 (v0.getD v3.toNat ((0, [], ()), 0, [], 0, [], 0, 0, ())).2.2.2.2.1, (v0.getD v3.toNat ((0, [], ()), 0, [], 0, [], 0, 0, ())).2.2.2.2.2.1, (v0.getD v3.toNat ((0, [], ()), 0, [], 0, [], 0, 0, ())).2.2.2.2.2.2.1, ())], true, IntKind.i64.wrap (v3 +
 1), v4, v5, v6, v7, v8, v9, v10, v11, ())) none) none) none) (G134_4 k j (v0, v1 ++ [((v4, v5, ()), v6, v7, v8, v9, v10, v11, ())], true, IntKind.i64.wrap (v3 + 1), v4, v5, v6, v7, v8, v9, v10, v11, ()))) none) (sel (!decide (r.1 = 0)) (sel (decide (0 ≤ v3)) (sel
 (decide (v3 < Int.ofNat v0.length)) (sel (decide ((v1.length + 1) * 88 ≤ 140737488355328)) (G134_4 k j (v0, v1 ++ [(((v0.getD v3.toNat ((0, [], ()), 0, [], 0, [], 0, 0, ())).1.1, (v0.getD v3.toNat ((0, [], ()), 0, [], 0, [], 0, 0, ())).1.2.1, ()), (v0.getD
 v3.toNat ((0, [], ()), 0, [], 0, [], 0, 0, ())).2.1, (v0.getD v3.toNat ((0, [], ()), 0, [], 0, [], 0, 0, ())).2.2.1, (v0.getD v3.toNat ((0, [], ()), 0, [], 0, [], 0, 0, ())).2.2.2.1, (v0.getD v3.toNat ((0, [], ()), 0, [], 0, [], 0, 0,
 ())).2.2.2.2.1, (v0.getD v3.toNat ((0, [], ()), 0, [], 0, [], 0, 0, ())).2.2.2.2.2.1, (v0.getD v3.toNat ((0, [], ()), 0, [], 0, [], 0, 0, ())).2.2.2.2.2.2.1, ())], v2, IntKind.i64.wrap (v3 + 1), v4, v5, v6, v7, v8, v9, v10, v11, ())) none)
 none) none) (G134_4 k j (v0, v1, v2, IntKind.i64.wrap (v3 + 1), v4, v5, v6, v7, v8, v9, v10, v11, ())))) (sel (!decide (r.1 = 0)) (sel (decide (0 ≤ v3)) (sel (decide (v3 < Int.ofNat v0.length)) (sel (decide ((v1.length + 1) * 88 ≤ 140737488355328)) (G134_4 k j (v0, v1 ++ [(((v0.getD v3.toNat
 ((0, [], ()), 0, [], 0, [], 0, 0, ())).1.1, (v0.getD v3.toNat ((0, [], ()), 0, [], 0, [], 0, 0, ())).1.2.1, ()), (v0.getD v3.toNat ((0, [], ()), 0, [], 0, [], 0, 0, ())).2.1, (v0.getD v3.toNat ((0, [], ()), 0, [], 0, [], 0, 0,
 ())).2.2.1, (v0.getD v3.toNat ((0, [], ()), 0, [], 0, [], 0, 0, ())).2.2.2.1, (v0.getD v3.toNat ((0, [], ()), 0, [], 0, [], 0, 0, ())).2.2.2.2.1, (v0.getD v3.toNat ((0, [], ()), 0, [], 0, [], 0, 0, ())).2.2.2.2.2.1, (v0.getD v3.toNat ((0, [],
 ()), 0, [], 0, [], 0, 0, ())).2.2.2.2.2.2.1, ())], v2, IntKind.i64.wrap (v3 + 1), v4, v5, v6, v7, v8, v9, v10, v11, ())) none) none) none) (G134_4 k j (v0, v1, v2, IntKind.i64.wrap (v3 + 1), v4, v5, v6, v7, v8, v9, v10, v11, ())))) none) none) (some (v1, v2,
 v4, v5, v6, v7, v8, v9, v10, v11, ())) := by kernel_rfl
noncomputable def G134 (k : Nat) (v : List ((Int × List UInt8 × Unit) × Int × List UInt8 × Int × List UInt8 × Int × Int × Unit) × ((Int × List UInt8 × Unit) × Int × List UInt8 × Int × List UInt8 × Int × Int × Unit) × Unit) : Option (List ((Int × List UInt8 × Unit) × Int × List UInt8 × Int ×
 List UInt8 × Int × Int × Unit) × Unit) := F134 k v
theorem G134_eq (k : Nat) (v0 : List ((Int × List UInt8 × Unit) × Int × List UInt8 × Int × List UInt8 × Int × Int × Unit)) (v1 : Int) (v2 : List UInt8) (v3 : Int) (v4 : List UInt8) (v5 : Int) (v6 : List UInt8) (v7 v8 : Int) : G134 k (v0, ((v1, v2, ()), v3, v4, v5, v6, v7, v8, ()),
 ()) = ocall (G134_4 k k (v0, [], false, 0, v1, v2, v3, v4, v5, v6, v7, v8, ())) fun e => sel (!e.2.1) (sel (decide ((e.1.length + 1) * 88 ≤ 140737488355328)) (some (e.1 ++ [((e.2.2.1, e.2.2.2.1, ()), e.2.2.2.2.1, e.2.2.2.2.2.1, e.2.2.2.2.2.2.1, e.2.2.2.2.2.2.2.1,
 e.2.2.2.2.2.2.2.2.1, e.2.2.2.2.2.2.2.2.2.1, ())], ())) none) (some (e.1, ())) := by kernel_rfl
noncomputable def G59 (k : Nat) (v : List ((Int × List UInt8 × Unit) × Int × List UInt8 × Int × List UInt8 × Int × Int × Unit) × ((Int × List UInt8 × Unit) × Int × List UInt8 × Int × List UInt8 × Int × Int × Unit) × Unit) : Option (List ((Int × List UInt8 × Unit) × Int × List UInt8 × Int ×
 List UInt8 × Int × Int × Unit) × Int × Unit) := F59 k v
theorem G59_eq (k : Nat) (v0 : List ((Int × List UInt8 × Unit) × Int × List UInt8 × Int × List UInt8 × Int × Int × Unit)) (v1 : Int) (v2 : List UInt8) (v3 : Int) (v4 : List UInt8) (v5 : Int) (v6 : List UInt8) (v7 v8 : Int) : G59 k (v0, ((v1, v2, ()), v3, v4, v5, v6, v7, v8, ()),
 ()) = ocall (G67 k (v0, ())) fun r => sel (!r.1) (some (v0, 1, ())) (ocall (G65 k (((v1, v2, ()), v3, v4, v5, v6, v7, v8, ()), ())) fun r => sel (!r.1) (some (v0, 1, ())) (ocall (G57 k (v0, (v1, v2, ()), ())) fun r => sel
 (decide (0 ≤ r.1)) (some (v0, 6, ())) (sel (decide (Int.ofNat v0.length = 128)) (some (v0, 7, ())) (ocall (G134 k (v0, ((v1, v2, ()), v3, v4, v5, v6, v7, v8, ()), ())) fun r => some (r.1, 0, ()))))) := by kernel_rfl
noncomputable def G60_4 (k : Nat) (j : Nat) (v : List ((Int × List UInt8 × Unit) × Int × List UInt8 × Int × List UInt8 × Int × Int × Unit) × List ((Int × List UInt8 × Unit) × Int × List UInt8 × Int × List UInt8 × Int × Int × Unit) × Int × Unit) : Option (Unit ⊕ Bool × Unit) := F60_4 k j v
theorem G60_4_eq (k : Nat) (j : Nat) (v0 v1 : List ((Int × List UInt8 × Unit) × Int × List UInt8 × Int × List UInt8 × Int × Int × Unit)) (v2 : Int) : G60_4 k (j + 1) (v0, v1, v2, ()) = sel (decide (v2 < Int.ofNat v0.length)) (sel (decide (0 ≤ v2)) (sel (decide (v2 < Int.ofNat v0.length))
 (sel (decide (0 ≤ v2)) (sel (decide (v2 < Int.ofNat v1.length)) (sel (!(sameI (v0.getD v2.toNat ((0, [], ()), 0, [], 0, [], 0, 0, ())).1.1 (v1.getD v2.toNat ((0, [], ()), 0, [], 0, [], 0, 0, ())).1.1 && (sameS (v0.getD v2.toNat ((0, [], ()), 0, [], 0, [], 0,
 0, ())).1.2.1 (v1.getD v2.toNat ((0, [], ()), 0, [], 0, [], 0, 0, ())).1.2.1 && true) && (sameI (v0.getD v2.toNat ((0, [], ()), 0, [], 0, [], 0, 0, ())).2.1 (v1.getD v2.toNat ((0, [], ()), 0, [], 0, [], 0, 0, ())).2.1 && (sameS (v0.getD
 v2.toNat ((0, [], ()), 0, [], 0, [], 0, 0, ())).2.2.1 (v1.getD v2.toNat ((0, [], ()), 0, [], 0, [], 0, 0, ())).2.2.1 && (sameI (v0.getD v2.toNat ((0, [], ()), 0, [], 0, [], 0, 0, ())).2.2.2.1 (v1.getD v2.toNat ((0, [], ()), 0, [], 0, [], 0, 0,
 ())).2.2.2.1 && (sameS (v0.getD v2.toNat ((0, [], ()), 0, [], 0, [], 0, 0, ())).2.2.2.2.1 (v1.getD v2.toNat ((0, [], ()), 0, [], 0, [], 0, 0, ())).2.2.2.2.1 && (sameI (v0.getD v2.toNat ((0, [], ()), 0, [], 0, [], 0, 0, ())).2.2.2.2.2.1 (v1.getD
 v2.toNat ((0, [], ()), 0, [], 0, [], 0, 0, ())).2.2.2.2.2.1 && (sameI (v0.getD v2.toNat ((0, [], ()), 0, [], 0, [], 0, 0, ())).2.2.2.2.2.2.1 (v1.getD v2.toNat ((0, [], ()), 0, [], 0, [], 0, 0, ())).2.2.2.2.2.2.1 && true)))))))) (some (Sum.inr (false,
 ()))) (G60_4 k j (v0, v1, IntKind.i64.wrap (v2 + 1), ()))) none) none) none) none) (some (Sum.inl ())) := by kernel_rfl
noncomputable def G60 (k : Nat) (v : List ((Int × List UInt8 × Unit) × Int × List UInt8 × Int × List UInt8 × Int × Int × Unit) × List ((Int × List UInt8 × Unit) × Int × List UInt8 × Int × List UInt8 × Int × Int × Unit) × Unit) : Option (Bool × Unit) := F60 k v
theorem G60_eq (k : Nat) (v0 v1 : List ((Int × List UInt8 × Unit) × Int × List UInt8 × Int × List UInt8 × Int × Int × Unit)) : G60 k (v0, v1, ()) = sel (!decide (Int.ofNat v0.length = Int.ofNat v1.length)) (some (false, ())) (ocall (G60_4 k k (v0, v1, 0, ())) fun e => esel
 e (fun v => some (true, ())) fun e => some (e.1, ())) := by kernel_rfl
noncomputable def G62 (k : Nat) (v : List ((Int × List UInt8 × Unit) × Int × List UInt8 × Int × List UInt8 × Int × Int × Unit) × Int × ((Int × List UInt8 × Unit) × Int × List UInt8 × Int × List UInt8 × Int × Int × Unit) × Unit) : Option (List ((Int × List UInt8 × Unit) × Int × List UInt8 × Int
 × List UInt8 × Int × Int × Unit) × Int × Unit) := F62 k v
theorem G62_eq (k : Nat) (v0 : List ((Int × List UInt8 × Unit) × Int × List UInt8 × Int × List UInt8 × Int × Int × Unit)) (v1 v2 : Int) (v3 : List UInt8) (v4 : Int) (v5 : List UInt8) (v6 : Int) (v7 : List UInt8) (v8 v9 : Int) : G62 k (v0, v1, ((v2, v3, ()), v4, v5, v6, v7, v8, v9,
 ()), ()) = ocall (G67 k (v0, ())) fun r => sel (!r.1) (some (v0, 1, ())) (ocall (G65 k (((v2, v3, ()), v4, v5, v6, v7, v8, v9, ()), ())) fun r => sel (!r.1) (some (v0, 1, ())) (ocall (G57 k (v0, (v2, v3, ()), ())) fun r
 => sel (decide (r.1 < 0)) (some (v0, 5, ())) (sel (decide (0 ≤ r.1)) (sel (decide (r.1 < Int.ofNat v0.length)) (sel (!decide ((v0.getD r.1.toNat ((0, [], ()), 0, [], 0, [], 0, 0, ())).2.1 = v1)) (some (v0, 8, ())) (ocall (G134 k (v0, ((v2, v3, ()), v4, v5, v6,
 v7, v8, v9, ()), ())) fun r => some (r.1, 0, ()))) none) none))) := by kernel_rfl
noncomputable def G64 (k : Nat) (v : List ((Int × List UInt8 × Unit) × Int × List UInt8 × Int × List UInt8 × Int × Int × Unit) × (Int × List UInt8 × Unit) × Unit) : Option (List ((Int × List UInt8 × Unit) × Int × List UInt8 × Int × List UInt8 × Int × Int × Unit) × Int × Unit) := F64 k v
theorem G64_eq (k : Nat) (v0 : List ((Int × List UInt8 × Unit) × Int × List UInt8 × Int × List UInt8 × Int × Int × Unit)) (v1 : Int) (v2 : List UInt8) : G64 k (v0, (v1, v2, ()), ()) = ocall (G67 k (v0, ())) fun r => sel (!r.1) (some (v0, 1, ())) (ocall (G57 k (v0,
 (v1, v2, ()), ())) fun r => sel (decide (r.1 < 0)) (some (v0, 5, ())) (sel (decide (Int.ofNat 0 ≤ r.1)) (sel (decide (r.1 ≤ Int.ofNat v0.length)) (sel (decide (Int.ofNat v0.length ≤ Int.ofNat v0.length)) (sel (decide ((0 + (List.drop (Int.ofNat 0).toNat (List.take r.1.toNat
 v0)).length) * 88 ≤ 140737488355328)) (sel (decide (0 ≤ IntKind.i64.wrap (r.1 + 1))) (sel (decide (IntKind.i64.wrap (r.1 + 1) ≤ Int.ofNat v0.length)) (sel (decide (Int.ofNat v0.length ≤ Int.ofNat v0.length)) (sel (decide (Int.ofNat v0.length ≤ Int.ofNat v0.length)) (sel (decide (((List.drop
 (Int.ofNat 0).toNat (List.take r.1.toNat v0)).length + (List.drop (IntKind.i64.wrap (r.1 + 1)).toNat (List.take (Int.ofNat v0.length).toNat v0)).length) * 88 ≤ 140737488355328)) (some (List.drop (Int.ofNat 0).toNat (List.take r.1.toNat v0) ++ List.drop (IntKind.i64.wrap (r.1 + 1)).toNat (List.take
 (Int.ofNat v0.length).toNat v0), 0, ())) none) none) none) none) none) none) none) none) none)) := by kernel_rfl
noncomputable def G12 (k : Nat) (v : List ((Int × List UInt8 × Unit) × Int × List UInt8 × Int × List UInt8 × Int × Int × Unit) × ((Int × List UInt8 × Unit) × Int × List UInt8 × Int × List UInt8 × Int × Int × Unit) × (Int × List UInt8 × Unit) × Int × Unit) : Option (Bool × Unit) := F12 k v
theorem G12_eq (k : Nat) (v0 : List ((Int × List UInt8 × Unit) × Int × List UInt8 × Int × List UInt8 × Int × Int × Unit)) (v1 : Int) (v2 : List UInt8) (v3 : Int) (v4 : List UInt8) (v5 : Int) (v6 : List UInt8) (v7 v8 v9 : Int) (v10 : List UInt8) (v11 : Int) : G12 k (v0, ((v1, v2, ()), v3,
 v4, v5, v6, v7, v8, ()), (v9, v10, ()), v11, ()) = ocall (G54 k ()) fun r => sel (!r.1) (some (false, ())) (ocall (G55 k (v0, ())) fun r => sel (!r.1) (some (true, ())) (ocall (G46 k (((v1, v2, ()), v3, v4, v5, v6, v7, v8, ()),
 ())) fun r => sel (!r.1) (some (true, ())) (ocall (G25 k ((v9, v10, ()), ())) fun r => sel (!r.1) (some (true, ())) (ocall (G56 k (v0, (v9, v10, ()), ())) fun r => ocall (G57 k (v0, (v9, v10, ()), ())) fun r_1 => sel (!r.2.1 ==
 decide (0 ≤ r_1.1)) (some (false, ())) (sel r.2.1 (sel (decide (0 ≤ r_1.1)) (sel (decide (r_1.1 < Int.ofNat v0.length)) (sel (!(sameI r.1.1.1 (v0.getD r_1.1.toNat ((0, [], ()), 0, [], 0, [], 0, 0, ())).1.1 && (sameS r.1.1.2.1 (v0.getD r_1.1.toNat ((0, [], ()), 0, [],
 0, [], 0, 0, ())).1.2.1 && true) && (sameI r.1.2.1 (v0.getD r_1.1.toNat ((0, [], ()), 0, [], 0, [], 0, 0, ())).2.1 && (sameS r.1.2.2.1 (v0.getD r_1.1.toNat ((0, [], ()), 0, [], 0, [], 0, 0, ())).2.2.1 && (sameI r.1.2.2.2.1 (v0.getD r_1.1.toNat ((0, [],
 ()), 0, [], 0, [], 0, 0, ())).2.2.2.1 && (sameS r.1.2.2.2.2.1 (v0.getD r_1.1.toNat ((0, [], ()), 0, [], 0, [], 0, 0, ())).2.2.2.2.1 && (sameI r.1.2.2.2.2.2.1 (v0.getD r_1.1.toNat ((0, [], ()), 0, [], 0, [], 0, 0, ())).2.2.2.2.2.1 && (sameI
 r.1.2.2.2.2.2.2.1 (v0.getD r_1.1.toNat ((0, [], ()), 0, [], 0, [], 0, 0, ())).2.2.2.2.2.2.1 && true)))))))) (some (false, ())) (sel (!r.2.1) (sel (!(sameI r.1.1.1 0 && (sameS r.1.1.2.1 [] && true) && (sameI r.1.2.1 0 && (sameS r.1.2.2.1 [] && (sameI r.1.2.2.2.1 0 && (sameS
 r.1.2.2.2.2.1 [] && (sameI r.1.2.2.2.2.2.1 0 && (sameI r.1.2.2.2.2.2.2.1 0 && true)))))))) (some (false, ())) (ocall (G58 k (v0, ((v1, v2, ()), v3, v4, v5, v6, v7, v8, ()), ())) fun r => ocall (G59 k (v0, ((v1, v2, ()), v3, v4, v5, v6, v7, v8, ()),
 ())) fun r_2 => ocall (G60 k (r.1, r_2.1, ())) fun r_3 => sel (!r_3.1) (some (false, ())) (sel (!decide (r.2.1 = r_2.2.1)) (some (false, ())) (ocall (G61 k (v0, v11, ((v1, v2, ()), v3, v4, v5, v6, v7, v8, ()), ())) fun r => ocall (G62 k (v0,
 v11, ((v1, v2, ()), v3, v4, v5, v6, v7, v8, ()), ())) fun r_4 => ocall (G60 k (r.1, r_4.1, ())) fun r_5 => sel (!r_5.1) (some (false, ())) (sel (!decide (r.2.1 = r_4.2.1)) (some (false, ())) (ocall (G63 k (v0, (v9, v10, ()), ())) fun r
 => ocall (G64 k (v0, (v9, v10, ()), ())) fun r_6 => ocall (G60 k (r.1, r_6.1, ())) fun r_7 => sel r_7.1 (sel (decide (r.2.1 = r_6.2.1)) (ocall (G53 k (((v1, v2, ()), v3, v4, v5, v6, v7, v8, ()), ())) fun r => ocall (G65 k (((v1, v2, ()), v3,
 v4, v5, v6, v7, v8, ()), ())) fun r_8 => sel (r.1 == r_8.1) (ocall (G66 k (v0, ())) fun r => ocall (G67 k (v0, ())) fun r_9 => some (r.1 == r_9.1, ())) (some (false, ()))) (some (false, ()))) (some (false, ())))))))) (ocall (G58 k (v0,
 ((v1, v2, ()), v3, v4, v5, v6, v7, v8, ()), ())) fun r => ocall (G59 k (v0, ((v1, v2, ()), v3, v4, v5, v6, v7, v8, ()), ())) fun r_2 => ocall (G60 k (r.1, r_2.1, ())) fun r_3 => sel (!r_3.1) (some (false, ())) (sel (!decide (r.2.1 =
 r_2.2.1)) (some (false, ())) (ocall (G61 k (v0, v11, ((v1, v2, ()), v3, v4, v5, v6, v7, v8, ()), ())) fun r => ocall (G62 k (v0, v11, ((v1, v2, ()), v3, v4, v5, v6, v7, v8, ()), ())) fun r_4 => ocall (G60 k (r.1, r_4.1, ())) fun r_5 =>
 sel (!r_5.1) (some (false, ())) (sel (!decide (r.2.1 = r_4.2.1)) (some (false, ())) (ocall (G63 k (v0, (v9, v10, ()), ())) fun r => ocall (G64 k (v0, (v9, v10, ()), ())) fun r_6 => ocall (G60 k (r.1, r_6.1, ())) fun r_7 => sel r_7.1 (sel
 (decide (r.2.1 = r_6.2.1)) (ocall (G53 k (((v1, v2, ()), v3, v4, v5, v6, v7, v8, ()), ())) fun r => ocall (G65 k (((v1, v2, ()), v3, v4, v5, v6, v7, v8, ()), ())) fun r_8 => sel (r.1 == r_8.1) (ocall (G66 k (v0, ())) fun r => ocall (G67 k (v0,
 ())) fun r_9 => some (r.1 == r_9.1, ())) (some (false, ()))) (some (false, ()))) (some (false, ()))))))))) none) none) (sel (!r.2.1) (sel (!(sameI r.1.1.1 0 && (sameS r.1.1.2.1 [] && true) && (sameI r.1.2.1 0 && (sameS r.1.2.2.1 [] && (sameI r.1.2.2.2.1 0 &&
 (sameS r.1.2.2.2.2.1 [] && (sameI r.1.2.2.2.2.2.1 0 && (sameI r.1.2.2.2.2.2.2.1 0 && true)))))))) (some (false, ())) (ocall (G58 k (v0, ((v1, v2, ()), v3, v4, v5, v6, v7, v8, ()), ())) fun r => ocall (G59 k (v0, ((v1, v2, ()), v3, v4, v5, v6, v7, v8,
 ()), ())) fun r_2 => ocall (G60 k (r.1, r_2.1, ())) fun r_3 => sel (!r_3.1) (some (false, ())) (sel (!decide (r.2.1 = r_2.2.1)) (some (false, ())) (ocall (G61 k (v0, v11, ((v1, v2, ()), v3, v4, v5, v6, v7, v8, ()), ())) fun r => ocall
 (G62 k (v0, v11, ((v1, v2, ()), v3, v4, v5, v6, v7, v8, ()), ())) fun r_4 => ocall (G60 k (r.1, r_4.1, ())) fun r_5 => sel (!r_5.1) (some (false, ())) (sel (!decide (r.2.1 = r_4.2.1)) (some (false, ())) (ocall (G63 k (v0, (v9, v10, ()),
 ())) fun r => ocall (G64 k (v0, (v9, v10, ()), ())) fun r_6 => ocall (G60 k (r.1, r_6.1, ())) fun r_7 => sel r_7.1 (sel (decide (r.2.1 = r_6.2.1)) (ocall (G53 k (((v1, v2, ()), v3, v4, v5, v6, v7, v8, ()), ())) fun r => ocall (G65 k (((v1, v2,
 ()), v3, v4, v5, v6, v7, v8, ()), ())) fun r_8 => sel (r.1 == r_8.1) (ocall (G66 k (v0, ())) fun r => ocall (G67 k (v0, ())) fun r_9 => some (r.1 == r_9.1, ())) (some (false, ()))) (some (false, ()))) (some (false, ()))))))))
 (ocall (G58 k (v0, ((v1, v2, ()), v3, v4, v5, v6, v7, v8, ()), ())) fun r => ocall (G59 k (v0, ((v1, v2, ()), v3, v4, v5, v6, v7, v8, ()), ())) fun r_2 => ocall (G60 k (r.1, r_2.1, ())) fun r_3 => sel (!r_3.1) (some (false, ())) (sel
 (!decide (r.2.1 = r_2.2.1)) (some (false, ())) (ocall (G61 k (v0, v11, ((v1, v2, ()), v3, v4, v5, v6, v7, v8, ()), ())) fun r => ocall (G62 k (v0, v11, ((v1, v2, ()), v3, v4, v5, v6, v7, v8, ()), ())) fun r_4 => ocall (G60 k (r.1, r_4.1,
 ())) fun r_5 => sel (!r_5.1) (some (false, ())) (sel (!decide (r.2.1 = r_4.2.1)) (some (false, ())) (ocall (G63 k (v0, (v9, v10, ()), ())) fun r => ocall (G64 k (v0, (v9, v10, ()), ())) fun r_6 => ocall (G60 k (r.1, r_6.1, ())) fun r_7
 => sel r_7.1 (sel (decide (r.2.1 = r_6.2.1)) (ocall (G53 k (((v1, v2, ()), v3, v4, v5, v6, v7, v8, ()), ())) fun r => ocall (G65 k (((v1, v2, ()), v3, v4, v5, v6, v7, v8, ()), ())) fun r_8 => sel (r.1 == r_8.1) (ocall (G66 k (v0, ())) fun r =>
 ocall (G67 k (v0, ())) fun r_9 => some (r.1 == r_9.1, ())) (some (false, ()))) (some (false, ()))) (some (false, ()))))))))))))) := by kernel_rfl
noncomputable def G13 (k : Nat) (v : List ((Int × List UInt8 × Unit) × Int × List UInt8 × Int × List UInt8 × Int × Int × Unit) × ((Int × List UInt8 × Unit) × Int × List UInt8 × Int × List UInt8 × Int × Int × Unit) × ((Int × List UInt8 × Unit) × Int × List UInt8 × Int × List UInt8 × Int × Int ×
 Unit) × (Int × List UInt8 × Unit) × Unit) : Option (Bool × Unit) := F13 k v
theorem G13_eq (k : Nat) (v0 : List ((Int × List UInt8 × Unit) × Int × List UInt8 × Int × List UInt8 × Int × Int × Unit)) (v1 : Int) (v2 : List UInt8) (v3 : Int) (v4 : List UInt8) (v5 : Int) (v6 : List UInt8) (v7 v8 v9 : Int) (v10 : List UInt8) (v11 : Int) (v12 : List UInt8) (v13 : Int) (v14 :
 List UInt8) (v15 v16 v17 : Int) (v18 : List UInt8) : G13 k (v0, ((v1, v2, ()), v3, v4, v5, v6, v7, v8, ()), ((v9, v10, ()), v11, v12, v13, v14, v15, v16, ()), (v17, v18, ()), ()) = ocall (G54 k ()) fun r => sel (!r.1) (some (false, ()))
 (ocall (G55 k (v0, ())) fun r => sel (!r.1) (some (true, ())) (ocall (G46 k (((v1, v2, ()), v3, v4, v5, v6, v7, v8, ()), ())) fun r => sel (!r.1) (some (true, ())) (ocall (G46 k (((v9, v10, ()), v11, v12, v13, v14, v15, v16, ()),
 ())) fun r => sel (!r.1) (some (true, ())) (ocall (G25 k ((v17, v18, ()), ())) fun r => sel (!r.1) (some (true, ())) (ocall (G58 k (v0, ((v1, v2, ()), v3, v4, v5, v6, v7, v8, ()), ())) fun r => sel (!decide (r.2.1 = 0)) (ocall (G60 k
 (r.1, v0, ())) fun r => some (r.1, ())) (ocall (G56 k (r.1, (v1, v2, ()), ())) fun r_1 => ocall (G56 k (v0, (v17, v18, ()), ())) fun r_2 => ocall (G56 k (r.1, (v17, v18, ()), ())) fun r_3 => ocall (G58 k (r.1, ((v1, v2, ()), v3,
 v4, v5, v6, v7, v8, ()), ())) fun r_4 => ocall (G66 k (r.1, ())) fun r_5 => sel (!r_5.1) (some (false, ())) (sel (!r_1.2.1) (some (false, ())) (sel (!(sameI r_1.1.1.1 v1 && (sameS r_1.1.1.2.1 v2 && true) && (sameI r_1.1.2.1 v3 && (sameS r_1.1.2.2.1 v4 &&
 (sameI r_1.1.2.2.2.1 v5 && (sameS r_1.1.2.2.2.2.1 v6 && (sameI r_1.1.2.2.2.2.2.1 v7 && (sameI r_1.1.2.2.2.2.2.2.1 v8 && true)))))))) (some (false, ())) (sel (!decide (r_4.2.1 = 6)) (some (false, ())) (sel (!(sameI v17 v1 && (sameS v18 v2 && true))) (sel (!(sameI r_2.1.1.1 r_3.1.1.1
 && (sameS r_2.1.1.2.1 r_3.1.1.2.1 && true) && (sameI r_2.1.2.1 r_3.1.2.1 && (sameS r_2.1.2.2.1 r_3.1.2.2.1 && (sameI r_2.1.2.2.2.1 r_3.1.2.2.2.1 && (sameS r_2.1.2.2.2.2.1 r_3.1.2.2.2.2.1 && (sameI r_2.1.2.2.2.2.2.1 r_3.1.2.2.2.2.2.1 && (sameI r_2.1.2.2.2.2.2.2.1 r_3.1.2.2.2.2.2.2.1 && true))))))))
 (some (false, ())) (sel (!r_2.2.1 == r_3.2.1) (some (false, ())) (ocall (G63 k (r.1, (v1, v2, ()), ())) fun r_6 => ocall (G56 k (r_6.1, (v1, v2, ()), ())) fun r_7 => sel (!decide (r_6.2.1 = 0)) (some (false, ())) (sel r_7.2.1 (some (false,
 ())) (ocall (G60 k (r_6.1, v0, ())) fun r_8 => sel (!r_8.1) (some (false, ())) (ocall (G61 k (r.1, v3, ((v1, v2, ()), v11, v12, v13, v14, v15, v16, ()), ())) fun r_9 => sel (!decide (r_9.2.1 = 0)) (sel (decide (r_9.2.1 = 1)) (ocall (G53 k (((v1, v2,
 ()), v11, v12, v13, v14, v15, v16, ()), ())) fun r => some (!r.1, ())) (some (false, ()))) (ocall (G56 k (r_9.1, (v1, v2, ()), ())) fun r_10 => ocall (G61 k (r_9.1, v3, ((v1, v2, ()), v3, v4, v5, v6, v7, v8, ()), ()))
 fun r_11 => sel r_10.2.1 (sel (sameI r_10.1.1.1 v1 && (sameS r_10.1.1.2.1 v2 && true) && (sameI r_10.1.2.1 v11 && (sameS r_10.1.2.2.1 v12 && (sameI r_10.1.2.2.2.1 v13 && (sameS r_10.1.2.2.2.2.1 v14 && (sameI r_10.1.2.2.2.2.2.1 v15 && (sameI r_10.1.2.2.2.2.2.2.1 v16 && true))))))) (ocall (G66 k
 (r_9.1, ())) fun r_12 => sel r_12.1 (sel (decide (Int.ofNat r_9.1.length = Int.ofNat r.1.length)) (some (decide (r_11.2.1 = 0) == decide (v11 = v3), ())) (some (false, ()))) (some (false, ()))) (some (false, ()))) (some (false, ()))))))))) (ocall (G63
 k (r.1, (v1, v2, ()), ())) fun r_6 => ocall (G56 k (r_6.1, (v1, v2, ()), ())) fun r_7 => sel (!decide (r_6.2.1 = 0)) (some (false, ())) (sel r_7.2.1 (some (false, ())) (ocall (G60 k (r_6.1, v0, ())) fun r_8 => sel (!r_8.1) (some (false,
 ())) (ocall (G61 k (r.1, v3, ((v1, v2, ()), v11, v12, v13, v14, v15, v16, ()), ())) fun r_9 => sel (!decide (r_9.2.1 = 0)) (sel (decide (r_9.2.1 = 1)) (ocall (G53 k (((v1, v2, ()), v11, v12, v13, v14, v15, v16, ()), ())) fun r => some (!r.1,
 ())) (some (false, ()))) (ocall (G56 k (r_9.1, (v1, v2, ()), ())) fun r_10 => ocall (G61 k (r_9.1, v3, ((v1, v2, ()), v3, v4, v5, v6, v7, v8, ()), ())) fun r_11 => sel r_10.2.1 (sel (sameI r_10.1.1.1 v1 && (sameS r_10.1.1.2.1 v2 && true) &&
 (sameI r_10.1.2.1 v11 && (sameS r_10.1.2.2.1 v12 && (sameI r_10.1.2.2.2.1 v13 && (sameS r_10.1.2.2.2.2.1 v14 && (sameI r_10.1.2.2.2.2.2.1 v15 && (sameI r_10.1.2.2.2.2.2.2.1 v16 && true))))))) (ocall (G66 k (r_9.1, ())) fun r_12 => sel r_12.1 (sel (decide (Int.ofNat r_9.1.length = Int.ofNat
 r.1.length)) (some (decide (r_11.2.1 = 0) == decide (v11 = v3), ())) (some (false, ()))) (some (false, ()))) (some (false, ()))) (some (false, ()))))))))))))))))) := by kernel_rfl
end Go.Proofs.YtjgnpmdbkgeakaaDoor.G
end
section
set_option linter.unusedVariables false
set_option linter.unusedSimpArgs false
set_option maxRecDepth 100000
namespace Go.Proofs.YtjgnpmdbkgeakaaDoor.G
open Go Go.Proofs.YtjgnpmdbkgeakaaDoor Th
def ordered : List Entry → Bool
  | [] => true
  | [_] => true
  | a :: b :: t => decide (ordK a.1 b.1 = -1) && ordered (b :: t)
theorem ordered_tail {a : Entry} {l : List Entry} (h : ordered (a :: l) = true) : ordered l = true := by
  cases l with
  | nil => rfl
  | cons b t => simp only [ordered, Bool.and_eq_true] at h; exact h.2
theorem ordered_lt {a : Entry} : ∀ {l : List Entry}, ordered (a :: l) = true → ∀ x ∈ l, ordK a.1 x.1 = -1 := by
  intro l
  induction l generalizing a with
  | nil => intro _ x hx; cases hx
  | cons b t ih =>
    intro h x hx
    simp only [ordered, Bool.and_eq_true, decide_eq_true_eq] at h
    rcases List.mem_cons.1 hx with rfl | hx
    · exact h.1
    · exact ordK_trans h.1 (ih h.2 x hx)
theorem ordered_cons {a : Entry} {l : List Entry} (h : ordered l = true) (h2 : ∀ x ∈ l, ordK a.1 x.1 = -1) : ordered (a :: l) = true := by
  cases l with
  | nil => rfl
  | cons b t => simp only [ordered, Bool.and_eq_true, decide_eq_true_eq]; exact ⟨h2 b (List.mem_cons_self ..), h⟩
theorem ordered_get : ∀ {l : List Entry}, ordered l = true → ∀ (x y : Nat) (hxy : x < y) (hy : y < l.length), ordK (l[x]'(Nat.lt_trans hxy hy)).1 l[y].1 = -1 := by
  intro l
  induction l with
  | nil => intro _ x y _ hy; exact absurd hy (Nat.not_lt_zero _)
  | cons a t ih =>
    intro h x y hxy hy
    obtain ⟨y, rfl⟩ : ∃ m, y = m + 1 := ⟨y - 1, by omega⟩
    have hy' : y < t.length := by simpa using hy
    cases x with
    | zero => exact ordered_lt h t[y] (List.getElem_mem hy')
    | succ x => exact ih (ordered_tail h) x y (by omega) hy'
def shardOK (l : List Entry) : Bool := l.all entryOK && ordered l && decide (l.length ≤ 128)
def goodL (l : List Entry) : Prop := ∀ e ∈ l, goodE e
def lensL (l : List Entry) : Prop := ∀ e ∈ l, lensE 300 e
theorem shard_loop (k : Nat) (hk : 1000 < k) (l : List Entry) (hl : lensL l) (hg : goodL l) (hn : l.length ≤ 1000) : ∀ (j i : Nat), i + 1 + j = l.length → ∀ n, j < n →
    G66_g0 k n (l, ((i + 1 : Nat) : Int), ()) = some ((l.drop (i + 1)).all entryOK && ordered (l.drop i) && decide (l.length ≤ 128), ()) := by
  intro j
  induction j with
  | zero =>
    intro i hij n hn'
    obtain ⟨n, rfl⟩ : ∃ m, n = m + 1 := ⟨n - 1, by omega⟩
    have hd : l.drop (i + 1) = [] := List.drop_eq_nil_of_le (by omega)
    rw [G66_g0_eq, sel_pos (by simp only [ofNat_len]; omega), List.drop_eq_getElem_cons (show i < l.length by omega), hd]
    simp only [List.all_nil, ordered, Bool.true_and]
    rw [show decide (((i + 1 : Nat) : Int) ≤ 128) = decide (l.length ≤ 128) from decide_eq_decide.2 (by omega)]
  | succ j ih =>
    intro i hij n hn'
    obtain ⟨n, rfl⟩ : ∃ m, n = m + 1 := ⟨n - 1, by omega⟩
    have hlt : i + 1 < l.length := by omega
    have hlt0 : i < l.length := by omega
    have hm := List.getElem_mem hlt
    have hR : G53 k ((((l[i + 1]).1.1, (l[i + 1]).1.2.1, ()), (l[i + 1]).2.1, (l[i + 1]).2.2.1, (l[i + 1]).2.2.2.1, (l[i + 1]).2.2.2.2.1, (l[i + 1]).2.2.2.2.2.1, (l[i + 1]).2.2.2.2.2.2.1, ()), ()) = _ := G53_is k 300 (by omega) (by omega) (by omega) l[i + 1] (hl _ hm) (hg _ hm)
    have hO : G29 k (((l[i]).1.1, (l[i]).1.2.1, ()), ((l[i + 1]).1.1, (l[i + 1]).1.2.1, ()), ()) = _ := G29_is k (by omega) l[i].1 l[i + 1].1
    have hw : IntKind.i64.wrap (((i + 1 : Nat) : Int) + 1) = ((i + 1 + 1 : Nat) : Int) := by rw [wrap64 (by omega) (by omega)]; omega
    have hw2 : IntKind.i64.wrap (((i + 1 : Nat) : Int) - 1) = (i : Int) := by rw [wrap64 (by omega) (by omega)]; omega
    rw [G66_g0_eq]
    simp only [ofNat_len, hw, hw2, Int.toNat_natCast, getD_of hlt, getD_of hlt0]
    rw [sel_neg (by omega), sel_pos (by omega), sel_pos (by omega), hR, ocall_some]
    have hd0 : l.drop i = l[i] :: l[i + 1] :: l.drop (i + 1 + 1) := by rw [List.drop_eq_getElem_cons hlt0, List.drop_eq_getElem_cons hlt]
    have hi := ih (i + 1) (by omega) n (by omega)
    rw [List.drop_eq_getElem_cons hlt] at hi ⊢
    rw [hd0]
    simp only [List.all_cons, ordered]
    by_cases he : entryOK l[i + 1] = true
    · rw [he]
      simp only [Bool.not_true, sel_false, Bool.true_and]
      rw [sel_pos (by omega), sel_pos (by omega), sel_pos (by omega), sel_pos (by omega), sel_pos (by omega), hO, ocall_some]
      by_cases ho : ordK l[i].1 l[i + 1].1 = -1
      · simp only [ho]
        rw [sel_neg (by decide), hi]
        simp
      · have := ordK_cases l[i].1 l[i + 1].1
        rw [sel_pos (show (0 : Int) ≤ ordK l[i].1 l[i + 1].1 by omega), decide_eq_false ho]
        simp
    · rw [Bool.eq_false_iff.2 he]; rfl
theorem G66_is (k : Nat) (hk : 1000 < k) (l : List Entry) (hl : lensL l) (hg : goodL l) (hn : l.length ≤ 1000) : G66 k (l, ()) = some (shardOK l, ()) := by
  have hlp := shard_loop k hk l hl hg hn
  rw [G66_eq]
  unfold shardOK
  simp only [ofNat_len]
  by_cases h0 : l.length = 0
  · obtain rfl : l = [] := List.eq_nil_of_length_eq_zero h0
    rw [sel_pos (by simp)]; rfl
  have hlt : 0 < l.length := by omega
  have hm := List.getElem_mem hlt
  have e0 : l.getD (Int.toNat 0) ((0, [], ()), 0, [], 0, [], 0, 0, ()) = l[0] := getD_of hlt _
  have hR : G53 k ((((l[0]).1.1, (l[0]).1.2.1, ()), (l[0]).2.1, (l[0]).2.2.1, (l[0]).2.2.2.1, (l[0]).2.2.2.2.1, (l[0]).2.2.2.2.2.1, (l[0]).2.2.2.2.2.2.1, ()), ()) = _ := G53_is k 300 (by omega) (by omega) (by omega) l[0] (hl _ hm) (hg _ hm)
  simp only [e0]
  have hw : IntKind.i64.wrap (0 + 1) = ((0 + 1 : Nat) : Int) := rfl
  rw [sel_neg (by omega), sel_pos (by omega), hR, ocall_some, hw, hlp (l.length - 1) 0 (by omega) k (by omega), ocall_some]
  have hd : l = l[0] :: l.drop 1 := by
    have := List.drop_eq_getElem_cons hlt
    rwa [List.drop_zero] at this
  have ha : l.all entryOK = (entryOK l[0] && (l.drop 1).all entryOK) := by
    conv => lhs; rw [hd]
    rfl
  rw [ha, List.drop_zero]
  by_cases he : entryOK l[0] = true
  · rw [he]; simp
  · rw [Bool.eq_false_iff.2 he]; rfl
end Go.Proofs.YtjgnpmdbkgeakaaDoor.G
end
section
set_option linter.unusedVariables false
set_option linter.unusedSimpArgs false
set_option maxRecDepth 100000
namespace Go.Proofs.YtjgnpmdbkgeakaaDoor.G
open Go Go.Proofs.YtjgnpmdbkgeakaaDoor Th
def ltK (key : Key) (e : Entry) : Bool := decide (ordK e.1 key = -1)
def posE (l : List Entry) (key : Key) : Nat := (l.takeWhile (ltK key)).length
def hasAt (l : List Entry) (key : Key) : Bool := match l[posE l key]? with
  | some e => decide (e.1 = key)
  | none => false
theorem posE_le (l : List Entry) (key : Key) : posE l key ≤ l.length := (List.takeWhile_sublist _).length_le
theorem posE_pos {x : Entry} {t : List Entry} {key : Key} (h : ordK x.1 key = -1) : posE (x :: t) key = posE t key + 1 := by
  unfold posE
  rw [List.takeWhile_cons, if_pos (show ltK key x = true from decide_eq_true h)]; rfl
theorem posE_zero {x : Entry} {t : List Entry} {key : Key} (h : ordK x.1 key ≠ -1) : posE (x :: t) key = 0 := by
  unfold posE
  rw [List.takeWhile_cons, if_neg (show ¬ ltK key x = true from fun e => h (of_decide_eq_true e))]; rfl
theorem posE_of (key : Key) : ∀ (l : List Entry) (i : Nat), i ≤ l.length → (∀ x (hx : x < l.length), x < i → ordK l[x].1 key = -1) → (∀ x (hx : x < l.length), i ≤ x → ordK l[x].1 key ≠ -1) → posE l key = i := by
  intro l
  induction l with
  | nil => intro i hi _ _; have : i = 0 := by simpa using hi
           rw [this]; rfl
  | cons a t ih =>
    intro i hi h1 h2
    cases i with
    | zero => exact posE_zero (h2 0 (by simp) (Nat.le_refl _))
    | succ i =>
      rw [posE_pos (x := a) (t := t) (h1 0 (by simp) (by omega)), ih i (by simpa using hi) (fun x hx hxi => h1 (x + 1) (by simpa using hx) (by omega)) (fun x hx hxi => h2 (x + 1) (by simpa using hx) (by omega))]
theorem mid_is (i j : Nat) (h : i + j ≤ 100000) : IntKind.i64.wrap ((IntKind.u64.wrap (IntKind.i64.wrap ((i : Int) + (j : Int)))).fdiv (2 ^ min (Int.toNat 1) 64)) = (((i + j) / 2 : Nat) : Int) := by
  have e2 : (2 : Int) ^ min (Int.toNat 1) 64 = 2 := by rfl
  rw [e2, wrap64 (n := (i : Int) + (j : Int)) (by omega) (by omega), wrapu64 (by omega) (by omega), Int.fdiv_eq_ediv_of_nonneg _ (by omega), wrap64 (by omega) (by omega)]
  omega
theorem bs_loop (k : Nat) (hk : 2 < k) (l : List Entry) (hn : l.length ≤ 1000) (ho : ordered l = true) (key : Key) (v1 : Int) : ∀ (d i j : Nat), i ≤ j → j ≤ l.length → j - i ≤ d → (∀ x (hx : x < l.length), x < i → ordK l[x].1 key = -1) → (∀ x (hx : x < l.length), j ≤ x → ordK l[x].1 key ≠ -1) → ∀ n, d < n →
    G7000001_3 k n (l, (), v1, (i : Int), (j : Int), key.1, key.2.1, ()) = some (l, (), v1, ((posE l key : Nat) : Int), key.1, key.2.1, ()) := by
  intro d
  induction d with
  | zero =>
    intro i j hij hj hd h1 h2 n hn'
    obtain ⟨n, rfl⟩ : ∃ m, n = m + 1 := ⟨n - 1, by omega⟩
    obtain rfl : i = j := by omega
    rw [G7000001_3_eq, sel_neg (by omega), posE_of key l i hj h1 h2]
  | succ d ih =>
    intro i j hij hj hd h1 h2 n hn'
    obtain ⟨n, rfl⟩ : ∃ m, n = m + 1 := ⟨n - 1, by omega⟩
    rw [G7000001_3_eq]
    by_cases hlt : i < j
    case neg =>
      obtain rfl : i = j := by omega
      rw [sel_neg (by omega), posE_of key l i hj h1 h2]
    have hm : (i + j) / 2 < l.length := by omega
    have hm1 : i ≤ (i + j) / 2 := by omega
    have hm2 : (i + j) / 2 < j := by omega
    simp only [mid_is i j (by omega)]
    generalize (i + j) / 2 = h at hm hm1 hm2
    have hC : G185 k ((((l[h]).1.1, (l[h]).1.2.1, ()), (l[h]).2.1, (l[h]).2.2.1, (l[h]).2.2.2.1, (l[h]).2.2.2.2.1, (l[h]).2.2.2.2.2.1, (l[h]).2.2.2.2.2.2.1, ()), (key.1, key.2.1, ()), ()) = some (ordK l[h].1 key, ()) := by
      rw [G185_eq]
      rw [show G29 k (((l[h]).1.1, (l[h]).1.2.1, ()), (key.1, key.2.1, ()), ()) = _ from G29_is k hk l[h].1 key, ocall_some]
    simp only [ofNat_len, Int.toNat_natCast, getD_of hm]
    rw [sel_pos (by omega), sel_pos (by omega), sel_pos (by omega), hC, ocall_some]
    have hw : IntKind.i64.wrap ((h : Int) + 1) = ((h + 1 : Nat) : Int) := by rw [wrap64 (by omega) (by omega)]; omega
    have hcs := ordK_cases l[h].1 key
    by_cases c : ordK l[h].1 key = -1
    · rw [sel_pos (show ordK l[h].1 key < 0 by omega), hw]
      refine ih (h + 1) j (by omega) hj (by omega) (fun x hx hxi => ?_) h2 n (by omega)
      rcases Nat.lt_or_eq_of_le (Nat.le_of_lt_succ hxi) with c2 | c2
      · exact ordK_trans (ordered_get ho x h c2 hm) c
      · simp only [c2]; exact c
    · rw [sel_neg (show ¬ ordK l[h].1 key < 0 by omega)]
      refine ih i h hm1 (by omega) (by omega) h1 (fun x hx hxi => ?_) n (by omega)
      rcases Nat.lt_or_eq_of_le hxi with c2 | c2
      · exact fun e => c (ordK_trans (ordered_get ho h x c2 hx) e)
      · simp only [← c2]; exact c
theorem G131_is (k : Nat) (hk : 1001 < k) (l : List Entry) (hn : l.length ≤ 1000) (ho : ordered l = true) (key : Key) : G131 k (l, key, ()) = some (((posE l key : Nat) : Int), hasAt l key, ()) := by
  have hb := bs_loop k (by omega) l hn ho key (l.length : Int) l.length 0 l.length (Nat.zero_le _) (Nat.le_refl _) (by omega) (fun x hx h => absurd h (Nat.not_lt_zero _)) (fun x hx h => by omega) k (by omega)
  rw [Int.natCast_zero] at hb
  have hp := posE_le l key
  have hC := fun (h : posE l key < l.length) => show G185 k ((((l[posE l key]).1.1, (l[posE l key]).1.2.1, ()), (l[posE l key]).2.1, (l[posE l key]).2.2.1, (l[posE l key]).2.2.2.1, (l[posE l key]).2.2.2.2.1, (l[posE l key]).2.2.2.2.2.1, (l[posE l key]).2.2.2.2.2.2.1, ()), (key.1, key.2.1, ()), ()) = some (ordK l[posE l key].1 key, ()) from by
    rw [G185_eq]
    rw [show G29 k (((l[posE l key]).1.1, (l[posE l key]).1.2.1, ()), (key.1, key.2.1, ()), ()) = _ from G29_is k (by omega) l[posE l key].1 key, ocall_some]
  unfold hasAt
  obtain ⟨k1, k2, ⟨⟩⟩ := key
  (try simp only [] at hb hC)
  rw [G131_eq, G7000001_eq]
  simp only [ofNat_len]
  rw [hb, ocall_some]
  simp only [ofNat_len, Int.toNat_natCast]
  generalize posE l (k1, k2, ()) = p at hp hC
  by_cases h : p < l.length
  · have hC := hC h
    simp only [getD_of h]
    rw [sel_pos (by omega), sel_pos (by omega), sel_pos (by omega), hC, ocall_some, ocall_some, List.getElem?_eq_getElem h]
    (try simp only [])
    rw [show decide (ordK l[p].1 (k1, k2, ()) = 0) = decide (l[p].1 = (k1, k2, ())) from decide_eq_decide.2 ordK_zero]
  · rw [sel_neg (by omega), ocall_some, List.getElem?_eq_none (by omega)]
end Go.Proofs.YtjgnpmdbkgeakaaDoor.G
end
section
set_option linter.unusedVariables false
set_option linter.unusedSimpArgs false
set_option maxRecDepth 100000
namespace Go.Proofs.YtjgnpmdbkgeakaaDoor.G
open Go Go.Proofs.YtjgnpmdbkgeakaaDoor Th
theorem rshard_loop (k : Nat) (hk : 1000 < k) (l : List Entry) (hl : lensL l) (hn : l.length ≤ 1000) : ∀ (j i : Nat), i + 1 + j = l.length → ∀ n, j < n →
    G67_2 k n (l, ((i + 1 : Nat) : Int), ()) = some (sel ((l.drop (i + 1)).all entryOK && ordered (l.drop i)) (.inl (l, ())) (.inr (false, ()))) := by
  intro j
  induction j with
  | zero =>
    intro i hij n hn'
    obtain ⟨n, rfl⟩ : ∃ m, n = m + 1 := ⟨n - 1, by omega⟩
    have hd : l.drop (i + 1) = [] := List.drop_eq_nil_of_le (by omega)
    rw [G67_2_eq, sel_neg (by simp only [ofNat_len]; omega), List.drop_eq_getElem_cons (show i < l.length by omega), hd]
    rfl
  | succ j ih =>
    intro i hij n hn'
    obtain ⟨n, rfl⟩ : ∃ m, n = m + 1 := ⟨n - 1, by omega⟩
    have hlt : i + 1 < l.length := by omega
    have hlt0 : i < l.length := by omega
    have hm := List.getElem_mem hlt
    have hR : G65 k ((((l[i + 1]).1.1, (l[i + 1]).1.2.1, ()), (l[i + 1]).2.1, (l[i + 1]).2.2.1, (l[i + 1]).2.2.2.1, (l[i + 1]).2.2.2.2.1, (l[i + 1]).2.2.2.2.2.1, (l[i + 1]).2.2.2.2.2.2.1, ()), ()) = _ := G65_is k (by omega) l[i + 1] 300 (by omega) (by omega) (hl _ hm)
    have hO : G30 k (((l[i]).1.1, (l[i]).1.2.1, ()), ((l[i + 1]).1.1, (l[i + 1]).1.2.1, ()), ()) = _ := G30_is k l[i].1 l[i + 1].1
    have hw : IntKind.i64.wrap (((i + 1 : Nat) : Int) + 1) = ((i + 1 + 1 : Nat) : Int) := by rw [wrap64 (by omega) (by omega)]; omega
    have hw2 : IntKind.i64.wrap (((i + 1 : Nat) : Int) - 1) = (i : Int) := by rw [wrap64 (by omega) (by omega)]; omega
    rw [G67_2_eq]
    simp only [ofNat_len, hw, hw2, Int.toNat_natCast, getD_of hlt, getD_of hlt0]
    rw [sel_pos (by omega), sel_pos (by omega), sel_pos (by omega), hR, ocall_some]
    have hd0 : l.drop i = l[i] :: l[i + 1] :: l.drop (i + 1 + 1) := by rw [List.drop_eq_getElem_cons hlt0, List.drop_eq_getElem_cons hlt]
    have hi := ih (i + 1) (by omega) n (by omega)
    rw [List.drop_eq_getElem_cons hlt] at hi ⊢
    rw [hd0]
    simp only [List.all_cons, ordered]
    by_cases he : entryOK l[i + 1] = true
    · rw [he]
      simp only [Bool.not_true, sel_false, Bool.true_and]
      rw [sel_pos (by omega), sel_pos (by omega), sel_pos (by omega), sel_pos (by omega), sel_pos (by omega), hO, ocall_some]
      by_cases ho : ordK l[i].1 l[i + 1].1 = -1
      · simp only [ho, decide_true, Bool.not_true, sel_false, Bool.true_and]
        exact hi
      · rw [decide_eq_false ho]
        simp
    · rw [Bool.eq_false_iff.2 he]; rfl
theorem G67_is (k : Nat) (hk : 1001 < k) (l : List Entry) (hl : lensL l) (hn : l.length ≤ 1000) : G67 k (l, ()) = some (shardOK l, ()) := by
  have hlp := rshard_loop k (by omega) l hl hn
  rw [G67_eq]
  unfold shardOK
  obtain ⟨k', rfl⟩ : ∃ m, k = m + 1 := ⟨k - 1, by omega⟩
  have h1 : G67_2 (k' + 1) (k' + 1) (l, 0, ()) = some (sel (l.all entryOK && ordered l) (.inl (l, ())) (.inr (false, ()))) := by
    rw [G67_2_eq]
    simp only [ofNat_len]
    by_cases h0 : l.length = 0
    · obtain rfl : l = [] := List.eq_nil_of_length_eq_zero h0
      rw [sel_neg (by simp)]; rfl
    have hlt : 0 < l.length := by omega
    have hm := List.getElem_mem hlt
    have e0 : l.getD (Int.toNat 0) ((0, [], ()), 0, [], 0, [], 0, 0, ()) = l[0] := getD_of hlt _
    have hR : G65 (k' + 1) ((((l[0]).1.1, (l[0]).1.2.1, ()), (l[0]).2.1, (l[0]).2.2.1, (l[0]).2.2.2.1, (l[0]).2.2.2.2.1, (l[0]).2.2.2.2.2.1, (l[0]).2.2.2.2.2.2.1, ()), ()) = _ := G65_is (k' + 1) (by omega) l[0] 300 (by omega) (by omega) (hl _ hm)
    simp only [e0]
    have hw : IntKind.i64.wrap (0 + 1) = ((0 + 1 : Nat) : Int) := rfl
    rw [sel_pos (by omega), sel_pos (by omega), sel_pos (by omega), hR, ocall_some, sel_neg (by omega), hw, hlp (l.length - 1) 0 (by omega) k' (by omega)]
    have hd : l = l[0] :: l.drop 1 := by
      have := List.drop_eq_getElem_cons hlt
      rwa [List.drop_zero] at this
    have ha : l.all entryOK = (entryOK l[0] && (l.drop 1).all entryOK) := by
      conv => lhs; rw [hd]
      rfl
    rw [ha, List.drop_zero]
    by_cases he : entryOK l[0] = true
    · rw [he]; simp
    · rw [Bool.eq_false_iff.2 he]; rfl
  rw [h1, ocall_some]
  cases c : (l.all entryOK && ordered l) with
  | true =>
    rw [sel_true, esel_inl, Bool.true_and]
    simp only [ofNat_len]
    rw [show decide ((l.length : Int) < 129) = decide (l.length ≤ 128) from decide_eq_decide.2 (by omega)]
  | false => rw [sel_false, esel_inr]; rfl
end Go.Proofs.YtjgnpmdbkgeakaaDoor.G
end
section
set_option linter.unusedVariables false
set_option linter.unusedSimpArgs false
set_option maxRecDepth 100000
namespace Go.Proofs.YtjgnpmdbkgeakaaDoor.G
open Go Go.Proofs.YtjgnpmdbkgeakaaDoor Th
theorem eClone (k : Nat) (l : List Entry) (h : l.length ≤ 1000) : G133 k l = some (l, ()) := by
  rw [G133_eq, sel_pos (by omega)]
def keyIs (key : Key) (e : Entry) : Bool := decide (e.1 = key)
def findE (l : List Entry) (key : Key) : Option Entry := l.find? (keyIs key)
theorem find_loop (k : Nat) (l : List Entry) (hn : l.length ≤ 1000000) (key : Key) (v5 : Int) (v6 : Txt) (v7 : Int) (v8 : Txt) (v9 : Int) (v10 : Txt) (v11 v12 : Int) : ∀ (j i : Nat), i + j = l.length → ∀ n, j < n →
    G56_2 k n (l, (l.length : Int), (i : Int), key.1, key.2.1, v5, v6, v7, v8, v9, v10, v11, v12, ()) = some (match findE (l.drop i) key with
      | some e => .inr (true, e.1.1, e.1.2.1, e.2.1, e.2.2.1, e.2.2.2.1, e.2.2.2.2.1, e.2.2.2.2.2.1, e.2.2.2.2.2.2.1, ())
      | none => .inl (v5, v6, v7, v8, v9, v10, v11, v12, ())) := by
  intro j
  induction j with
  | zero =>
    intro i hij n hn'
    obtain ⟨n, rfl⟩ : ∃ m, n = m + 1 := ⟨n - 1, by omega⟩
    rw [G56_2_eq, sel_neg (by omega), List.drop_eq_nil_of_le (by omega)]
    rfl
  | succ j ih =>
    intro i hij n hn'
    obtain ⟨n, rfl⟩ : ∃ m, n = m + 1 := ⟨n - 1, by omega⟩
    have hlt : i < l.length := by omega
    have hi := ih (i + 1) (by omega) n (by omega)
    have hw : IntKind.i64.wrap ((i : Int) + 1) = ((i + 1 : Nat) : Int) := by rw [wrap64 (by omega) (by omega)]; omega
    have hs : (sameI (l[i]).1.1 key.1 && (sameS (l[i]).1.2.1 key.2.1 && true)) = decide ((l[i]).1 = key) := sameK (l[i]).1 key
    rw [G56_2_eq]
    simp only [ofNat_len, Int.toNat_natCast, getD_of hlt, hw]
    rw [sel_pos (by omega), sel_pos (by omega), sel_pos (by omega), hs, List.drop_eq_getElem_cons hlt]
    unfold findE at hi ⊢
    rw [List.find?_cons]
    unfold keyIs at hi ⊢
    cases c : decide ((l[i]).1 = key) with
    | true => rfl
    | false => exact hi
theorem G56_is (k : Nat) (l : List Entry) (hn : l.length ≤ 1000000) (hk : l.length < k) (key : Key) : G56 k (l, key, ()) = some (match findE l key with | some e => (e, true, ()) | none => (zeroE, false, ())) := by
  have h := find_loop k l hn key 0 [] 0 [] 0 [] 0 0 l.length 0 (by omega) k hk
  rw [List.drop_zero, Int.natCast_zero] at h
  obtain ⟨k1, k2, ⟨⟩⟩ := key
  rw [G56_eq]
  simp only [ofNat_len] at h ⊢
  rw [h, ocall_some]
  cases findE l (k1, k2, ()) with
  | some e => rfl
  | none => rfl
def placeE (key : Key) : List Entry → Nat → Option Nat
  | [], _ => none
  | e :: t, i => if e.1 = key then some i else placeE key t (i + 1)
theorem place_loop (k : Nat) (l : List Entry) (hn : l.length ≤ 1000000) (key : Key) : ∀ (j i : Nat), i + j = l.length → ∀ n, j < n →
    G57_2 k n (l, (i : Int), key.1, key.2.1, ()) = some (match placeE key (l.drop i) i with | some p => .inr ((p : Int), ()) | none => .inl ()) := by
  intro j
  induction j with
  | zero =>
    intro i hij n hn'
    obtain ⟨n, rfl⟩ : ∃ m, n = m + 1 := ⟨n - 1, by omega⟩
    rw [G57_2_eq, sel_neg (by simp only [ofNat_len]; omega), List.drop_eq_nil_of_le (by omega)]
    rfl
  | succ j ih =>
    intro i hij n hn'
    obtain ⟨n, rfl⟩ : ∃ m, n = m + 1 := ⟨n - 1, by omega⟩
    have hlt : i < l.length := by omega
    have hi := ih (i + 1) (by omega) n (by omega)
    have hw : IntKind.i64.wrap ((i : Int) + 1) = ((i + 1 : Nat) : Int) := by rw [wrap64 (by omega) (by omega)]; omega
    have hs : (sameI (l[i]).1.1 key.1 && (sameS (l[i]).1.2.1 key.2.1 && true)) = decide ((l[i]).1 = key) := sameK (l[i]).1 key
    rw [G57_2_eq]
    simp only [ofNat_len, Int.toNat_natCast, getD_of hlt, hw]
    rw [sel_pos (by omega), sel_pos (by omega), sel_pos (by omega), hs, List.drop_eq_getElem_cons hlt]
    unfold placeE
    by_cases c : (l[i]).1 = key
    · rw [decide_eq_true c, sel_true, if_pos c]
    · rw [decide_eq_false c, sel_false, if_neg c]; exact hi
theorem G57_is (k : Nat) (l : List Entry) (hn : l.length ≤ 1000000) (hk : l.length < k) (key : Key) : G57 k (l, key, ()) = some (match placeE key l 0 with | some p => (p : Int) | none => -1, ()) := by
  have h := place_loop k l hn key l.length 0 (by omega) k hk
  rw [List.drop_zero, Int.natCast_zero] at h
  obtain ⟨k1, k2, ⟨⟩⟩ := key
  rw [G57_eq]
  rw [h, ocall_some]
  cases placeE (k1, k2, ()) l 0 with
  | some e => rfl
  | none => rfl
theorem place_find (key : Key) : ∀ (l : List Entry) (i : Nat), match placeE key l i with
    | some p => i ≤ p ∧ ∃ h : p - i < l.length, findE l key = some l[p - i] ∧ (l[p - i]).1 = key
    | none => findE l key = none := by
  intro l
  induction l with
  | nil => intro i; rfl
  | cons a t ih =>
    intro i
    unfold placeE
    by_cases c : a.1 = key
    · rw [if_pos c]
      refine ⟨Nat.le_refl _, by rw [Nat.sub_self]; simp, ?_, ?_⟩
      · unfold findE
        rw [List.find?_cons, show keyIs key a = true from decide_eq_true c]
        simp only [Nat.sub_self, List.getElem_cons_zero]
      · simp only [Nat.sub_self, List.getElem_cons_zero]; exact c
    · rw [if_neg c]
      have h := ih (i + 1)
      have hf : findE (a :: t) key = findE t key := by
        unfold findE
        rw [List.find?_cons, show keyIs key a = false from decide_eq_false c]
      rw [hf]
      cases hp : placeE key t (i + 1) with
      | none => rw [hp] at h; exact h
      | some p =>
        rw [hp] at h
        obtain ⟨h1, h2, h3, h4⟩ := h
        have e : p - i = p - (i + 1) + 1 := by omega
        refine ⟨by omega, by rw [e]; simpa using h2, ?_, ?_⟩
        · simp only [e, List.getElem_cons_succ]; exact h3
        · simp only [e, List.getElem_cons_succ]; exact h4
theorem has_find {l : List Entry} (ho : ordered l = true) (key : Key) : findE l key = if hasAt l key = true then l[posE l key]? else none := by
  have hp := place_find key l 0
  cases hq : placeE key l 0 with
  | some p =>
    rw [hq] at hp
    obtain ⟨_, h2, h3, h4⟩ := hp
    rw [Nat.sub_zero] at h2
    simp only [Nat.sub_zero] at h3 h4
    have he : posE l key = p := by
      refine posE_of key l p (by omega) (fun x hx hxp => ?_) (fun x hx hxp => ?_)
      · have := ordered_get ho x p hxp h2
        rwa [h4] at this
      · rcases Nat.lt_or_eq_of_le hxp with c | c
        · intro e
          have := ordered_get ho p x c hx
          rw [h4] at this
          have h0 := ordK_trans this e
          rw [ordK_zero.2 rfl] at h0
          exact absurd h0 (by decide)
        · simp only [← c]
          rw [ordK_zero.2 h4]; decide
    have hh : hasAt l key = true := by
      unfold hasAt
      rw [he, List.getElem?_eq_getElem h2]
      exact decide_eq_true h4
    rw [if_pos hh, h3, he, List.getElem?_eq_getElem h2]
  | none =>
    rw [hq] at hp
    have hh : ¬ hasAt l key = true := by
      intro h
      unfold hasAt at h
      cases hg : l[posE l key]? with
      | none => rw [hg] at h; cases h
      | some e =>
        rw [hg] at h
        have hm := List.mem_of_getElem? hg
        have := List.find?_eq_none.1 hp e hm
        exact this h
    rw [if_neg hh, hp]
theorem has_place {l : List Entry} (ho : ordered l = true) (key : Key) : placeE key l 0 = if hasAt l key = true then some (posE l key) else none := by
  have hp := place_find key l 0
  have hf := has_find ho key
  cases hq : placeE key l 0 with
  | some p =>
    rw [hq] at hp
    obtain ⟨_, h2, h3, h4⟩ := hp
    rw [Nat.sub_zero] at h2
    simp only [Nat.sub_zero] at h3 h4
    have he : posE l key = p := by
      refine posE_of key l p (by omega) (fun x hx hxp => ?_) (fun x hx hxp => ?_)
      · have := ordered_get ho x p hxp h2
        rwa [h4] at this
      · rcases Nat.lt_or_eq_of_le hxp with c | c
        · intro e
          have := ordered_get ho p x c hx
          rw [h4] at this
          have h0 := ordK_trans this e
          rw [ordK_zero.2 rfl] at h0
          exact absurd h0 (by decide)
        · simp only [← c]
          rw [ordK_zero.2 h4]; decide
    have hh : hasAt l key = true := by
      unfold hasAt
      rw [he, List.getElem?_eq_getElem h2]
      exact decide_eq_true h4
    rw [if_pos hh, he]
  | none =>
    rw [hq] at hp
    by_cases hh : hasAt l key = true
    · rw [if_pos hh, hp] at hf
      have := hh
      unfold hasAt at this
      rw [← hf] at this
      cases this
    · rw [if_neg hh]
def putS (e : Entry) : Bool → List Entry → List Entry × Bool
  | d, [] => ([], d)
  | d, x :: t => ((if ordK e.1 x.1 ≤ 0 ∧ d = false then [e] else []) ++ ((if ordK e.1 x.1 = 0 then [] else [x]) ++ (putS e (d || decide (ordK e.1 x.1 ≤ 0)) t).1), (putS e (d || decide (ordK e.1 x.1 ≤ 0)) t).2)
theorem put_loop (k : Nat) (l : List Entry) (hn : l.length ≤ 1000) (e : Entry) : ∀ (j i : Nat), i + j = l.length → ∀ (out : List Entry) (d : Bool), out.length ≤ 2 * i → ∀ n, j < n →
    G134_4 k n (l, out, d, (i : Int), e.1.1, e.1.2.1, e.2.1, e.2.2.1, e.2.2.2.1, e.2.2.2.2.1, e.2.2.2.2.2.1, e.2.2.2.2.2.2.1, ()) =
      some (out ++ (putS e d (l.drop i)).1, (putS e d (l.drop i)).2, e.1.1, e.1.2.1, e.2.1, e.2.2.1, e.2.2.2.1, e.2.2.2.2.1, e.2.2.2.2.2.1, e.2.2.2.2.2.2.1, ()) := by
  intro j
  induction j with
  | zero =>
    intro i hij out d hout n hn'
    obtain ⟨n, rfl⟩ : ∃ m, n = m + 1 := ⟨n - 1, by omega⟩
    rw [G134_4_eq, sel_neg (by simp only [ofNat_len]; omega), List.drop_eq_nil_of_le (by omega)]
    simp only [putS, List.append_nil]
  | succ j ih =>
    intro i hij out d hout n hn'
    obtain ⟨n, rfl⟩ : ∃ m, n = m + 1 := ⟨n - 1, by omega⟩
    have hlt : i < l.length := by omega
    have hi := ih (i + 1) (by omega)
    have hw : IntKind.i64.wrap ((i : Int) + 1) = ((i + 1 : Nat) : Int) := by rw [wrap64 (by omega) (by omega)]; omega
    have hO : G30 k ((e.1.1, e.1.2.1, ()), ((l[i]).1.1, (l[i]).1.2.1, ()), ()) = _ := G30_is k e.1 l[i].1
    rw [G134_4_eq]
    simp only [ofNat_len, Int.toNat_natCast, getD_of hlt, hw]
    have hx : ((((l[i]).1.1, (l[i]).1.2.1, ()), (l[i]).2.1, (l[i]).2.2.1, (l[i]).2.2.2.1, (l[i]).2.2.2.2.1, (l[i]).2.2.2.2.2.1, (l[i]).2.2.2.2.2.2.1, ()) : Entry) = l[i] := rfl
    have he : (((e.1.1, e.1.2.1, ()), e.2.1, e.2.2.1, e.2.2.2.1, e.2.2.2.2.1, e.2.2.2.2.2.1, e.2.2.2.2.2.2.1, ()) : Entry) = e := rfl
    rw [sel_pos (by omega), sel_pos (by omega), sel_pos (by omega), hO, ocall_some, List.drop_eq_getElem_cons hlt, hx, he]
    simp only [putS]
    by_cases c1 : ordK e.1 (l[i]).1 ≤ 0
    · rw [sel_pos c1, decide_eq_true c1, Bool.or_true]
      cases d with
      | false =>
        simp only [Bool.not_false, sel_true]
        rw [sel_pos (by omega), if_pos ⟨c1, trivial⟩]
        by_cases c2 : ordK e.1 (l[i]).1 = 0
        · rw [sel_not, sel_pos c2, if_pos c2, hi (out ++ [e]) true (by rw [List.length_append, List.length_singleton]; omega) n (by omega)]
          simp
        · rw [sel_not, sel_neg c2, if_neg c2, sel_pos (by omega), sel_pos (by omega), sel_pos (by rw [List.length_append, List.length_singleton]; omega), hi (out ++ [e] ++ [l[i]]) true (by simp only [List.length_append, List.length_singleton]; omega) n (by omega)]
          simp
      | true =>
        simp only [Bool.not_true, sel_false]
        rw [if_neg (by simp)]
        by_cases c2 : ordK e.1 (l[i]).1 = 0
        · rw [sel_not, sel_pos c2, if_pos c2, hi out true (by omega) n (by omega)]
          simp
        · rw [sel_not, sel_neg c2, if_neg c2, sel_pos (by omega), sel_pos (by omega), sel_pos (by omega), hi (out ++ [l[i]]) true (by simp only [List.length_append, List.length_singleton]; omega) n (by omega)]
          simp
    · rw [sel_neg c1, decide_eq_false c1, Bool.or_false, if_neg (fun h => c1 h.1)]
      have c2 : ¬ ordK e.1 (l[i]).1 = 0 := by omega
      rw [sel_not, sel_neg c2, if_neg c2, sel_pos (by omega), sel_pos (by omega), sel_pos (by omega), hi (out ++ [l[i]]) d (by simp only [List.length_append, List.length_singleton]; omega) n (by omega)]
      simp
def putL (l : List Entry) (e : Entry) : List Entry := (putS e false l).1 ++ (if (putS e false l).2 = true then [] else [e])
theorem putS_len (e : Entry) : ∀ (l : List Entry) (d : Bool), (putS e d l).1.length ≤ 2 * l.length := by
  intro l
  induction l with
  | nil => intro d; simp [putS]
  | cons x t ih =>
    intro d
    have := ih (d || decide (ordK e.1 x.1 ≤ 0))
    simp only [putS, List.length_append, List.length_cons]
    split <;> split <;> simp <;> omega
theorem G134_is (k : Nat) (hk : 1001 < k) (l : List Entry) (hn : l.length ≤ 1000) (e : Entry) : G134 k (l, e, ()) = some (putL l e, ()) := by
  have h := put_loop k l hn e l.length 0 (by omega) [] false (by simp) k (by omega)
  have hlen := putS_len e l false
  rw [List.drop_zero, Int.natCast_zero, List.nil_append] at h
  unfold putL
  obtain ⟨⟨e1, e2, ⟨⟩⟩, e3, e4, e5, e6, e7, e8, ⟨⟩⟩ := e
  rw [G134_eq, h, ocall_some]
  cases hd : (putS ((e1, e2, ()), e3, e4, e5, e6, e7, e8, ()) false l).2 with
  | true => simp only [Bool.not_true, sel_false, if_pos, List.append_nil]
  | false =>
    simp only [Bool.not_false, sel_true]
    rw [sel_pos (by omega)]; simp
theorem putS_done (e : Entry) : ∀ (t : List Entry), (∀ x ∈ t, ordK e.1 x.1 = -1) → putS e true t = (t, true) := by
  intro t
  induction t with
  | nil => intro _; rfl
  | cons x t ih =>
    intro h
    have h1 := h x (List.mem_cons_self ..)
    simp only [putS, Bool.true_or]
    rw [ih fun y hy => h y (List.mem_cons_of_mem _ hy), if_neg (by simp), if_neg (by rw [h1]; decide)]
    rfl
def insL (l : List Entry) (e : Entry) : List Entry := l.take (posE l e.1) ++ [e] ++ l.drop (posE l e.1)
theorem putL_eq (e : Entry) : ∀ (l : List Entry), ordered l = true → putL l e = if hasAt l e.1 = true then l.set (posE l e.1) e else insL l e := by
  intro l
  induction l with
  | nil => intro _; rfl
  | cons x t ih =>
    intro ho
    have ht := ordered_tail ho
    have hi := ih ht
    have hf := ordK_flip x.1 e.1
    by_cases c : ordK x.1 e.1 = -1
    · have hp := posE_pos (t := t) c
      have c1 : ordK e.1 x.1 = 1 := by omega
      have hh : hasAt (x :: t) e.1 = hasAt t e.1 := by unfold hasAt; rw [hp, List.getElem?_cons_succ]
      have hput : putL (x :: t) e = x :: putL t e := by
        unfold putL
        simp only [putS]
        rw [if_neg (by omega), if_neg (by omega), show (false || decide (ordK e.1 x.1 ≤ 0)) = false from by rw [decide_eq_false (by omega)]; rfl]
        simp
      rw [hput, hi, hh]
      by_cases h : hasAt t e.1 = true
      · rw [if_pos h, if_pos h, hp, List.set_cons_succ]
      · rw [if_neg h, if_neg h]
        unfold insL
        rw [hp, List.take_succ_cons, List.drop_succ_cons]
        rfl
    · have hp := posE_zero (t := t) c
      have hcs := ordK_cases x.1 e.1
      have hlt : ∀ y ∈ t, ordK e.1 y.1 = -1 := by
        intro y hy
        have hxy := ordered_lt ho y hy
        rcases hcs with h | h | h
        · exact absurd h c
        · rw [ordK_zero.1 h] at hxy; exact hxy
        · exact ordK_trans (show ordK e.1 x.1 = -1 by omega) hxy
      have hd : (false || decide (ordK e.1 x.1 ≤ 0)) = true := by rw [decide_eq_true (show ordK e.1 x.1 ≤ 0 by omega)]; rfl
      have hput : putL (x :: t) e = [e] ++ ((if ordK e.1 x.1 = 0 then [] else [x]) ++ t) := by
        unfold putL
        simp only [putS]
        rw [hd, putS_done e t hlt, if_pos ⟨by omega, trivial⟩]
        simp
      have hh : hasAt (x :: t) e.1 = decide (x.1 = e.1) := by unfold hasAt; rw [hp]; rfl
      rw [hput, hh]
      by_cases h0 : x.1 = e.1
      · rw [decide_eq_true h0, if_pos rfl, if_pos (ordK_zero.2 h0.symm), hp]; rfl
      · rw [decide_eq_false h0, if_neg (fun h => h0 (ordK_zero.1 h).symm), if_neg (by simp)]
        unfold insL
        rw [hp]; rfl
theorem same_loop (k : Nat) (a b : List Entry) (hab : a.length = b.length) (hl : a.length ≤ 1000000) : ∀ (j i : Nat), i + j = a.length → ∀ n, j < n →
    G60_4 k n (a, b, (i : Int), ()) = some (sel (decide (a.drop i = b.drop i)) (.inl ()) (.inr (false, ()))) := by
  intro j
  induction j with
  | zero =>
    intro i hij n hn
    obtain ⟨n, rfl⟩ : ∃ m, n = m + 1 := ⟨n - 1, by omega⟩
    rw [G60_4_eq, sel_neg (by simp only [ofNat_len]; omega), List.drop_eq_nil_of_le (by omega), List.drop_eq_nil_of_le (by omega), decide_eq_true rfl]
    rfl
  | succ j ih =>
    intro i hij n hn
    obtain ⟨n, rfl⟩ : ∃ m, n = m + 1 := ⟨n - 1, by omega⟩
    have hlt : i < a.length := by omega
    have hlt' : i < b.length := by omega
    have hw : IntKind.i64.wrap ((i : Int) + 1) = ((i + 1 : Nat) : Int) := by rw [wrap64 (by omega) (by omega)]; omega
    rw [G60_4_eq]
    simp only [ofNat_len, Int.toNat_natCast, getD_of hlt, getD_of hlt', hw]
    rw [sel_pos (by omega), sel_pos (by omega), sel_pos (by omega), sel_pos (by omega), sel_pos (by omega), sameE, List.drop_eq_getElem_cons hlt, List.drop_eq_getElem_cons hlt', ih (i + 1) (by omega) n (by omega)]
    by_cases c : a[i] = b[i]
    · rw [decide_eq_true c, Bool.not_true, sel_false]
      have e : decide (a[i] :: a.drop (i + 1) = b[i] :: b.drop (i + 1)) = decide (a.drop (i + 1) = b.drop (i + 1)) := decide_eq_decide.2 ⟨fun h => (List.cons.inj h).2, fun h => by rw [c, h]⟩
      rw [e]
    · rw [decide_eq_false c, Bool.not_false, sel_true, decide_eq_false (fun h => c (List.cons.inj h).1)]; rfl
theorem G60_is (k : Nat) (a b : List Entry) (hl : a.length ≤ 1000000) (hk : a.length < k) : G60 k (a, b, ()) = some (decide (a = b), ()) := by
  rw [G60_eq]
  simp only [ofNat_len]
  by_cases h2 : a.length = b.length
  case neg => rw [sel_not, sel_neg (by omega), decide_eq_false (fun e => h2 (by rw [e]))]
  have := same_loop k a b h2 hl a.length 0 (by omega) k hk
  simp only [List.drop_zero, Int.natCast_zero] at this
  rw [sel_not, sel_pos (by omega), this, ocall_some]
  cases decide (a = b) <;> rfl
end Go.Proofs.YtjgnpmdbkgeakaaDoor.G
end
section
set_option linter.unusedVariables false
set_option linter.unusedSimpArgs false
set_option maxRecDepth 100000
namespace Go.Proofs.YtjgnpmdbkgeakaaDoor.G
open Go Go.Proofs.YtjgnpmdbkgeakaaDoor Th
theorem shard_parts {l : List Entry} (h : shardOK l = true) : l.all entryOK = true ∧ ordered l = true ∧ l.length ≤ 128 := by
  unfold shardOK at h
  simp only [Bool.and_eq_true, decide_eq_true_eq] at h
  exact ⟨h.1.1, h.1.2, h.2⟩
def insF (l : List Entry) (e : Entry) : List Entry × Int := if shardOK l = true ∧ entryOK e = true then (if hasAt l e.1 = true then (l, 6) else if l.length = 128 then (l, 7) else (insL l e, 0)) else (l, 1)
def swapF (l : List Entry) (st : Int) (e : Entry) : List Entry × Int := if shardOK l = true ∧ entryOK e = true then (if hasAt l e.1 = true then (if (l.getD (posE l e.1) zeroE).2.1 = st then (l.set (posE l e.1) e, 0) else (l, 8)) else (l, 5)) else (l, 1)
def remF (l : List Entry) (key : Key) : List Entry × Int := if shardOK l = true then (if hasAt l key = true then (l.take (posE l key) ++ l.drop (posE l key + 1), 0) else (l, 5)) else (l, 1)
theorem hasAt_lt {l : List Entry} {key : Key} (h : hasAt l key = true) : ∃ hp : posE l key < l.length, (l[posE l key]).1 = key := by
  unfold hasAt at h
  cases hg : l[posE l key]? with
  | none => rw [hg] at h; cases h
  | some e =>
    rw [hg] at h
    obtain ⟨hp, he⟩ := List.getElem?_eq_some_iff.1 hg
    exact ⟨hp, by rw [he]; exact of_decide_eq_true h⟩
theorem G58_is (k : Nat) (hk : 1001 < k) (l : List Entry) (hl : lensL l) (hg : goodL l) (hn : l.length ≤ 1000) (e : Entry) (hle : lensE 300 e) (hge : goodE e) : G58 k (l, e, ()) = some ((insF l e).1, (insF l e).2, ()) := by
  have hR := G66_is k (by omega) l hl hg hn
  have hE := G53_is k 300 (by omega) (by omega) (by omega) e hle hge
  have hP := fun ho => G131_is k hk l hn ho e.1
  have hp := posE_le l e.1
  unfold insF insL
  obtain ⟨⟨e1, e2, ⟨⟩⟩, e3, e4, e5, e6, e7, e8, ⟨⟩⟩ := e
  rw [G58_eq, hR, ocall_some]
  cases hs : shardOK l with
  | false => rw [if_neg (by simp)]; rfl
  | true =>
  obtain ⟨_, ho, h128⟩ := shard_parts hs
  simp only [Bool.not_true, sel_false]
  rw [hE, ocall_some]
  cases he : entryOK ((e1, e2, ()), e3, e4, e5, e6, e7, e8, ()) with
  | false => rw [if_neg (by simp)]; rfl
  | true =>
  have hP := hP ho
  simp only [Bool.not_true, sel_false] at hP hp ⊢
  first | rw [if_pos (⟨rfl, rfl⟩ : true = true ∧ true = true)] | rw [if_pos (⟨trivial, trivial⟩ : True ∧ True)]
  rw [hP, ocall_some]
  cases hh : hasAt l (e1, e2, ()) with
  | true => rw [if_pos rfl]; rfl
  | false =>
  rw [if_neg (by simp)]
  simp only [sel_false, ofNat_len]
  by_cases h7 : l.length = 128
  · rw [sel_pos (by omega), if_pos h7]
  rw [sel_neg (by omega), if_neg h7, eClone k l hn, ocall_some, G132_eq]
  simp only [ofNat_len]
  rw [sel_pos (by omega), sel_pos (by omega), sel_pos (by omega), sel_pos (by simp), ocall_some, Int.toNat_natCast]
theorem G59_is (k : Nat) (hk : 1001 < k) (l : List Entry) (hl : lensL l) (hn : l.length ≤ 1000) (e : Entry) (hle : lensE 300 e) : G59 k (l, e, ()) = some ((insF l e).1, (insF l e).2, ()) := by
  have hR := G67_is k (by omega) l hl hn
  have hE := G65_is k (by omega) e 300 (by omega) (by omega) hle
  have hP := G57_is k l (by omega) (by omega) e.1
  have hU := G134_is k hk l hn e
  have hUe := fun ho => putL_eq e l ho
  have hPe := fun ho : ordered l = true => has_place ho e.1
  unfold insF
  obtain ⟨⟨e1, e2, ⟨⟩⟩, e3, e4, e5, e6, e7, e8, ⟨⟩⟩ := e
  rw [G59_eq, hR, ocall_some]
  cases hs : shardOK l with
  | false => rw [if_neg (by simp)]; rfl
  | true =>
  obtain ⟨_, ho, h128⟩ := shard_parts hs
  have hUe := hUe ho
  have hPe := hPe ho
  simp only [Bool.not_true, sel_false]
  rw [hE, ocall_some]
  cases he : entryOK ((e1, e2, ()), e3, e4, e5, e6, e7, e8, ()) with
  | false => rw [if_neg (by simp)]; rfl
  | true =>
  simp only [Bool.not_true, sel_false] at hP hPe hUe ⊢
  first | rw [if_pos (⟨rfl, rfl⟩ : true = true ∧ true = true)] | rw [if_pos (⟨trivial, trivial⟩ : True ∧ True)]
  rw [hP, ocall_some, hPe]
  cases hh : hasAt l (e1, e2, ()) with
  | true =>
    rw [if_pos rfl, if_pos rfl]
    (try simp only [])
    rw [sel_pos (by omega)]
  | false =>
  rw [if_neg (by simp), if_neg (by simp)]
  simp only [ofNat_len]
  rw [sel_neg (by decide)]
  by_cases h7 : l.length = 128
  · rw [sel_pos (by omega), if_pos h7]
  rw [sel_neg (by omega), if_neg h7, hU, ocall_some, hUe, hh, if_neg (by simp)]
theorem G61_is (k : Nat) (hk : 1001 < k) (l : List Entry) (hl : lensL l) (hg : goodL l) (hn : l.length ≤ 1000) (st : Int) (e : Entry) (hle : lensE 300 e) (hge : goodE e) : G61 k (l, st, e, ()) = some ((swapF l st e).1, (swapF l st e).2, ()) := by
  have hR := G66_is k (by omega) l hl hg hn
  have hE := G53_is k 300 (by omega) (by omega) (by omega) e hle hge
  have hP := fun ho => G131_is k hk l hn ho e.1
  have hlt := @hasAt_lt l e.1
  unfold swapF
  obtain ⟨⟨e1, e2, ⟨⟩⟩, e3, e4, e5, e6, e7, e8, ⟨⟩⟩ := e
  rw [G61_eq, hR, ocall_some]
  cases hs : shardOK l with
  | false => rw [if_neg (by simp)]; rfl
  | true =>
  obtain ⟨_, ho, h128⟩ := shard_parts hs
  simp only [Bool.not_true, sel_false]
  rw [hE, ocall_some]
  cases he : entryOK ((e1, e2, ()), e3, e4, e5, e6, e7, e8, ()) with
  | false => rw [if_neg (by simp)]; rfl
  | true =>
  have hP := hP ho
  simp only [Bool.not_true, sel_false] at hP hlt ⊢
  first | rw [if_pos (⟨rfl, rfl⟩ : true = true ∧ true = true)] | rw [if_pos (⟨trivial, trivial⟩ : True ∧ True)]
  rw [hP, ocall_some]
  cases hh : hasAt l (e1, e2, ()) with
  | false => rw [if_neg (by simp)]; rfl
  | true =>
  obtain ⟨h4, _⟩ := hlt hh
  rw [if_pos rfl]
  generalize posE l (e1, e2, ()) = p at h4
  unfold zeroE
  simp only [Bool.not_true, sel_false, ofNat_len, Int.toNat_natCast, getD_of h4]
  rw [sel_pos (by omega), sel_pos (by omega)]
  by_cases c : (l[p]).2.1 = st
  · rw [sel_not, sel_pos c, if_pos c, eClone k l hn, ocall_some]
    simp only [ofNat_len]
    rw [sel_pos (by omega), sel_pos (by omega), sel_pos (by omega)]
  · rw [sel_not, sel_neg c, if_neg c]
theorem G62_is (k : Nat) (hk : 1001 < k) (l : List Entry) (hl : lensL l) (hn : l.length ≤ 1000) (st : Int) (e : Entry) (hle : lensE 300 e) : G62 k (l, st, e, ()) = some ((swapF l st e).1, (swapF l st e).2, ()) := by
  have hR := G67_is k (by omega) l hl hn
  have hE := G65_is k (by omega) e 300 (by omega) (by omega) hle
  have hP := G57_is k l (by omega) (by omega) e.1
  have hU := G134_is k hk l hn e
  have hUe := fun ho => putL_eq e l ho
  have hPe := fun ho : ordered l = true => has_place ho e.1
  have hlt := @hasAt_lt l e.1
  unfold swapF
  obtain ⟨⟨e1, e2, ⟨⟩⟩, e3, e4, e5, e6, e7, e8, ⟨⟩⟩ := e
  rw [G62_eq, hR, ocall_some]
  cases hs : shardOK l with
  | false => rw [if_neg (by simp)]; rfl
  | true =>
  obtain ⟨_, ho, h128⟩ := shard_parts hs
  have hUe := hUe ho
  have hPe := hPe ho
  simp only [Bool.not_true, sel_false]
  rw [hE, ocall_some]
  cases he : entryOK ((e1, e2, ()), e3, e4, e5, e6, e7, e8, ()) with
  | false => rw [if_neg (by simp)]; rfl
  | true =>
  simp only [Bool.not_true, sel_false] at hP hPe hUe hlt ⊢
  first | rw [if_pos (⟨rfl, rfl⟩ : true = true ∧ true = true)] | rw [if_pos (⟨trivial, trivial⟩ : True ∧ True)]
  rw [hP, ocall_some, hPe]
  cases hh : hasAt l (e1, e2, ()) with
  | false =>
    rw [if_neg (by simp), if_neg (by simp)]
    rfl
  | true =>
  obtain ⟨h4, _⟩ := hlt hh
  rw [hh, if_pos rfl] at hUe
  rw [hUe] at hU
  rw [if_pos rfl, if_pos rfl]
  (try simp only [])
  clear hUe hPe hlt
  generalize posE l (e1, e2, ()) = p at h4 hU
  unfold zeroE
  simp only [ofNat_len, Int.toNat_natCast, getD_of h4]
  rw [sel_neg (by omega), sel_pos (by omega), sel_pos (by omega)]
  by_cases c : (l[p]).2.1 = st
  · rw [sel_not, sel_pos c, if_pos c, hU, ocall_some]
  · rw [sel_not, sel_neg c, if_neg c]
theorem G63_is (k : Nat) (hk : 1001 < k) (l : List Entry) (hl : lensL l) (hg : goodL l) (hn : l.length ≤ 1000) (key : Key) : G63 k (l, key, ()) = some ((remF l key).1, (remF l key).2, ()) := by
  have hR := G66_is k (by omega) l hl hg hn
  have hP := fun ho => G131_is k hk l hn ho key
  have hlt := @hasAt_lt l key
  unfold remF
  obtain ⟨e1, e2, ⟨⟩⟩ := key
  rw [G63_eq, hR, ocall_some]
  cases hs : shardOK l with
  | false => rw [if_neg (by simp)]; rfl
  | true =>
  obtain ⟨_, ho, h128⟩ := shard_parts hs
  simp only [Bool.not_true, sel_false]
  first | rw [if_pos (rfl : true = true)] | rw [if_pos trivial]
  rw [hP ho, ocall_some]
  cases hh : hasAt l (e1, e2, ()) with
  | false => rw [if_neg (by simp)]; rfl
  | true =>
  obtain ⟨h4, _⟩ := hlt hh
  rw [if_pos rfl]
  generalize posE l (e1, e2, ()) = p at h4
  simp only [Bool.not_true, sel_false]
  rw [eClone k l hn, ocall_some, wrap64 (by omega) (by omega), G135_eq]
  simp only [ofNat_len]
  rw [sel_pos (by omega), sel_pos (by omega), sel_pos (by omega), ocall_some, show ((p : Int) + 1).toNat = p + 1 by omega, Int.toNat_natCast]
theorem G64_is (k : Nat) (hk : 1001 < k) (l : List Entry) (hl : lensL l) (hn : l.length ≤ 1000) (key : Key) : G64 k (l, key, ()) = some ((remF l key).1, (remF l key).2, ()) := by
  have hR := G67_is k (by omega) l hl hn
  have hP := G57_is k l (by omega) (by omega) key
  have hPe := fun ho : ordered l = true => has_place ho key
  have hlt := @hasAt_lt l key
  unfold remF
  obtain ⟨e1, e2, ⟨⟩⟩ := key
  rw [G64_eq, hR, ocall_some]
  cases hs : shardOK l with
  | false => rw [if_neg (by simp)]; rfl
  | true =>
  obtain ⟨_, ho, h128⟩ := shard_parts hs
  have hPe := hPe ho
  simp only [Bool.not_true, sel_false]
  first | rw [if_pos (rfl : true = true)] | rw [if_pos trivial]
  rw [hP, ocall_some, hPe]
  cases hh : hasAt l (e1, e2, ()) with
  | false =>
    rw [if_neg (by simp), if_neg (by simp)]
    rfl
  | true =>
  obtain ⟨h4, _⟩ := hlt hh
  rw [if_pos rfl, if_pos rfl]
  (try simp only [])
  generalize posE l (e1, e2, ()) = p at h4
  have hw : IntKind.i64.wrap ((p : Int) + 1) = ((p + 1 : Nat) : Int) := by rw [wrap64 (by omega) (by omega)]; omega
  have z0 : (Int.ofNat 0).toNat = 0 := rfl
  simp only [hw, Int.toNat_natCast, z0, List.drop_zero, ofNat_len]
  have e1' : List.take l.length l = l := List.take_of_length_le (Nat.le_refl _)
  have e2' : (List.take p l).length ≤ 1000 := by rw [List.length_take]; omega
  have e3' : (List.drop (p + 1) l).length ≤ 1000 := by rw [List.length_drop]; omega
  rw [sel_neg (by omega), sel_pos (by omega), sel_pos (by omega), sel_pos (by omega), sel_pos (by omega), sel_pos (by omega), sel_pos (by omega), sel_pos (by omega), sel_pos (by omega), e1', sel_pos (by omega)]
end Go.Proofs.YtjgnpmdbkgeakaaDoor.G
end
section
set_option linter.unusedVariables false
set_option linter.unusedSimpArgs false
set_option maxRecDepth 100000
namespace Go.Proofs.YtjgnpmdbkgeakaaDoor.G
open Go Go.Proofs.YtjgnpmdbkgeakaaDoor Th
theorem shortE (k : Nat) (e : Entry) : G46 k (e, ()) = some (decide (e.1.2.1.length ≤ 300 ∧ e.2.2.1.length ≤ 300 ∧ e.2.2.2.2.1.length ≤ 300), ()) := by
  rw [G46_eq, G25_eq, ocall_some]
  simp only [ofNat_len]
  have a1 : decide ((e.1.2.1.length : Int) ≤ 300) = decide (e.1.2.1.length ≤ 300) := decide_eq_decide.2 (by omega)
  have a2 : decide ((e.2.2.1.length : Int) ≤ 300) = decide (e.2.2.1.length ≤ 300) := decide_eq_decide.2 (by omega)
  have a3 : decide ((e.2.2.2.2.1.length : Int) ≤ 300) = decide (e.2.2.2.2.1.length ≤ 300) := decide_eq_decide.2 (by omega)
  rw [a1, a2, a3]
  by_cases h1 : e.1.2.1.length ≤ 300 <;> by_cases h2 : e.2.2.1.length ≤ 300 <;> by_cases h3 : e.2.2.2.2.1.length ≤ 300 <;> simp [h1, h2, h3]
end Go.Proofs.YtjgnpmdbkgeakaaDoor.G
end
section
set_option linter.unusedVariables false
set_option linter.unusedSimpArgs false
set_option maxRecDepth 100000
namespace Go.Proofs.YtjgnpmdbkgeakaaDoor.G
open Go Go.Proofs.YtjgnpmdbkgeakaaDoor Th
instance decLE (L : Nat) (e : Entry) : Decidable (lensE L e) := inferInstanceAs (Decidable (_ ∧ _ ∧ _))
theorem shortEntry (k : Nat) (e : Entry) : G46 k (e, ()) = some (decide (lensE 300 e), ()) := by
  rw [shortE]
  rw [show decide (e.1.2.1.length ≤ 300 ∧ e.2.2.1.length ≤ 300 ∧ e.2.2.2.2.1.length ≤ 300) = decide (lensE 300 e) from decide_eq_decide.2 Iff.rfl]
theorem shortE_loop (k : Nat) (l : List Entry) : ∀ (j i : Nat), i + j = (l.take 200).length → ∀ n, j < n →
    G55_2 k n (l, (i : Int), ()) = some (sel (((l.take 200).drop i).all (fun e => decide (lensE 300 e))) (.inl (l, ())) (.inr (false, ()))) := by
  intro j
  induction j with
  | zero =>
    intro i hij n hn
    obtain ⟨n, rfl⟩ : ∃ m, n = m + 1 := ⟨n - 1, by omega⟩
    rw [List.drop_eq_nil_of_le (by omega), G55_2_eq]
    rw [List.length_take] at hij
    simp only [ofNat_len]
    by_cases h : i < l.length
    · rw [sel_pos (by omega), sel_neg (by omega)]; rfl
    · rw [sel_neg (by omega)]; rfl
  | succ j ih =>
    intro i hij n hn
    obtain ⟨n, rfl⟩ : ∃ m, n = m + 1 := ⟨n - 1, by omega⟩
    have hlt' : i < (l.take 200).length := by omega
    have hij' := hij
    rw [List.length_take] at hij'
    have hlt : i < l.length := by omega
    have hw : IntKind.i64.wrap ((i : Int) + 1) = ((i + 1 : Nat) : Int) := by rw [wrap64 (by omega) (by omega)]; omega
    have he : (l.take 200)[i] = l[i] := List.getElem_take
    have hS : G46 k ((((l[i]).1.1, (l[i]).1.2.1, ()), (l[i]).2.1, (l[i]).2.2.1, (l[i]).2.2.2.1, (l[i]).2.2.2.2.1, (l[i]).2.2.2.2.2.1, (l[i]).2.2.2.2.2.2.1, ()), ()) = _ := shortEntry k l[i]
    rw [G55_2_eq]
    simp only [ofNat_len, Int.toNat_natCast, getD_of hlt]
    rw [sel_pos (by omega), sel_pos (by omega), sel_pos (by omega), sel_pos (by omega), hS, ocall_some, List.drop_eq_getElem_cons hlt', he, List.all_cons]
    by_cases c : lensE 300 l[i]
    · rw [decide_eq_true c, Bool.not_true, sel_false, hw, ih (i + 1) (by omega) n (by omega), Bool.true_and]
    · rw [decide_eq_false c, Bool.not_false, sel_true, Bool.false_and]; rfl
theorem G55_is (k : Nat) (hk : 201 < k) (l : List Entry) : ∃ b, G55 k (l, ()) = some (b, ()) ∧ (b = true → l.length ≤ 200 ∧ lensL l) := by
  have h := shortE_loop k l (l.take 200).length 0 (by omega) k (by rw [List.length_take]; omega)
  rw [List.drop_zero, Int.natCast_zero] at h
  rw [G55_eq, h, ocall_some]
  cases c : (l.take 200).all (fun e => decide (lensE 300 e)) with
  | true =>
    rw [sel_true, esel_inl]
    refine ⟨_, rfl, fun h => ?_⟩
    have hle : l.length ≤ 200 := by have := of_decide_eq_true h; simp only [ofNat_len] at this; omega
    rw [List.take_of_length_le (by omega)] at c
    exact ⟨hle, fun e he => by simpa using List.all_eq_true.1 c e he⟩
  | false =>
    rw [sel_false, esel_inr]
    exact ⟨_, rfl, fun h => absurd h (by simp)⟩
def rS : Txt := [82, 82, 78, 48, 48, 48, 48, 48, 48, 48, 48, 49]
def eS0 : Entry := ((2, rS, ()), 1, [49, 56], 5, [], 0, 0, ())
def fS0 : Entry := ((1, rS, ()), 1, [49, 56], 5, [], 0, 0, ())
def eS1 : Entry := ((2, rS, ()), 2, [49, 56], 5, [48, 48], 0, 0, ())
theorem good1 {l : List Entry} (h : ∀ e ∈ l, e = eS0 ∨ e = fS0 ∨ e = eS1) : lensL l ∧ goodL l := by
  constructor <;> intro e he <;> rcases h e he with rfl | rfl | rfl <;> (first | exact ⟨by decide, by decide, by decide⟩ | exact ⟨⟨by decide, by decide⟩, by decide, by decide⟩)
theorem G54_is (k : Nat) (hk : 2000 < k) : G54 k () = some (true, ()) := by
  have g1 := good1 (l := [eS0]) (by simp)
  have g2 := good1 (l := [fS0, eS0]) (by simp)
  have g3 := good1 (l := [fS0, eS1]) (by simp)
  have ge := good1 (l := [eS0, fS0, eS1]) (by simp)
  have m1 : eS1 ∈ [eS0, fS0, eS1] := by simp
  have m2 : fS0 ∈ [eS0, fS0, eS1] := by simp
  have h1 := G58_is k (by omega) [eS0] g1.1 g1.2 (by simp) fS0 (ge.1 _ m2) (ge.2 _ m2)
  have h2 := G61_is k (by omega) [fS0, eS0] g2.1 g2.2 (by simp) 1 eS1 (ge.1 _ m1) (ge.2 _ m1)
  have h3 := G61_is k (by omega) [fS0, eS1] g3.1 g3.2 (by simp) 1 eS1 (ge.1 _ m1) (ge.2 _ m1)
  have h4 := G63_is k (by omega) [fS0, eS1] g3.1 g3.2 (by simp) fS0.1
  have h5 := G56_is k [eS1] (by simp) (by simp; omega) eS1.1
  have h6 := G66_is k (by omega) [fS0, eS0] g2.1 g2.2 (by simp)
  have h7 := G53_is k 300 (by omega) (by omega) (by omega) eS1 (ge.1 _ m1) (ge.2 _ m1)
  rw [show insF [eS0] fS0 = ([fS0, eS0], 0) from by kernel_rfl] at h1
  rw [show swapF [fS0, eS0] 1 eS1 = ([fS0, eS1], 0) from by kernel_rfl] at h2
  rw [show swapF [fS0, eS1] 1 eS1 = ([fS0, eS1], 8) from by kernel_rfl] at h3
  rw [show remF [fS0, eS1] fS0.1 = ([eS1], 0) from by kernel_rfl] at h4
  rw [show findE [eS1] eS1.1 = some eS1 from by kernel_rfl] at h5
  rw [show shardOK [fS0, eS0] = true from by kernel_rfl] at h6
  rw [show entryOK eS1 = true from by kernel_rfl] at h7
  simp only [eS0, fS0, eS1, rS] at h1 h2 h3 h4 h5 h6 h7
  rw [G54_eq, h1, ocall_some]
  (try simp only [])
  rw [h2, ocall_some]
  (try simp only [])
  rw [h3, ocall_some, h4, ocall_some]
  (try simp only [])
  rw [h5, ocall_some, h6, h7]
  rfl
end Go.Proofs.YtjgnpmdbkgeakaaDoor.G
end
section
set_option linter.unusedVariables false
set_option linter.unusedSimpArgs false
set_option maxRecDepth 100000
namespace Go.Proofs.YtjgnpmdbkgeakaaDoor.G
open Go Go.Proofs.YtjgnpmdbkgeakaaDoor Th
theorem ins_cons_lt {x : Entry} {t : List Entry} {e : Entry} (c : ordK x.1 e.1 = -1) : insL (x :: t) e = x :: insL t e := by
  unfold insL
  rw [posE_pos (t := t) c, List.take_succ_cons, List.drop_succ_cons]; rfl
theorem ins_cons_ge {x : Entry} {t : List Entry} {e : Entry} (c : ordK x.1 e.1 ≠ -1) : insL (x :: t) e = e :: x :: t := by
  unfold insL
  rw [posE_zero (t := t) c]; rfl
theorem hasAt_cons_lt {x : Entry} {t : List Entry} {key : Key} (c : ordK x.1 key = -1) : hasAt (x :: t) key = hasAt t key := by
  unfold hasAt; rw [posE_pos (t := t) c, List.getElem?_cons_succ]
theorem hasAt_cons_ge {x : Entry} {t : List Entry} {key : Key} (c : ordK x.1 key ≠ -1) : hasAt (x :: t) key = decide (x.1 = key) := by
  unfold hasAt; rw [posE_zero (t := t) c]; rfl
theorem ins_mem {l : List Entry} {e x : Entry} (h : x ∈ insL l e) : x ∈ l ∨ x = e := by
  unfold insL at h
  rcases List.mem_append.1 h with h | h
  · rcases List.mem_append.1 h with h | h
    · exact .inl (List.mem_of_mem_take h)
    · exact .inr (List.mem_singleton.1 h)
  · exact .inl (List.mem_of_mem_drop h)
theorem ins_length (l : List Entry) (e : Entry) : (insL l e).length = l.length + 1 := by
  have := posE_le l e.1
  unfold insL; simp only [List.length_append, List.length_take, List.length_drop, List.length_singleton]; omega
theorem ins_ordered (e : Entry) : ∀ (l : List Entry), ordered l = true → hasAt l e.1 = false → ordered (insL l e) = true := by
  intro l
  induction l with
  | nil => intro _ _; rfl
  | cons x t ih =>
    intro ho hh
    by_cases c : ordK x.1 e.1 = -1
    · rw [hasAt_cons_lt c] at hh
      rw [ins_cons_lt c]
      refine ordered_cons (ih (ordered_tail ho) hh) fun y hy => ?_
      rcases ins_mem hy with h | h
      · exact ordered_lt ho y h
      · rw [h]; exact c
    · rw [hasAt_cons_ge c] at hh
      have hne : x.1 ≠ e.1 := of_decide_eq_false hh
      rw [ins_cons_ge c]
      have hex : ordK e.1 x.1 = -1 := by
        have hf := ordK_flip x.1 e.1
        rcases ordK_cases x.1 e.1 with h | h | h
        · exact absurd h c
        · exact absurd (ordK_zero.1 h) hne
        · omega
      refine ordered_cons ho fun y hy => ?_
      rcases List.mem_cons.1 hy with h | h
      · rw [h]; exact hex
      · exact ordK_trans hex (ordered_lt ho y h)
theorem ins_pos (e : Entry) : ∀ (l : List Entry), posE (insL l e) e.1 = posE l e.1 := by
  have hee : ordK e.1 e.1 ≠ -1 := by rw [ordK_zero.2 rfl]; decide
  intro l
  induction l with
  | nil => exact posE_zero (t := []) hee
  | cons x t ih =>
    by_cases c : ordK x.1 e.1 = -1
    · rw [ins_cons_lt c, posE_pos c, posE_pos c, ih]
    · rw [ins_cons_ge c, posE_zero hee, posE_zero c]
theorem ins_get (l : List Entry) (e : Entry) : (insL l e)[posE l e.1]? = some e := by
  have := posE_le l e.1
  unfold insL
  rw [List.append_assoc, List.getElem?_append_right (by rw [List.length_take]; omega), List.length_take, Nat.min_eq_left this, Nat.sub_self]
  rfl
theorem ins_has (l : List Entry) (e : Entry) : hasAt (insL l e) e.1 = true := by
  unfold hasAt
  rw [ins_pos, ins_get]
  exact decide_eq_true rfl
theorem ins_ok {l : List Entry} {e : Entry} (h : shardOK l = true) (he : entryOK e = true) (hh : hasAt l e.1 = false) (h7 : l.length ≠ 128) : shardOK (insL l e) = true := by
  obtain ⟨h1, h2, h3⟩ := shard_parts h
  unfold shardOK
  rw [ins_ordered e l h2 hh, decide_eq_true (show (insL l e).length ≤ 128 by rw [ins_length]; omega)]
  have ha : (insL l e).all entryOK = true := List.all_eq_true.2 fun x hx => by
    rcases ins_mem hx with h | h
    · exact List.all_eq_true.1 h1 x h
    · rw [h]; exact he
  rw [ha]; rfl
theorem ins_find_other {l : List Entry} {e : Entry} {key : Key} (h : key ≠ e.1) : findE (insL l e) key = findE l key := by
  have hn : keyIs key e = false := decide_eq_false fun x => h x.symm
  have hl : l.find? (keyIs key) = ((l.take (posE l e.1)).find? (keyIs key)).or ((l.drop (posE l e.1)).find? (keyIs key)) := by
    rw [← List.find?_append, List.take_append_drop]
  unfold findE insL
  rw [hl, List.find?_append, List.find?_append, List.find?_cons, hn]
  simp
theorem ins_back (l : List Entry) (e : Entry) : (insL l e).take (posE l e.1) ++ (insL l e).drop (posE l e.1 + 1) = l := by
  have := posE_le l e.1
  have hl : (l.take (posE l e.1)).length = posE l e.1 := by rw [List.length_take]; omega
  unfold insL
  rw [List.append_assoc, List.take_append_of_le_length (by omega), List.take_of_length_le (by omega), List.drop_append, List.drop_of_length_le (by omega), hl, show posE l e.1 + 1 - posE l e.1 = 1 by omega]
  simp
theorem ins_set (l : List Entry) (e f : Entry) (h : f.1 = e.1) : (insL l e).set (posE l e.1) f = insL l f := by
  have := posE_le l e.1
  have hl : (l.take (posE l e.1)).length = posE l e.1 := by rw [List.length_take]; omega
  unfold insL
  rw [h, List.append_assoc, List.set_append_right _ _ (by omega), hl, Nat.sub_self]
  simp
theorem ins_find (l : List Entry) (e : Entry) (ho : ordered (insL l e) = true) : findE (insL l e) e.1 = some e := by
  rw [has_find ho, if_pos (ins_has l e), ins_pos, ins_get]
end Go.Proofs.YtjgnpmdbkgeakaaDoor.G
end
section
set_option linter.unusedVariables false
set_option linter.unusedSimpArgs false
set_option maxRecDepth 100000
namespace Go.Proofs.YtjgnpmdbkgeakaaDoor.PureShardRight
open Go Go.Proofs.YtjgnpmdbkgeakaaDoor Th G
theorem short07 (k : Nat) (a : Key) : G25 k (a, ()) = some (decide (a.2.1.length ≤ 300), ()) := by
  rw [G25_eq]
  have : decide ((Int.ofNat a.2.1.length) ≤ 300) = decide (a.2.1.length ≤ 300) := decide_eq_decide.2 (by simp only [Int.ofNat_eq_natCast]; omega)
  simp only [this]
theorem same (a : List Entry) (h : a.length ≤ 1000) : G60 5000 (a, a, ()) = some (true, ()) := by
  rw [G60_is 5000 a a (by omega) (by omega), decide_eq_true rfl]
theorem ins_len (l : List Entry) (e : Entry) : (insF l e).1.length ≤ l.length + 1 := by
  unfold insF
  split
  · split
    · exact Nat.le_succ _
    · split
      · exact Nat.le_succ _
      · unfold insL; simp only [List.length_append, List.length_take, List.length_drop, List.length_singleton]; omega
  · exact Nat.le_succ _
theorem swap_len (l : List Entry) (st : Int) (e : Entry) : (swapF l st e).1.length ≤ l.length := by
  unfold swapF
  split
  · split
    · split
      · rw [List.length_set]; exact Nat.le_refl _
      · exact Nat.le_refl _
    · exact Nat.le_refl _
  · exact Nat.le_refl _
theorem rem_len (l : List Entry) (key : Key) : (remF l key).1.length ≤ l.length := by
  unfold remF
  split
  · split
    · simp only [List.length_append, List.length_take, List.length_drop]; omega
    · exact Nat.le_refl _
  · exact Nat.le_refl _
theorem tail (l : List Entry) (e : Entry) (key : Key) (st : Int) (hl : lensL l) (hg : goodL l) (hn : l.length ≤ 200) (hle : lensE 300 e) (hge : goodE e) :
    (ocall (G58 5000 (l, e, ())) fun r => ocall (G59 5000 (l, e, ())) fun r_2 => ocall (G60 5000 (r.1, r_2.1, ())) fun r_3 => sel (!r_3.1) (some (false, ())) (sel (!decide (r.2.1 = r_2.2.1)) (some (false, ()))
      (ocall (G61 5000 (l, st, e, ())) fun r => ocall (G62 5000 (l, st, e, ())) fun r_4 => ocall (G60 5000 (r.1, r_4.1, ())) fun r_5 => sel (!r_5.1) (some (false, ())) (sel (!decide (r.2.1 = r_4.2.1)) (some (false, ()))
        (ocall (G63 5000 (l, key, ())) fun r => ocall (G64 5000 (l, key, ())) fun r_6 => ocall (G60 5000 (r.1, r_6.1, ())) fun r_7 => sel r_7.1 (sel (decide (r.2.1 = r_6.2.1))
          (ocall (G53 5000 (e, ())) fun r => ocall (G65 5000 (e, ())) fun r_8 => sel (r.1 == r_8.1) (ocall (G66 5000 (l, ())) fun r => ocall (G67 5000 (l, ())) fun r_9 => some (r.1 == r_9.1, ())) (some (false, ()))) (some (false, ()))) (some (false, ()))))))) = some (true, ()) := by
  have i1 := ins_len l e
  have i2 := swap_len l st e
  have i3 := rem_len l key
  rw [G58_is 5000 (by omega) l hl hg (by omega) e hle hge, ocall_some, G59_is 5000 (by omega) l hl (by omega) e hle, ocall_some]
  (try simp only [])
  rw [same _ (by omega), ocall_some]
  simp only [Bool.not_true, sel_false, decide_true]
  rw [G61_is 5000 (by omega) l hl hg (by omega) st e hle hge, ocall_some, G62_is 5000 (by omega) l hl (by omega) st e hle, ocall_some]
  (try simp only [])
  rw [same _ (by omega), ocall_some]
  simp only [Bool.not_true, sel_false, decide_true]
  rw [G63_is 5000 (by omega) l hl hg (by omega) key, ocall_some, G64_is 5000 (by omega) l hl (by omega) key, ocall_some]
  (try simp only [])
  rw [same _ (by omega), ocall_some]
  simp only [sel_true, decide_true]
  rw [G53_is 5000 300 (by omega) (by omega) (by omega) e hle hge, ocall_some, G65_is 5000 (by omega) e 300 (by omega) (by omega) hle, ocall_some, beq_self_eq_true, sel_true, G66_is 5000 (by omega) l hl hg (by omega), ocall_some, G67_is 5000 (by omega) l hl (by omega), ocall_some]
  simp only [beq_self_eq_true]
theorem same0 (e : Entry) : (sameI e.1.1 e.1.1 && (sameS e.1.2.1 e.1.2.1 && true) && (sameI e.2.1 e.2.1 && (sameS e.2.2.1 e.2.2.1 && (sameI e.2.2.2.1 e.2.2.2.1 && (sameS e.2.2.2.2.1 e.2.2.2.2.1 && (sameI e.2.2.2.2.2.1 e.2.2.2.2.2.1 && (sameI e.2.2.2.2.2.2.1 e.2.2.2.2.2.2.1 && true))))))) = true := by
  have := sameE e e
  rw [decide_eq_true rfl] at this
  exact this
theorem main (l : List Entry) (e : Entry) (key : Key) (st : Int) (hg : goodL l) (hge : goodE e) : G12 5000 (l, e, key, st, ()) = some (true, ()) := by
  have tl := tail l e key st
  have hSe := shortEntry 5000 e
  have hK := short07 5000 key
  have hF := fun hn hk => G56_is 5000 l hn hk key
  have hP := fun hn hk => G57_is 5000 l hn hk key
  have hpf := place_find key l 0
  obtain ⟨b, hS, hS2⟩ := G55_is 5000 (by omega) l
  obtain ⟨⟨e1, e2, ⟨⟩⟩, e3, e4, e5, e6, e7, e8, ⟨⟩⟩ := e
  obtain ⟨k1, k2, ⟨⟩⟩ := key
  rw [G12_eq, G54_is 5000 (by omega), ocall_some]
  simp only [Bool.not_true, sel_false]
  rw [hS, ocall_some]
  cases b with
  | false => rfl
  | true =>
  obtain ⟨hn, hl⟩ := hS2 rfl
  simp only [Bool.not_true, sel_false]
  rw [hSe, ocall_some]
  by_cases hle : lensE 300 ((e1, e2, ()), e3, e4, e5, e6, e7, e8, ())
  case neg => rw [decide_eq_false hle]; rfl
  have tl := tl hl hg hn hle hge
  rw [decide_eq_true hle]
  simp only [Bool.not_true, sel_false]
  rw [hK, ocall_some]
  (try simp only [])
  by_cases hkl : k2.length ≤ 300
  case neg => rw [decide_eq_false hkl]; rfl
  rw [decide_eq_true hkl]
  simp only [Bool.not_true, sel_false]
  rw [hF (by omega) (by omega), ocall_some, hP (by omega) (by omega), ocall_some]
  cases hq : placeE (k1, k2, ()) l 0 with
  | none =>
    rw [hq] at hpf
    rw [hpf]
    simp only [ofNat_len]
    rw [decide_eq_false (show ¬ (0 : Int) ≤ -1 by decide)]
    have s0 := same0 zeroE
    unfold zeroE at s0 ⊢
    (try simp only [] at s0)
    simp only [beq_self_eq_true, Bool.not_true, sel_false, Bool.not_false, sel_true, s0]
    exact tl
  | some p =>
    rw [hq] at hpf
    obtain ⟨_, h2, h3, h4⟩ := hpf
    rw [Nat.sub_zero] at h2
    simp only [Nat.sub_zero] at h3 h4
    rw [h3]
    have s0 := same0 l[p]
    simp only [ofNat_len, Int.toNat_natCast, getD_of h2]
    rw [decide_eq_true (show (0 : Int) ≤ (p : Int) by omega), decide_eq_true (show (p : Int) < (l.length : Int) by omega)]
    simp only [beq_self_eq_true, Bool.not_true, sel_false, sel_true, s0]
    exact tl
theorem pure (x0 : Ty.den (.slice (.st (.cons (.st (.cons (.int .u32) (.cons .str .nil))) (.cons (.int .i64) (.cons .str (.cons (.int .u64) (.cons .str (.cons (.int .i64) (.cons (.int .i64) .nil)))))))))) (x1 : Ty.den (.st (.cons (.st (.cons (.int .u32) (.cons .str .nil))) (.cons (.int .i64) (.cons .str (.cons (.int .u64) (.cons .str (.cons (.int .i64) (.cons (.int .i64) .nil))))))))) (x2 : Ty.den (.st (.cons (.int .u32) (.cons .str .nil)))) (x3 : Ty.den (.int .i64)) (g0 : Ty.Good (.slice (.st (.cons (.st (.cons (.int .u32) (.cons .str .nil))) (.cons (.int .i64) (.cons .str (.cons (.int .u64) (.cons .str (.cons (.int .i64) (.cons (.int .i64) .nil))))))))) x0) (g1 : Ty.Good (.st (.cons (.st (.cons (.int .u32) (.cons .str .nil))) (.cons (.int .i64) (.cons .str (.cons (.int .u64) (.cons .str (.cons (.int .i64) (.cons (.int .i64) .nil)))))))) x1) (g2 : Ty.Good (.st (.cons (.int .u32) (.cons .str .nil))) x2) (g3 : Ty.Good (.int .i64) x3) : ∃ k, F12 k (x0, (x1, (x2, (x3, PUnit.unit)))) = some (true, PUnit.unit) :=
  ⟨5000, main x0 x1 x2 x3 (fun e he => have h := g0.2.2 e he; ⟨good_u32 h.1.1, good_u64 h.2.2.2.1⟩) ⟨good_u32 g1.1.1, good_u64 g1.2.2.2.1⟩⟩
end Go.Proofs.YtjgnpmdbkgeakaaDoor.PureShardRight
end
section
set_option linter.unusedVariables false
set_option linter.unusedSimpArgs false
set_option maxRecDepth 100000
namespace Go.Proofs.YtjgnpmdbkgeakaaDoor.PureShardSwaps
open Go Go.Proofs.YtjgnpmdbkgeakaaDoor Th G PureShardRight
theorem sameEE (a b : Entry) : (sameI a.1.1 b.1.1 && (sameS a.1.2.1 b.1.2.1 && true) && (sameI a.2.1 b.2.1 && (sameS a.2.2.1 b.2.2.1 && (sameI a.2.2.2.1 b.2.2.2.1 && (sameS a.2.2.2.2.1 b.2.2.2.2.1 && (sameI a.2.2.2.2.2.1 b.2.2.2.2.2.1 && (sameI a.2.2.2.2.2.2.1 b.2.2.2.2.2.2.1 && true))))))) = decide (a = b) := sameE a b
theorem tail (l : List Entry) (e f : Entry) (hl : lensL l) (hg : goodL l) (hn : l.length ≤ 200) (hle : lensE 300 e) (hge : goodE e) (hlf : lensE 300 f) (hgf : goodE f) (hk : f.1 = e.1) (ok : shardOK l = true) (he : entryOK e = true) (hh : hasAt l e.1 = false) (h7 : l.length ≠ 128) :
    (ocall (G63 5000 (insL l e, e.1, ())) fun r_6 => ocall (G56 5000 (r_6.1, e.1, ())) fun r_7 => sel (!decide (r_6.2.1 = 0)) (some (false, ())) (sel r_7.2.1 (some (false, ())) (ocall (G60 5000 (r_6.1, l, ())) fun r_8 => sel (!r_8.1) (some (false, ()))
      (ocall (G61 5000 (insL l e, e.2.1, f, ())) fun r_9 => sel (!decide (r_9.2.1 = 0)) (sel (decide (r_9.2.1 = 1)) (ocall (G53 5000 (f, ())) fun r => some (!r.1, ())) (some (false, ())))
        (ocall (G56 5000 (r_9.1, e.1, ())) fun r_10 => ocall (G61 5000 (r_9.1, e.2.1, e, ())) fun r_11 => sel r_10.2.1 (sel (sameI r_10.1.1.1 f.1.1 && (sameS r_10.1.1.2.1 f.1.2.1 && true) && (sameI r_10.1.2.1 f.2.1 && (sameS r_10.1.2.2.1 f.2.2.1 && (sameI r_10.1.2.2.2.1 f.2.2.2.1 && (sameS r_10.1.2.2.2.2.1 f.2.2.2.2.1 && (sameI r_10.1.2.2.2.2.2.1 f.2.2.2.2.2.1 && (sameI r_10.1.2.2.2.2.2.2.1 f.2.2.2.2.2.2.1 && true)))))))
          (ocall (G66 5000 (r_9.1, ())) fun r_12 => sel r_12.1 (sel (decide (Int.ofNat r_9.1.length = Int.ofNat (insL l e).length)) (some (decide (r_11.2.1 = 0) == decide (f.2.1 = e.2.1), ())) (some (false, ()))) (some (false, ()))) (some (false, ()))) (some (false, ()))))))) = some (true, ()) := by
  have pl : ∀ g : Entry, lensE 300 g → lensL (insL l g) := fun g h x hx => by
    rcases ins_mem hx with h' | h'
    · exact hl x h'
    · rw [h']; exact h
  have pg : ∀ g : Entry, goodE g → goodL (insL l g) := fun g h x hx => by
    rcases ins_mem hx with h' | h'
    · exact hg x h'
    · rw [h']; exact h
  have len : ∀ g : Entry, (insL l g).length ≤ 1000 := fun g => by rw [ins_length]; omega
  have oki := ins_ok ok he hh h7
  obtain ⟨_, ho, _⟩ := shard_parts ok
  obtain ⟨_, hoi, _⟩ := shard_parts oki
  have hrem : remF (insL l e) e.1 = (l, 0) := by
    unfold remF
    rw [if_pos oki, if_pos (ins_has l e), ins_pos, ins_back]
  have hnone : findE l e.1 = none := by rw [has_find ho, if_neg (by rw [hh]; simp)]
  have hgd : (insL l e).getD (posE (insL l e) e.1) zeroE = e := by rw [ins_pos, List.getD_eq_getElem?_getD, ins_get]; rfl
  have hpf : posE (insL l e) f.1 = posE l e.1 := by rw [hk, ins_pos]
  rw [G63_is 5000 (by omega) _ (pl e hle) (pg e hge) (len e) e.1, hrem, ocall_some]
  (try simp only [])
  rw [G56_is 5000 l (by omega) (by omega) e.1, hnone, ocall_some]
  simp only [decide_true, Bool.not_true, sel_false]
  rw [same l (by omega), ocall_some]
  simp only [Bool.not_true, sel_false]
  rw [G61_is 5000 (by omega) _ (pl e hle) (pg e hge) (len e) e.2.1 f hlf hgf, ocall_some]
  by_cases hf : entryOK f = true
  case neg =>
    have hs : swapF (insL l e) e.2.1 f = (insL l e, 1) := by unfold swapF; rw [if_neg (fun h => hf h.2)]
    rw [hs]
    (try simp only [])
    rw [sel_not, sel_neg (by decide), sel_pos trivial, G53_is 5000 300 (by omega) (by omega) (by omega) f hlf hgf, ocall_some, Bool.eq_false_iff.2 hf]
    rfl
  have hs : swapF (insL l e) e.2.1 f = (insL l f, 0) := by
    unfold swapF
    rw [if_pos ⟨oki, hf⟩, hk, if_pos (ins_has l e), hgd, if_pos rfl, ins_pos, ins_set l e f hk]
  have hhf : hasAt l f.1 = false := by rw [hk]; exact hh
  have okf := ins_ok ok hf hhf h7
  obtain ⟨_, hof, _⟩ := shard_parts okf
  have hff : findE (insL l f) e.1 = some f := by rw [← hk]; exact ins_find l f hof
  have hs2 : (swapF (insL l f) e.2.1 e).2 = if f.2.1 = e.2.1 then 0 else 8 := by
    have h2 : hasAt (insL l f) e.1 = true := by rw [← hk]; exact ins_has l f
    have h3 : (insL l f).getD (posE (insL l f) e.1) zeroE = f := by rw [← hk, ins_pos, List.getD_eq_getElem?_getD, ins_get]; rfl
    unfold swapF
    rw [if_pos ⟨okf, he⟩, if_pos h2, h3]
    split <;> rfl
  rw [hs]
  simp only [decide_true, Bool.not_true, sel_false]
  rw [G56_is 5000 _ (by have := len f; omega) (by have := len f; omega) e.1, hff, ocall_some, G61_is 5000 (by omega) _ (pl f hlf) (pg f hgf) (len f) e.2.1 e hle hge, ocall_some, hs2]
  simp only [sel_true]
  rw [sameEE f f, decide_eq_true rfl, sel_true, G66_is 5000 (by omega) _ (pl f hlf) (pg f hgf) (len f), ocall_some, okf, ins_length, ins_length]
  simp only [sel_true, decide_true]
  by_cases c : f.2.1 = e.2.1
  · rw [if_pos c, decide_eq_true c]; rfl
  · rw [if_neg c, decide_eq_false c]; rfl
theorem main (l : List Entry) (e f : Entry) (key : Key) (hg : goodL l) (hge : goodE e) (hgf : goodE f) : G13 5000 (l, e, f, key, ()) = some (true, ()) := by
  have hSe := shortEntry 5000 e
  have hSf := shortEntry 5000 f
  have hK := short07 5000 key
  have hI := fun hl hn hle => G58_is 5000 (by omega) l hl hg hn e hle hge
  have il := ins_len l e
  have tl := fun hl hn hle hlf => tail l e (e.1, f.2) hl hg hn hle hge hlf ⟨hge.1, hgf.2⟩ rfl
  have hFo := G56_is 5000 l
  have hIl := ins_length l e
  have hIo := @ins_find_other l e key
  have hIf := ins_find l e
  have hIok := @ins_ok l e
  have hIhas := ins_has l e
  have hFm := fun hn hk => G56_is 5000 (insL l e) hn hk
  have hIm := fun hl hg hn hle => G58_is 5000 (by omega) (insL l e) hl hg hn e hle hge
  have hRm := fun hl hg hn => G66_is 5000 (by omega) (insL l e) hl hg hn
  have hi : insF l e = if shardOK l = true ∧ entryOK e = true then (if hasAt l e.1 = true then (l, 6) else if l.length = 128 then (l, 7) else (insL l e, 0)) else (l, 1) := rfl
  have him : insF (insL l e) e = if shardOK (insL l e) = true ∧ entryOK e = true then (if hasAt (insL l e) e.1 = true then (insL l e, 6) else if (insL l e).length = 128 then (insL l e, 7) else (insL (insL l e) e, 0)) else (insL l e, 1) := rfl
  have sEk := sameK key e.1
  have sEE := sameEE e e
  obtain ⟨b, hS, hS2⟩ := G55_is 5000 (by omega) l
  obtain ⟨⟨e1, e2, ⟨⟩⟩, e3, e4, e5, e6, e7, e8, ⟨⟩⟩ := e
  obtain ⟨⟨f1, f2, ⟨⟩⟩, f3, f4, f5, f6, f7, f8, ⟨⟩⟩ := f
  obtain ⟨k1, k2, ⟨⟩⟩ := key
  rw [G13_eq, G54_is 5000 (by omega), ocall_some]
  simp only [Bool.not_true, sel_false]
  rw [hS, ocall_some]
  cases b with
  | false => rfl
  | true =>
  obtain ⟨hn, hl⟩ := hS2 rfl
  simp only [Bool.not_true, sel_false]
  rw [hSe, ocall_some]
  by_cases hle : lensE 300 ((e1, e2, ()), e3, e4, e5, e6, e7, e8, ())
  case neg => rw [decide_eq_false hle]; rfl
  rw [decide_eq_true hle]
  simp only [Bool.not_true, sel_false]
  rw [hSf, ocall_some]
  by_cases hlf : lensE 300 ((f1, f2, ()), f3, f4, f5, f6, f7, f8, ())
  case neg => rw [decide_eq_false hlf]; rfl
  rw [decide_eq_true hlf]
  simp only [Bool.not_true, sel_false]
  rw [hK, ocall_some]
  (try simp only [])
  by_cases hkl : k2.length ≤ 300
  case neg => rw [decide_eq_false hkl]; rfl
  rw [decide_eq_true hkl]
  simp only [Bool.not_true, sel_false]
  rw [hI hl (by omega) hle, ocall_some]
  by_cases c : shardOK l = true ∧ entryOK ((e1, e2, ()), e3, e4, e5, e6, e7, e8, ()) = true
  case neg =>
    rw [if_neg c] at hi
    rw [hi]
    (try simp only [])
    rw [sel_not, sel_neg (by decide), same l (by omega), ocall_some]
  rw [if_pos c] at hi
  by_cases c6 : hasAt l (e1, e2, ()) = true
  · rw [if_pos c6] at hi
    rw [hi]
    (try simp only [])
    rw [sel_not, sel_neg (by decide), same l (by omega), ocall_some]
  rw [if_neg c6] at hi
  by_cases c7 : l.length = 128
  · rw [if_pos c7] at hi
    rw [hi]
    (try simp only [])
    rw [sel_not, sel_neg (by decide), same l (by omega), ocall_some]
  rw [if_neg c7] at hi
  have hh : hasAt l (e1, e2, ()) = false := Bool.eq_false_iff.2 c6
  have oki := hIok c.1 c.2 hh c7
  obtain ⟨_, hoi, _⟩ := shard_parts oki
  have hIf := hIf hoi
  have pl : lensL (insL l ((e1, e2, ()), e3, e4, e5, e6, e7, e8, ())) := fun x hx => by
    rcases ins_mem hx with h' | h'
    · exact hl x h'
    · rw [h']; exact hle
  have pg : goodL (insL l ((e1, e2, ()), e3, e4, e5, e6, e7, e8, ())) := fun x hx => by
    rcases ins_mem hx with h' | h'
    · exact hg x h'
    · rw [h']; exact hge
  rw [if_pos ⟨oki, c.2⟩, if_pos hIhas] at him
  have tl := tl hl hn hle ⟨hle.1, hlf.2⟩ c.1 c.2 hh c7
  have hFm1 := hFm (by omega) (by omega) (e1, e2, ())
  have hFm2 := hFm (by omega) (by omega) (k1, k2, ())
  have hFo := hFo (by omega) (by omega) (k1, k2, ())
  have hIm := hIm pl pg (by omega) hle
  have hRm := hRm pl pg (by omega)
  rw [hIf] at hFm1
  rw [him] at hIm
  rw [oki] at hRm
  rw [hi]
  generalize insL l ((e1, e2, ()), e3, e4, e5, e6, e7, e8, ()) = m at *
  (try simp only [] at sEk sEE tl hFm1 hIm ⊢)
  rw [sel_not, sel_pos trivial, hFm1, ocall_some, hFo, ocall_some, hFm2, ocall_some, hIm, ocall_some, hRm, ocall_some]
  simp only [Bool.not_true, sel_false, sEE, decide_true, sEk]
  by_cases ck : ((k1, k2, ()) : Key) = (e1, e2, ())
  · rw [decide_eq_true ck]
    simp only [Bool.not_true, sel_false]
    exact tl
  · rw [decide_eq_false ck, hIo ck]
    simp only [Bool.not_false, sel_true]
    cases findE l (k1, k2, ()) with
    | none =>
      (try simp only [])
      rw [sameEE zeroE zeroE, decide_eq_true rfl]
      simp only [Bool.not_true, sel_false, beq_self_eq_true]
      exact tl
    | some y =>
      (try simp only [])
      rw [sameEE y y, decide_eq_true rfl]
      simp only [Bool.not_true, sel_false, beq_self_eq_true]
      exact tl
theorem pure (x0 : Ty.den (.slice (.st (.cons (.st (.cons (.int .u32) (.cons .str .nil))) (.cons (.int .i64) (.cons .str (.cons (.int .u64) (.cons .str (.cons (.int .i64) (.cons (.int .i64) .nil)))))))))) (x1 : Ty.den (.st (.cons (.st (.cons (.int .u32) (.cons .str .nil))) (.cons (.int .i64) (.cons .str (.cons (.int .u64) (.cons .str (.cons (.int .i64) (.cons (.int .i64) .nil))))))))) (x2 : Ty.den (.st (.cons (.st (.cons (.int .u32) (.cons .str .nil))) (.cons (.int .i64) (.cons .str (.cons (.int .u64) (.cons .str (.cons (.int .i64) (.cons (.int .i64) .nil))))))))) (x3 : Ty.den (.st (.cons (.int .u32) (.cons .str .nil)))) (g0 : Ty.Good (.slice (.st (.cons (.st (.cons (.int .u32) (.cons .str .nil))) (.cons (.int .i64) (.cons .str (.cons (.int .u64) (.cons .str (.cons (.int .i64) (.cons (.int .i64) .nil))))))))) x0) (g1 : Ty.Good (.st (.cons (.st (.cons (.int .u32) (.cons .str .nil))) (.cons (.int .i64) (.cons .str (.cons (.int .u64) (.cons .str (.cons (.int .i64) (.cons (.int .i64) .nil)))))))) x1) (g2 : Ty.Good (.st (.cons (.st (.cons (.int .u32) (.cons .str .nil))) (.cons (.int .i64) (.cons .str (.cons (.int .u64) (.cons .str (.cons (.int .i64) (.cons (.int .i64) .nil)))))))) x2) (g3 : Ty.Good (.st (.cons (.int .u32) (.cons .str .nil))) x3) : ∃ k, F13 k (x0, (x1, (x2, (x3, PUnit.unit)))) = some (true, PUnit.unit) :=
  ⟨5000, main x0 x1 x2 x3 (fun e he => have h := g0.2.2 e he; ⟨good_u32 h.1.1, good_u64 h.2.2.2.1⟩) ⟨good_u32 g1.1.1, good_u64 g1.2.2.2.1⟩ ⟨good_u32 g2.1.1, good_u64 g2.2.2.2.1⟩⟩
end Go.Proofs.YtjgnpmdbkgeakaaDoor.PureShardSwaps
end
section
set_option linter.unusedVariables false
set_option linter.unusedSimpArgs false
namespace Go.Proofs.YtjgnpmdbkgeakaaDoor
open Go Go.ChangeShapes Go.WideShapes Go.ChangeAt Go.RowKit Th
theorem own : ownKnob Tryd.prog.godebug = none := by kernel_rfl
theorem laidOut : laidOutB Tryd.prog = true := by kernel_rfl
theorem gTypes : Tryd.prog.globalNamed "paydesk/deal.types" = some 0 := by kernel_rfl
theorem tTypes : (Tryd.prog.globals[0]?).map (·.type) = some 229 := by kernel_rfl
theorem mapsRowed' : mapsRowed Tryd.prog = true := by kernel_rfl
theorem stopsHeard' : Tryd.prog.stopsHeard = true := by kernel_rfl
theorem stops' : Tryd.prog.stops = [] := by kernel_rfl
theorem stopKnobs' : Tryd.prog.stopKnobs = [] := by kernel_rfl
theorem plainKeys' : Tryd.prog.plainKeys = Rows.keyRightRow.plainKeys := by kernel_rfl
def ioL : List Char := [Char.ofNat 104, Char.ofNat 97, Char.ofNat 114, Char.ofNat 110, Char.ofNat 101, Char.ofNat 115, Char.ofNat 115, Char.ofNat 32, Char.ofNat 52, Char.ofNat 98, Char.ofNat 55, Char.ofNat 54, Char.ofNat 48, Char.ofNat 97, Char.ofNat 99, Char.ofNat 102, Char.ofNat 49, Char.ofNat 97, Char.ofNat 100, Char.ofNat 99, Char.ofNat 54, Char.ofNat 100, Char.ofNat 51, Char.ofNat 54, Char.ofNat 49, Char.ofNat 50, Char.ofNat 51, Char.ofNat 50, Char.ofNat 57, Char.ofNat 97, Char.ofNat 98, Char.ofNat 51, Char.ofNat 99, Char.ofNat 50, Char.ofNat 48, Char.ofNat 101, Char.ofNat 99, Char.ofNat 48, Char.ofNat 49, Char.ofNat 52, Char.ofNat 53, Char.ofNat 53, Char.ofNat 56, Char.ofNat 101, Char.ofNat 50, Char.ofNat 54, Char.ofNat 55, Char.ofNat 99, Char.ofNat 52, Char.ofNat 57, Char.ofNat 52, Char.ofNat 101, Char.ofNat 54, Char.ofNat 53, Char.ofNat 52, Char.ofNat 48, Char.ofNat 49, Char.ofNat 57, Char.ofNat 99, Char.ofNat 97, Char.ofNat 98, Char.ofNat 49, Char.ofNat 57, Char.ofNat 50, Char.ofNat 49, Char.ofNat 49, Char.ofNat 98, Char.ofNat 102, Char.ofNat 49, Char.ofNat 57, Char.ofNat 54, Char.ofNat 49, Char.ofNat 32, Char.ofNat 99, Char.ofNat 117, Char.ofNat 116, Char.ofNat 32, Char.ofNat 97, Char.ofNat 116, Char.ofNat 32, Char.ofNat 112, Char.ofNat 97, Char.ofNat 121, Char.ofNat 100, Char.ofNat 101, Char.ofNat 115, Char.ofNat 107, Char.ofNat 47, Char.ofNat 112, Char.ofNat 97, Char.ofNat 121, Char.ofNat 100, Char.ofNat 101, Char.ofNat 115, Char.ofNat 107, Char.ofNat 108, Char.ofNat 97, Char.ofNat 119, Char.ofNat 48, Char.ofNat 55, Char.ofNat 46, Char.ofNat 75, Char.ofNat 101, Char.ofNat 121, Char.ofNat 82, Char.ofNat 105, Char.ofNat 103, Char.ofNat 104, Char.ofNat 116, Char.ofNat 32, Char.ofNat 112, Char.ofNat 97, Char.ofNat 121, Char.ofNat 100, Char.ofNat 101, Char.ofNat 115, Char.ofNat 107, Char.ofNat 47, Char.ofNat 112, Char.ofNat 97, Char.ofNat 121, Char.ofNat 100, Char.ofNat 101, Char.ofNat 115, Char.ofNat 107, Char.ofNat 108, Char.ofNat 97, Char.ofNat 119, Char.ofNat 48, Char.ofNat 55, Char.ofNat 46, Char.ofNat 75, Char.ofNat 101, Char.ofNat 121, Char.ofNat 79, Char.ofNat 114, Char.ofNat 100, Char.ofNat 101, Char.ofNat 114, Char.ofNat 32, Char.ofNat 112, Char.ofNat 97, Char.ofNat 121, Char.ofNat 100, Char.ofNat 101, Char.ofNat 115, Char.ofNat 107, Char.ofNat 47, Char.ofNat 112, Char.ofNat 97, Char.ofNat 121, Char.ofNat 100, Char.ofNat 101, Char.ofNat 115, Char.ofNat 107, Char.ofNat 108, Char.ofNat 97, Char.ofNat 119, Char.ofNat 48, Char.ofNat 55, Char.ofNat 46, Char.ofNat 75, Char.ofNat 101, Char.ofNat 121, Char.ofNat 83, Char.ofNat 104, Char.ofNat 97, Char.ofNat 114, Char.ofNat 100, Char.ofNat 115, Char.ofNat 32, Char.ofNat 112, Char.ofNat 97, Char.ofNat 121, Char.ofNat 100, Char.ofNat 101, Char.ofNat 115, Char.ofNat 107, Char.ofNat 47, Char.ofNat 112, Char.ofNat 97, Char.ofNat 121, Char.ofNat 100, Char.ofNat 101, Char.ofNat 115, Char.ofNat 107, Char.ofNat 108, Char.ofNat 97, Char.ofNat 119, Char.ofNat 48, Char.ofNat 54, Char.ofNat 46, Char.ofNat 68, Char.ofNat 101, Char.ofNat 97, Char.ofNat 108, Char.ofNat 82, Char.ofNat 105, Char.ofNat 103, Char.ofNat 104, Char.ofNat 116, Char.ofNat 32, Char.ofNat 112, Char.ofNat 97, Char.ofNat 121, Char.ofNat 100, Char.ofNat 101, Char.ofNat 115, Char.ofNat 107, Char.ofNat 47, Char.ofNat 112, Char.ofNat 97, Char.ofNat 121, Char.ofNat 100, Char.ofNat 101, Char.ofNat 115, Char.ofNat 107, Char.ofNat 108, Char.ofNat 97, Char.ofNat 119, Char.ofNat 48, Char.ofNat 54, Char.ofNat 46, Char.ofNat 68, Char.ofNat 101, Char.ofNat 97, Char.ofNat 108, Char.ofNat 66, Char.ofNat 97, Char.ofNat 99, Char.ofNat 107, Char.ofNat 32, Char.ofNat 112, Char.ofNat 97, Char.ofNat 121, Char.ofNat 100, Char.ofNat 101, Char.ofNat 115, Char.ofNat 107, Char.ofNat 47, Char.ofNat 112, Char.ofNat 97, Char.ofNat 121, Char.ofNat 100, Char.ofNat 101, Char.ofNat 115, Char.ofNat 107, Char.ofNat 108, Char.ofNat 97, Char.ofNat 119, Char.ofNat 49, Char.ofNat 50, Char.ofNat 46, Char.ofNat 67, Char.ofNat 111, Char.ofNat 114, Char.ofNat 101, Char.ofNat 82, Char.ofNat 105, Char.ofNat 103, Char.ofNat 104, Char.ofNat 116, Char.ofNat 32, Char.ofNat 112, Char.ofNat 97, Char.ofNat 121, Char.ofNat 100, Char.ofNat 101, Char.ofNat 115, Char.ofNat 107, Char.ofNat 47, Char.ofNat 112, Char.ofNat 97, Char.ofNat 121, Char.ofNat 100, Char.ofNat 101, Char.ofNat 115, Char.ofNat 107, Char.ofNat 108, Char.ofNat 97, Char.ofNat 119, Char.ofNat 49, Char.ofNat 50, Char.ofNat 46, Char.ofNat 67, Char.ofNat 111, Char.ofNat 114, Char.ofNat 101, Char.ofNat 83, Char.ofNat 116, Char.ofNat 101, Char.ofNat 112, Char.ofNat 115, Char.ofNat 32, Char.ofNat 112, Char.ofNat 97, Char.ofNat 121, Char.ofNat 100, Char.ofNat 101, Char.ofNat 115, Char.ofNat 107, Char.ofNat 47, Char.ofNat 112, Char.ofNat 97, Char.ofNat 121, Char.ofNat 100, Char.ofNat 101, Char.ofNat 115, Char.ofNat 107, Char.ofNat 108, Char.ofNat 97, Char.ofNat 119, Char.ofNat 49, Char.ofNat 50, Char.ofNat 46, Char.ofNat 67, Char.ofNat 111, Char.ofNat 114, Char.ofNat 101, Char.ofNat 79, Char.ofNat 110, Char.ofNat 99, Char.ofNat 101, Char.ofNat 32, Char.ofNat 112, Char.ofNat 97, Char.ofNat 121, Char.ofNat 100, Char.ofNat 101, Char.ofNat 115, Char.ofNat 107, Char.ofNat 47, Char.ofNat 112, Char.ofNat 97, Char.ofNat 121, Char.ofNat 100, Char.ofNat 101, Char.ofNat 115, Char.ofNat 107, Char.ofNat 108, Char.ofNat 97, Char.ofNat 119, Char.ofNat 49, Char.ofNat 50, Char.ofNat 46, Char.ofNat 67, Char.ofNat 111, Char.ofNat 114, Char.ofNat 101, Char.ofNat 82, Char.ofNat 101, Char.ofNat 115, Char.ofNat 116, Char.ofNat 115, Char.ofNat 32, Char.ofNat 112, Char.ofNat 97, Char.ofNat 121, Char.ofNat 100, Char.ofNat 101, Char.ofNat 115, Char.ofNat 107, Char.ofNat 47, Char.ofNat 112, Char.ofNat 97, Char.ofNat 121, Char.ofNat 100, Char.ofNat 101, Char.ofNat 115, Char.ofNat 107, Char.ofNat 108, Char.ofNat 97, Char.ofNat 119, Char.ofNat 49, Char.ofNat 48, Char.ofNat 46, Char.ofNat 83, Char.ofNat 104, Char.ofNat 97, Char.ofNat 114, Char.ofNat 100, Char.ofNat 82, Char.ofNat 105, Char.ofNat 103, Char.ofNat 104, Char.ofNat 116, Char.ofNat 32, Char.ofNat 112, Char.ofNat 97, Char.ofNat 121, Char.ofNat 100, Char.ofNat 101, Char.ofNat 115, Char.ofNat 107, Char.ofNat 47, Char.ofNat 112, Char.ofNat 97, Char.ofNat 121, Char.ofNat 100, Char.ofNat 101, Char.ofNat 115, Char.ofNat 107, Char.ofNat 108, Char.ofNat 97, Char.ofNat 119, Char.ofNat 49, Char.ofNat 48, Char.ofNat 46, Char.ofNat 83, Char.ofNat 104, Char.ofNat 97, Char.ofNat 114, Char.ofNat 100, Char.ofNat 83, Char.ofNat 119, Char.ofNat 97, Char.ofNat 112, Char.ofNat 115, Char.ofNat 32, Char.ofNat 112, Char.ofNat 97, Char.ofNat 121, Char.ofNat 100, Char.ofNat 101, Char.ofNat 115, Char.ofNat 107, Char.ofNat 47, Char.ofNat 112, Char.ofNat 97, Char.ofNat 121, Char.ofNat 100, Char.ofNat 101, Char.ofNat 115, Char.ofNat 107, Char.ofNat 108, Char.ofNat 97, Char.ofNat 119, Char.ofNat 49, Char.ofNat 53, Char.ofNat 46, Char.ofNat 76, Char.ofNat 101, Char.ofNat 100, Char.ofNat 103, Char.ofNat 101, Char.ofNat 114, Char.ofNat 82, Char.ofNat 105, Char.ofNat 103, Char.ofNat 104, Char.ofNat 116, Char.ofNat 32, Char.ofNat 112, Char.ofNat 97, Char.ofNat 121, Char.ofNat 100, Char.ofNat 101, Char.ofNat 115, Char.ofNat 107, Char.ofNat 47, Char.ofNat 112, Char.ofNat 97, Char.ofNat 121, Char.ofNat 100, Char.ofNat 101, Char.ofNat 115, Char.ofNat 107, Char.ofNat 108, Char.ofNat 97, Char.ofNat 119, Char.ofNat 49, Char.ofNat 53, Char.ofNat 46, Char.ofNat 76, Char.ofNat 101, Char.ofNat 100, Char.ofNat 103, Char.ofNat 101, Char.ofNat 114, Char.ofNat 79, Char.ofNat 110, Char.ofNat 99, Char.ofNat 101, Char.ofNat 32, Char.ofNat 112, Char.ofNat 97, Char.ofNat 121, Char.ofNat 100, Char.ofNat 101, Char.ofNat 115, Char.ofNat 107, Char.ofNat 47, Char.ofNat 112, Char.ofNat 97, Char.ofNat 121, Char.ofNat 100, Char.ofNat 101, Char.ofNat 115, Char.ofNat 107, Char.ofNat 108, Char.ofNat 97, Char.ofNat 119, Char.ofNat 49, Char.ofNat 53, Char.ofNat 46, Char.ofNat 76, Char.ofNat 101, Char.ofNat 100, Char.ofNat 103, Char.ofNat 101, Char.ofNat 114, Char.ofNat 84, Char.ofNat 119, Char.ofNat 105, Char.ofNat 99, Char.ofNat 101, Char.ofNat 32, Char.ofNat 112, Char.ofNat 97, Char.ofNat 121, Char.ofNat 100, Char.ofNat 101, Char.ofNat 115, Char.ofNat 107, Char.ofNat 47, Char.ofNat 112, Char.ofNat 97, Char.ofNat 121, Char.ofNat 100, Char.ofNat 101, Char.ofNat 115, Char.ofNat 107, Char.ofNat 108, Char.ofNat 97, Char.ofNat 119, Char.ofNat 48, Char.ofNat 54, Char.ofNat 46, Char.ofNat 68, Char.ofNat 101, Char.ofNat 97, Char.ofNat 108, Char.ofNat 66, Char.ofNat 121, Char.ofNat 116, Char.ofNat 101, Char.ofNat 115, Char.ofNat 32, Char.ofNat 112, Char.ofNat 97, Char.ofNat 121, Char.ofNat 100, Char.ofNat 101, Char.ofNat 115, Char.ofNat 107, Char.ofNat 47, Char.ofNat 112, Char.ofNat 97, Char.ofNat 121, Char.ofNat 100, Char.ofNat 101, Char.ofNat 115, Char.ofNat 107, Char.ofNat 108, Char.ofNat 97, Char.ofNat 119, Char.ofNat 49, Char.ofNat 52, Char.ofNat 46, Char.ofNat 76, Char.ofNat 105, Char.ofNat 110, Char.ofNat 101, Char.ofNat 82, Char.ofNat 105, Char.ofNat 103, Char.ofNat 104, Char.ofNat 116, Char.ofNat 32, Char.ofNat 112, Char.ofNat 97, Char.ofNat 121, Char.ofNat 100, Char.ofNat 101, Char.ofNat 115, Char.ofNat 107, Char.ofNat 47, Char.ofNat 112, Char.ofNat 97, Char.ofNat 121, Char.ofNat 100, Char.ofNat 101, Char.ofNat 115, Char.ofNat 107, Char.ofNat 108, Char.ofNat 97, Char.ofNat 119, Char.ofNat 49, Char.ofNat 52, Char.ofNat 46, Char.ofNat 76, Char.ofNat 105, Char.ofNat 110, Char.ofNat 101, Char.ofNat 80, Char.ofNat 97, Char.ofNat 114, Char.ofNat 116, Char.ofNat 115, Char.ofNat 32, Char.ofNat 112, Char.ofNat 97, Char.ofNat 121, Char.ofNat 100, Char.ofNat 101, Char.ofNat 115, Char.ofNat 107, Char.ofNat 47, Char.ofNat 112, Char.ofNat 97, Char.ofNat 121, Char.ofNat 100, Char.ofNat 101, Char.ofNat 115, Char.ofNat 107, Char.ofNat 108, Char.ofNat 97, Char.ofNat 119, Char.ofNat 49, Char.ofNat 52, Char.ofNat 46, Char.ofNat 76, Char.ofNat 105, Char.ofNat 110, Char.ofNat 101, Char.ofNat 69, Char.ofNat 118, Char.ofNat 101, Char.ofNat 110, Char.ofNat 116, Char.ofNat 115, Char.ofNat 32, Char.ofNat 112, Char.ofNat 97, Char.ofNat 121, Char.ofNat 100, Char.ofNat 101, Char.ofNat 115, Char.ofNat 107, Char.ofNat 47, Char.ofNat 112, Char.ofNat 97, Char.ofNat 121, Char.ofNat 100, Char.ofNat 101, Char.ofNat 115, Char.ofNat 107, Char.ofNat 108, Char.ofNat 97, Char.ofNat 119, Char.ofNat 49, Char.ofNat 55, Char.ofNat 46, Char.ofNat 80, Char.ofNat 111, Char.ofNat 115, Char.ofNat 116, Char.ofNat 66, Char.ofNat 97, Char.ofNat 99, Char.ofNat 107, Char.ofNat 32, Char.ofNat 112, Char.ofNat 97, Char.ofNat 121, Char.ofNat 100, Char.ofNat 101, Char.ofNat 115, Char.ofNat 107, Char.ofNat 47, Char.ofNat 112, Char.ofNat 97, Char.ofNat 121, Char.ofNat 100, Char.ofNat 101, Char.ofNat 115, Char.ofNat 107, Char.ofNat 108, Char.ofNat 97, Char.ofNat 119, Char.ofNat 50, Char.ofNat 49, Char.ofNat 46, Char.ofNat 84, Char.ofNat 114, Char.ofNat 97, Char.ofNat 99, Char.ofNat 101, Char.ofNat 79, Char.ofNat 116, Char.ofNat 104, Char.ofNat 101, Char.ofNat 114, Char.ofNat 115]
theorem io0 : Tryd.prog.initOrder = String.ofList ioL := by kernel_rfl
theorem io : Tryd.prog.initOrder.toList = ioL := by rw [io0, String.toList_ofList]
def ioW : List (List Char) := wordsSigns ioL
theorem ws : wordsSigns Tryd.prog.initOrder.toList = ioW := by rw [io]; rfl
def mainOf (l : List (List Char)) : Option (Bool × List Char) := match l with
  | h :: s :: _ => if !isSumSigns s then none else if h == "harness".toList then some (true, s) else if h == "ownmain".toList then some (false, s) else none
  | _ => none
theorem mainIs_of {P : Program} {W : List (List Char)} (h : wordsSigns P.initOrder.toList = W) : P.mainIs = mainOf W := by
  unfold Program.mainIs; rw [h]; rfl
theorem sha : (ioL.drop 8).take 64 = "4b760acf1adc6d3612329ab3c20ec014558e267c494e654019cab19211bf1961".toList := by
  have : "4b760acf1adc6d3612329ab3c20ec014558e267c494e654019cab19211bf1961" = String.ofList ((ioL.drop 8).take 64) := by kernel_rfl
  rw [this, String.toList_ofList]
theorem main0 : mainOf ioW = some (true, (ioL.drop 8).take 64) := by kernel_rfl
theorem mainIs' : Tryd.prog.mainIs = some (true, "4b760acf1adc6d3612329ab3c20ec014558e267c494e654019cab19211bf1961".toList) := by
  rw [← sha, ← main0]; exact mainIs_of ws
def mayOf (l : List (List Char)) (laysLater bearsReflect : Bool) (fits : List String → Bool) : Bool := match behindMainWord l with
  | c :: rest =>
    ((c == "gc".toList || c == "spec".toList) && (rest.isEmpty || rest.head? == some "stop".toList)) ||
    (c == "carried".toList && rest.take 2 == ["gc".toList, "cut".toList] && !laysLater && !bearsReflect) ||
    ((stripLifts liftWords (c :: rest)).2.head? == some "cut".toList &&
      ((stripLifts liftWords (c :: rest)).1.contains "finals" || !laysLater) && ((stripLifts liftWords (c :: rest)).1.contains "reflectrows" || !bearsReflect) &&
      ((stripLifts liftWords (c :: rest)).1.contains "reflectrows" || !(stripLifts liftWords (c :: rest)).1.contains "leanrows") &&
      fits (stripLifts liftWords (c :: rest)).1)
  | [] => false
theorem may_of {P : Program} {W : List (List Char)} (h : wordsSigns P.initOrder.toList = W) : P.mayEnter = mayOf W P.laysLater P.bearsReflect P.doorFits := by
  unfold Program.mayEnter; rw [h]; rfl
theorem lays : Tryd.prog.laysLater = false := by kernel_rfl
theorem bears : Tryd.prog.bearsReflect = false := by kernel_rfl
theorem strip0 : mayOf ioW false false (fun l => decide (l = [])) = true := by kernel_rfl
theorem fits0 : Tryd.prog.doorFits [] = true := by kernel_rfl
theorem may_mono {W : List (List Char)} {a b : Bool} {f g : List String → Bool} (hfg : ∀ l, f l = true → g l = true) (h : mayOf W a b f = true) : mayOf W a b g = true := by
  unfold mayOf at h ⊢
  split at h
  · simp only [Bool.or_eq_true, Bool.and_eq_true] at h ⊢
    rcases h with (h | h) | h
    · exact .inl (.inl h)
    · exact .inl (.inr h)
    · exact .inr ⟨h.1, hfg _ h.2⟩
  · exact h
theorem mayEnter' : Tryd.prog.mayEnter = true := by
  rw [may_of ws, lays, bears]
  exact may_mono (fun l h => by rw [decide_eq_true_eq] at h; rw [h]; exact fits0) strip0
def liftsOf (l : List (List Char)) : List String :=
  let r := stripLifts liftWords (behindMainWord l)
  if r.2.head? == some "cut".toList then r.1 else []
theorem headLifts_of {P : Program} {W : List (List Char)} (h : wordsSigns P.initOrder.toList = W) : P.headLifts = liftsOf W := by
  unfold Program.headLifts; rw [h]; rfl
theorem headLifts' : Tryd.prog.headLifts = [] := (headLifts_of ws).trans (by kernel_rfl)
def finalOf (l : List (List Char)) (hl : List String) : Bool :=
  let ws := behindMainWord l
  (ws.head? == some "carried".toList && ws.take 3 != ["carried".toList, "gc".toList, "cut".toList]) || hl.contains "finals"
theorem liftsFinal_of {P : Program} {W : List (List Char)} (h : wordsSigns P.initOrder.toList = W) : P.liftsFinal = finalOf W P.headLifts := by
  unfold Program.liftsFinal; rw [h]; rfl
theorem liftsFinal' : Tryd.prog.liftsFinal = Rows.keyRightRow.lifted := by rw [liftsFinal_of ws, headLifts']; kernel_rfl
def makeOf (l : List (List Char)) (hl : List String) : Option Make :=
  match behindMainWord l with
  | c :: rest => if c == "gc".toList || c == "spec".toList then some .whole else if c == "cut".toList || (c == "finals".toList && rest.head? == some "cut".toList) then some .cut else if c == "carried".toList then some .carried else if hl.isEmpty then none else some (.lifted hl)
  | [] => none
theorem make_of {P : Program} {W : List (List Char)} (h : wordsSigns P.initOrder.toList = W) : P.make = makeOf W P.headLifts := by
  unfold Program.make; rw [h]; rfl
theorem make' : Tryd.prog.make = some Rows.keyRightRow.make := by rw [make_of ws, headLifts']; kernel_rfl
abbrev laidL : List (String × DataW Unit) := [("paydesk/deal.types", Rows.laid_paydesk_deal_types)]
theorem door_met (os : Os) (args : Array Value) : laidMetH Tryd.prog laidL ((World.doorLaid Tryd.prog 400 os).forCall (fun _ _ => 0) ⟨#[], args, []⟩).memory :=
  laidMetH_of_parts3 (fuel := 8) (laidMet_of_run' 8 (by kernel_rfl) (by kernel_rfl)) (by kernel_rfl) (by kernel_rfl)
theorem glob_of_laid {W : World} (h : laidMetH Tryd.prog laidL W) : GlobOK W (Old W) := by
  rw [MakeChecks.laidMetH_plain _ _ _ (by kernel_rfl)] at h
  obtain ⟨ps, ⟨g0, t0, cs0, f0, p0, q0, hg0, ht0, hv0, hd0, _, _⟩, _, _⟩ := h
  obtain rfl := Option.some.inj (gTypes.symm.trans hg0)
  obtain rfl := Option.some.inj (tTypes.symm.trans ht0)
  obtain ⟨xs, m1, rfl, hx1, hlen, hn8, hel⟩ := DataW.trod_array Tryd.underlying229 hd0
  have c9 : Tryd.prog.cellsOf 9 = 1 := by kernel_rfl
  have cA : Tryd.prog.cellsOf 229 = 8 := by kernel_rfl
  simp only [Prod.mk.injEq] at hx1
  have hx1 : (DataW.agg [.lit (.string []), .lit (.string [48, 49, 48, 48]), .lit (.string [48, 49, 49, 48]), .lit (.string [48, 52, 48, 48]), .lit (.string [48, 52, 49, 48]), .lit (.string [48, 52, 50, 48]), .lit (.string [48, 52, 50, 49]), .lit (.string [48, 52, 51, 48])] : DataW Unit) = .agg (xs.map (·.1)) := hx1.1
  simp only [DataW.agg.injEq] at hx1
  have key : ∀ (j : Nat) (s : List UInt8), ([[], [48, 49, 48, 48], [48, 49, 49, 48], [48, 52, 48, 48], [48, 52, 49, 48], [48, 52, 50, 48], [48, 52, 50, 49], [48, 52, 51, 48]] : List (List UInt8))[j]? = some s → W.cell? ⟨0, j, none⟩ = some (strV s) := by
    intro j s hs
    have hj : j < 8 := by have := (List.getElem?_eq_some_iff.1 hs).1; simpa using this
    have he := hel j hj
    rw [c9, Nat.mul_one] at he
    have hxj : xs[j]? = some xs[j] := by simp [show j < xs.length by omega]
    rw [hxj] at he
    obtain ⟨b, e1, e2, _⟩ := DataW.trod_string Tryd.underlying9 he
    have hlit : xs[j].1 = .lit (.string s) := by
      have e3 : (xs.map (·.1))[j]? = some xs[j].1 := by rw [List.getElem?_map, hxj]; rfl
      rw [← hx1] at e3
      have h8 : j = 0 ∨ j = 1 ∨ j = 2 ∨ j = 3 ∨ j = 4 ∨ j = 5 ∨ j = 6 ∨ j = 7 := by omega
      rcases h8 with rfl | rfl | rfl | rfl | rfl | rfl | rfl | rfl <;> (simp only [List.getElem?_cons_zero, List.getElem?_cons_succ, Option.some.injEq] at e3 hs; subst hs; exact e3.symm)
    rw [e2] at hlit
    have hb : b.data.toList = s := by simpa using hlit
    have hc : cs0[j]? = some (.string b) := by
      have : (cs0.toList.drop j).take 1 = [.string b] := e1
      have h1 : ((cs0.toList.drop j).take 1)[0]? = some (.string b) := by rw [this]; rfl
      rw [List.getElem?_take_of_lt (by omega), List.getElem?_drop, Nat.add_zero, Array.getElem?_toList] at h1
      exact h1
    rw [World.var?_cell gTypes hv0 j, hc]
    unfold strV
    rw [← hb]
  have h0 : 0 < W.heap.size := by
    have := key 0 [] rfl
    unfold World.cell? at this
    split at this
    · rename_i hb; exact (Array.getElem?_eq_some_iff.1 hb).1
    · cases this
  intro n r hr
  have hn : n = 0 := by
    unfold gtab at hr
    cases hb : Nat.beq n 0 with
    | false => rw [hb] at hr; cases hr
    | true => exact Nat.eq_of_beq_eq_true hb
  subst hn
  have hr : r = ⟨9, .str, [[], [48, 49, 48, 48], [48, 49, 49, 48], [48, 52, 48, 48], [48, 52, 49, 48], [48, 52, 50, 48], [48, 52, 50, 49], [48, 52, 51, 48]]⟩ := (Option.some.inj hr).symm
  subst hr
  refine ⟨_, rfl, fun j x hx => ⟨[strV x], rfl, fun i u hu => ?_, rfl⟩⟩
  have hi : i = 0 := by have := (List.getElem?_eq_some_iff.1 hu).1; simp at this; omega
  subst hi
  have hu : u = strV x := by simpa using hu.symm
  subst hu
  have ha : (⟨0, 0, none⟩ : Addr).add (j * (Ty.size .str) + 0) = ⟨0, j, none⟩ := by
    show (⟨0, 0, none⟩ : Addr).add (j * 1 + 0) = _
    unfold Addr.add; split <;> simp_all
  rw [ha]
  exact ⟨key j x hx, h0⟩
end Go.Proofs.YtjgnpmdbkgeakaaDoor
end
section
set_option linter.unusedVariables false
set_option linter.unusedSimpArgs false
namespace Go.Proofs.YtjgnpmdbkgeakaaDoor.shardSwaps
open Go.ChangeShapes Go.WideShapes Go.ChangeAt Go.RowKit Go.Proofs.YtjgnpmdbkgeakaaDoor Th G
open Go.ChangeMaps (open_string shut_string)
theorem own : ownKnob Tryd.prog.godebug = none := by kernel_rfl
theorem laidOut : laidOutB Tryd.prog = true := by kernel_rfl
set_option maxRecDepth 100000 in
theorem lifted (os : Os) (started : os.Started) (H : Type) (enc : TypeId × Value → H) :
    ReturnsInHanded {} Tryd.checked os 13 .any (fun w args => (Rows.shardSwapsSpec.pre enc Tryd.prog Tryd.f13 [] false w args ∧ laidMetH Tryd.prog laidL w) ∧ sizedMet enc Tryd.prog Tryd.f13 (OpenSpec.ofChange Rows.shardSwapsSpec) false w args) (Rows.shardSwapsSpec.post enc Tryd.prog Tryd.f13 false true false false) := by
  refine returnsInHanded_of_change_and (C := Tryd.checked) (X := fun w _ => laidMetH Tryd.prog laidL w) (fun _ _ _ hh h => h.of_heap hh) own started (by kernel_rfl) Tryd.func13
    (ChangeSpec.witness_shaped (enc := enc) (C := Tryd.checked) (os := os) (X := fun w _ => laidMetH Tryd.prog laidL w) false (World.doorLaid Tryd.prog 400 os) #[.slice none 0 0, .agg #[.int .u32 0, .string ByteArray.empty, .int .i64 0, .string ByteArray.empty, .int .u64 0, .string ByteArray.empty, .int .i64 0, .int .i64 0], .agg #[.int .u32 0, .string ByteArray.empty, .int .i64 0, .string ByteArray.empty, .int .u64 0, .string ByteArray.empty, .int .i64 0, .int .i64 0], .agg #[.int .u32 0, .string ByteArray.empty]] 8 rfl (World.shaped_of_RefB (by kernel_rfl) (by kernel_rfl)) (by kernel_rfl) (by kernel_rfl) (by kernel_rfl) (door_met os _)) ?_
  intro W base args ds gs before hval0 hW hcnd hsz0 hL _
  have hsz : (DataW.weightsEach Tryd.prog (Tryd.f13.params.toList ++ Rows.shardSwapsSpec.plain.varTypes Tryd.prog) (ds ++ gs)).all (· ≤ reachBytes) = true := hsz0
  have hval : ∀ (j : Nat) t v, Tryd.f13.params[j]? = some t → args[j]? = some v → Value.okWide Tryd.prog W .any base t v := hval0
  have hW' := hW
  obtain ⟨p, q, hA0, hV, rfl, hfz, hnd⟩ := hW
  have hA : DataW.TrodAll enc Tryd.prog W 0 (fun _ => true) true Tryd.f13.params.toList args.toList ds p := hA0
  rw [Tryd.params13] at hA hval hsz
  obtain ⟨v0, vs0, d0, ds0, p0, q0, hargs, rfl, rfl, h0, r0⟩ := trodAll_cons hA
  obtain ⟨v1, vs1, d1, ds1, p1, q1, rfl, rfl, rfl, h1, r1⟩ := trodAll_cons r0
  obtain ⟨v2, vs2, d2, ds2, p2, q2, rfl, rfl, rfl, h2, r2⟩ := trodAll_cons r1
  obtain ⟨v3, vs3, d3, ds3, p3, q3, rfl, rfl, rfl, h3, r3⟩ := trodAll_cons r2
  obtain ⟨rfl, rfl, rfl⟩ := trodAll_nil r3
  obtain rfl : args = #[v0, v1, v2, v3] := by cases args; simp_all
  obtain ⟨rfl, rfl⟩ := trodVars_none hV
  obtain ⟨x0, a0, g0⟩ := open_arg (T := (.slice (.st (.cons (.st (.cons (.int .u32) (.cons .str .nil))) (.cons (.int .i64) (.cons .str (.cons (.int .u64) (.cons .str (.cons (.int .i64) (.cons (.int .i64) .nil)))))))))) (by kernel_rfl) (hval 0 71 v0 rfl rfl) h0 (weights_of hsz (j := 0) (t := 71) rfl rfl)
  have k0 := h0
  have lt0 : ∀ x ∈ p0, x.block < W.heap.size := by obtain ⟨m, hm⟩ := k0; exact DataW.trod_lt m _ _ _ hm
  obtain ⟨x1, a1, g1⟩ := open_arg (T := (.st (.cons (.st (.cons (.int .u32) (.cons .str .nil))) (.cons (.int .i64) (.cons .str (.cons (.int .u64) (.cons .str (.cons (.int .i64) (.cons (.int .i64) .nil))))))))) (by kernel_rfl) (hval 1 54 v1 rfl rfl) h1 (weights_of hsz (j := 1) (t := 54) rfl rfl)
  have k1 := h1
  have lt1 : ∀ x ∈ p1, x.block < W.heap.size := by obtain ⟨m, hm⟩ := k1; exact DataW.trod_lt m _ _ _ hm
  obtain ⟨x2, a2, g2⟩ := open_arg (T := (.st (.cons (.st (.cons (.int .u32) (.cons .str .nil))) (.cons (.int .i64) (.cons .str (.cons (.int .u64) (.cons .str (.cons (.int .i64) (.cons (.int .i64) .nil))))))))) (by kernel_rfl) (hval 2 54 v2 rfl rfl) h2 (weights_of hsz (j := 2) (t := 54) rfl rfl)
  have k2 := h2
  have lt2 : ∀ x ∈ p2, x.block < W.heap.size := by obtain ⟨m, hm⟩ := k2; exact DataW.trod_lt m _ _ _ hm
  obtain ⟨x3, a3, g3⟩ := open_arg (T := (.st (.cons (.int .u32) (.cons .str .nil)))) (by kernel_rfl) (hval 3 27 v3 rfl rfl) h3 (weights_of hsz (j := 3) (t := 27) rfl rfl)
  have k3 := h3
  have lt3 : ∀ x ∈ p3, x.block < W.heap.size := by obtain ⟨m, hm⟩ := k3; exact DataW.trod_lt m _ _ _ hm
  obtain ⟨k, hk⟩ := PureShardSwaps.pure x0 x1 x2 x3 g0 g1 g2 g3
  clear hA0 hval0 hsz0 hsz
  refine (law_of (fn13 k [Ty.av (.slice (.st (.cons (.st (.cons (.int .u32) (.cons .str .nil))) (.cons (.int .i64) (.cons .str (.cons (.int .u64) (.cons .str (.cons (.int .i64) (.cons (.int .i64) .nil))))))))) x0, Ty.av (.st (.cons (.st (.cons (.int .u32) (.cons .str .nil))) (.cons (.int .i64) (.cons .str (.cons (.int .u64) (.cons .str (.cons (.int .i64) (.cons (.int .i64) .nil)))))))) x1, Ty.av (.st (.cons (.st (.cons (.int .u32) (.cons .str .nil))) (.cons (.int .i64) (.cons .str (.cons (.int .u64) (.cons .str (.cons (.int .i64) (.cons (.int .i64) .nil)))))))) x2, Ty.av (.st (.cons (.int .u32) (.cons .str .nil))) x3] (x0, (x1, (x2, (x3, PUnit.unit)))) (true, PUnit.unit) rfl rfl hk) (glob_of_laid hL) (us := [v0, v1, v2, v3]) ⟨a0, a1, a2, a3, trivial⟩).mono fun e W' ⟨he, bel⟩ => ?_
  subst he
  exact ⟨_, rfl, _, _, _, [], _, [], hW', trodAll_mk1 (shut_bool Tryd.underlying4 _), (trodAll_cons_mk (Below.trod laidOut (by kernel_rfl) (of_decide_eq_true (by kernel_rfl)) k0 bel lt0) (trodAll_cons_mk (Below.trod laidOut (by kernel_rfl) (of_decide_eq_true (by kernel_rfl)) k1 bel lt1) (trodAll_cons_mk (Below.trod laidOut (by kernel_rfl) (of_decide_eq_true (by kernel_rfl)) k2 bel lt2) (trodAll_cons_mk (Below.trod laidOut (by kernel_rfl) (of_decide_eq_true (by kernel_rfl)) k3 bel lt3) trodAll_mk0)))), rfl, bel.frame _, fun h => by cases h⟩
theorem inP : Tryd.prog.inPlace 13 = ["slices.overlaps[paydesk/api.Entry]"] := by kernel_rfl
theorem unf : Tryd.prog.unfollowed 13 = true := by kernel_rfl
theorem rec' : Tryd.prog.recurses 13 = true := by kernel_rfl
theorem nam : Tryd.prog.varsNamed 13 = ["paydesk/deal.types"] := by kernel_rfl
theorem lk : false = Tryd.prog.looks [] := by kernel_rfl
theorem gb : false = Rows.shardSwapsRow.goesBy Tryd.prog := by kernel_rfl
theorem facts : joinedFacts Tryd.prog 13 Tryd.f13 Rows.shardSwapsSpec Rows.shardSwapsRow = true := by
  unfold joinedFacts
  rw [laidOut, mapsRowed', stopsHeard', mayEnter', plainKeys', liftsFinal', make', stops', stopKnobs', inP, unf, rec', nam]
  kernel_rfl
theorem over : Rows.shardSwapsRow.holds Tryd.pinned (OpenSpec.ofChange Rows.shardSwapsSpec) :=
  OpenClaim.holds_of_wide 13 Tryd.f13 rfl rfl rfl rfl rfl rfl rfl ⟨rfl, rfl, rfl, rfl, rfl⟩ rfl rfl rfl rfl rfl (by kernel_rfl) Tryd.func13 facts
    (of_decide_eq_true (by kernel_rfl)) (by unfold Func.isWrapper; first | (rw [if_pos (by decide +kernel)]; kernel_rfl) | (rw [if_neg (by decide +kernel)]; exact ⟨rfl, rfl⟩))
    (fun os started H enc _ => lifted os started H enc)
end Go.Proofs.YtjgnpmdbkgeakaaDoor.shardSwaps
namespace Go.Proofs.YtjgnpmdbkgeakaaDoor
theorem shardSwaps_card_holds : Rows.ShardSwapsCardSaid :=
  Claim7.holds_tied_plain_at .later [] [.data] true (true, "4b760acf1adc6d3612329ab3c20ec014558e267c494e654019cab19211bf1961") false
    shardSwaps.over (fun _ h => by cases h) (by kernel_rfl) (fun _ h => by cases h) shardSwaps_row_tie rfl ⟨rfl, rfl⟩ mainIs' rfl
    (fun f fn hf hfn => by
      obtain rfl : f = 13 := Option.some.inj ((show Tryd.prog.funcNamed "paydesk/paydesklaw10.ShardSwaps" = some 13 by kernel_rfl).symm.trans hf) |>.symm
      obtain rfl : fn = Tryd.f13 := (Option.some.inj (Tryd.func13.symm.trans hfn)).symm
      exact ⟨shardSwaps.lk, fun j t ht => by
        rw [Tryd.params13] at ht
        have hm : t ∈ [71, 54, 54, 27] := by simpa using Array.mem_of_getElem? ht
        have hall : ([71, 54, 54, 27].all fun u => !Tryd.prog.wantsStandIn u) = true := by kernel_rfl
        exact (show Tryd.prog.wantsStandIn t = false by simpa using List.all_eq_true.1 hall t hm)⟩)
    shardSwaps.gb
end Go.Proofs.YtjgnpmdbkgeakaaDoor
end
