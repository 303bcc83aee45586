/- The statement WireFrames, out of what its function answers. No condition. -/
import Derived.Test.YthglkecbfakmpaaQWireFrames2
import Derived.Test.YthglkecbfakmpaaRows
import Derived.Carry
section
set_option linter.unusedVariables false
set_option linter.unusedSimpArgs false
namespace Go.Proofs.Ythglkecbfakmpaa.G
open Go Go.Proofs.Ythglkecbfakmpaa.Th
theorem lk5 (k : Nat) : LinksOK Try.prog 114 (L5 k) c5 := (And.intro True.intro (And.intro (And.intro True.intro (And.intro (And.intro True.intro True.intro) True.intro)) (And.intro (And.intro True.intro (And.intro (And.intro True.intro True.intro) True.intro)) (And.intro True.intro (And.intro True.intro (And.intro True.intro (And.intro True.intro (And.intro True.intro (And.intro True.intro (And.intro True.intro True.intro))))))))))
theorem fn5 (k : Nat) (args : List AV) (x : mi5.den) (r : mo5.den) (h1 : args.length = mi5.items.length) (h2 : mi5.dec (Th.start args) = some x) (h3 : F5 k x = some r) : CallOK Try.prog 5 args (ansOf (outL mo5.items r)) :=
  call_of hm hT2 (ok_O36 k) (fn := Try.f5) (c := c5) Try.func5 rfl rfl rfl (lk5 k) rfl (by decide) rfl h1 h2 h3
noncomputable def O5 (k : Nat) : Orc := fun R f args K => bif Nat.beq f 5 then callF mi5 mo5 (F5 k) args K else O36 k R f args K
theorem ok_O5 (k : Nat) : OrcOK (O5 k) (CallOK Try.prog) := orc_add (fn5 k) (ok_O36 k)
noncomputable def c6 : Code := Try.f6.body.getD .skip
noncomputable def mi6 : Msk := ⟨[(.tmp 0, .val (.st (.cons (.slice (.slice (.int .u8))) .nil))), (.tmp 1, .val (.slice (.int .u8))), (.tmp 2, .val (.int .u8))], []⟩
noncomputable def mo6 : Msk := ⟨[(.tmp 6, .val .bool)], []⟩
noncomputable def L6_18 (k : Nat) : LOrc := fun _ _ _ _ => none
noncomputable def b6_18 : Code := (findLoop 18 c6).getD .skip
noncomputable def m6_18 : Msk := ⟨[(.tmp 7, .ptr 7 0), (.tmp 9, .val (.int .i64)), (.tmp 15, .val (.int .i64)), (.tmp 16, .ptr 16 0), (.tmp 19, .val (.int .i64)), (.cell 7 0, .val (.slice (.slice (.int .u8)))), (.cell 16 0, .val (.slice (.slice (.int .u8))))], [(7, 1), (16, 1)]⟩
noncomputable def x6_18 : List (X × Msk) := [(.exit 0, ⟨[], []⟩), (.ret, ⟨[(.tmp 6, .val .bool)], []⟩)]
noncomputable def F6_18 (k : Nat) : Nat → m6_18.den → Option (denE x6_18)
  | 0, _ => none
  | j + 1, v => round TI2 (O5 k) (L6_18 k) b6_18 m6_18 x6_18 (F6_18 k j) v
theorem lk6_18_ (k : Nat) : LinksOK Try.prog 168 (L6_18 k) b6_18 := (And.intro (And.intro True.intro (And.intro True.intro True.intro)) (And.intro (And.intro True.intro (And.intro (And.intro True.intro (And.intro True.intro True.intro)) (And.intro True.intro (And.intro (And.intro True.intro True.intro) True.intro)))) True.intro))
noncomputable def L6 (k : Nat) : LOrc := fun R lk s K => match lk with
  | .loop r => bif Nat.beq r 18 then link m6_18 x6_18 (F6_18 k k) s K else none
  | .label l => none
theorem lk_L6_18 (k : Nat) : LoopOK Try.prog 168 (L6 k) b6_18 := loopOK_of hm hT2 (ok_O5 k) (fun _ _ _ h => h) rfl (lk6_18_ k) rfl rfl (F := F6_18 k) (fun _ => rfl) (fun _ _ => rfl) (n := k) fun _ _ _ => rfl
noncomputable def F6 (k : Nat) (v : mi6.den) : Option mo6.den := runF TI2 (O5 k) (L6 k) c6 mi6 mo6 v
theorem lk6 (k : Nat) : LinksOK Try.prog 168 (L6 k) c6 := (And.intro True.intro (And.intro (And.intro True.intro (And.intro (And.intro True.intro True.intro) True.intro)) (And.intro (And.intro True.intro (And.intro (And.intro True.intro True.intro) True.intro)) (And.intro True.intro (And.intro (And.intro True.intro (And.intro (And.intro True.intro True.intro) True.intro)) (And.intro True.intro (And.intro True.intro (And.intro True.intro (And.intro (And.intro True.intro (And.intro (And.intro True.intro True.intro) True.intro)) (And.intro True.intro (And.intro True.intro (And.intro (And.intro True.intro (And.intro (And.intro True.intro True.intro) True.intro)) (And.intro (And.intro True.intro (lk_L6_18 k)) (And.intro True.intro True.intro))))))))))))))
theorem fn6 (k : Nat) (args : List AV) (x : mi6.den) (r : mo6.den) (h1 : args.length = mi6.items.length) (h2 : mi6.dec (Th.start args) = some x) (h3 : F6 k x = some r) : CallOK Try.prog 6 args (ansOf (outL mo6.items r)) :=
  call_of hm hT2 (ok_O5 k) (fn := Try.f6) (c := c6) Try.func6 rfl rfl rfl (lk6 k) rfl (by decide) rfl h1 h2 h3
noncomputable def O6 (k : Nat) : Orc := fun R f args K => bif Nat.beq f 6 then callF mi6 mo6 (F6 k) args K else O5 k R f args K
theorem ok_O6 (k : Nat) : OrcOK (O6 k) (CallOK Try.prog) := orc_add (fn6 k) (ok_O5 k)
end Go.Proofs.Ythglkecbfakmpaa.G
end
section
set_option maxRecDepth 1000000
set_option linter.unusedVariables false
set_option linter.unusedSimpArgs false
namespace Go.Proofs.Ythglkecbfakmpaa.G
open Go Go.Proofs.Ythglkecbfakmpaa Th
noncomputable def G35 (k : Nat) (v : (List (List Int) × Unit) × Unit) : Option (Bool × Unit) := F35 k v
theorem G35_eq (k : Nat) (v0 : List (List Int)) : G35 k ((v0, ()), ()) = some (decide (Int.ofNat v0.length ≤ 200), ()) := by kernel_rfl
noncomputable def G72 (k : Nat) (v : List (List Int)) : Option (List (List Int) × Unit) := F72 k v
theorem G72_eq (k : Nat) (v0 : List (List Int)) : G72 k v0 = sel (decide ((0 + v0.length) * 24 ≤ 140737488355328)) (some (v0, ())) none := by kernel_rfl
noncomputable def G29 (k : Nat) (v : (List (List Int) × Unit) × List Int × Unit) : Option ((List (List Int) × Unit) × Int × Unit) := F29 k v
theorem G29_eq (k : Nat) (v0 : List (List Int)) (v1 : List Int) : G29 k ((v0, ()), v1, ()) = ocall (G35 k ((v0, ()), ())) fun r => sel (!r.1) (some ((v0, ()), 1, ())) (sel (decide (Int.ofNat v0.length = 200)) (some ((v0, ()), 7, ()))
 (ocall (G72 k v0) fun r => ocall (G73 k v1) fun r_1 => sel (decide ((r.1.length + 1) * 24 ≤ 140737488355328)) (some ((r.1 ++ [r_1.1], ()), 0, ())) none)) := by kernel_rfl
noncomputable def G74 (k : Nat) (v : (List (List Int) × Unit) × Int × Unit) : Option (Int × Int × Unit) := F74 k v
theorem G74_eq (k : Nat) (v0 : List (List Int)) (v1 : Int) : G74 k ((v0, ()), v1, ()) = ocall (G35 k ((v0, ()), ())) fun r => sel (!r.1) (sel (!r.1) (some (0, 1, ())) (sel (decide (Int.ofNat v0.length = 0)) (some (0, 5, ())) (sel (!decide (Int.ofNat
 v0.length = 0)) (some (v1.tmod (Int.ofNat v0.length), 0, ())) none))) (sel (decide (v1 < 0)) (some (0, 1, ())) (sel (decide (Int.ofNat v0.length = 0)) (some (0, 5, ())) (sel (!decide (Int.ofNat v0.length = 0)) (some (v1.tmod (Int.ofNat v0.length), 0, ())) none))) :=
 by kernel_rfl
noncomputable def G75 (k : Nat) (v : List (List Int) × Int × Int × Unit) : Option (List (List Int) × Unit) := F75 k v
theorem G75_eq (k : Nat) (v0 : List (List Int)) (v1 v2 : Int) : G75 k (v0, v1, v2, ()) = sel (decide (0 ≤ v1)) (sel (decide (v1 ≤ v2)) (sel (decide (v2 ≤ Int.ofNat v0.length)) (some (List.take v1.toNat v0 ++ List.drop v2.toNat v0, ())) none) none) none := by kernel_rfl
noncomputable def G31 (k : Nat) (v : (List (List Int) × Unit) × Int × Unit) : Option ((List (List Int) × Unit) × List Int × Int × Unit) := F31 k v
theorem G31_eq (k : Nat) (v0 : List (List Int)) (v1 : Int) : G31 k ((v0, ()), v1, ()) = ocall (G74 k ((v0, ()), v1, ())) fun r => sel (!decide (r.2.1 = 0)) (some ((v0, ()), [], r.2.1, ())) (sel (decide (0 ≤ r.1)) (sel (decide (r.1 < Int.ofNat
 v0.length)) (ocall (G73 k (v0.getD r.1.toNat [])) fun r_1 => ocall (G72 k v0) fun r_2 => ocall (G75 k (r_2.1, r.1, IntKind.i64.wrap (r.1 + 1), ())) fun r => some ((r.1, ()), r_1.1, 0, ())) none) none) := by kernel_rfl
noncomputable def G33 (k : Nat) (v : (List (List Int) × Unit) × Int × Unit) : Option ((List (List Int) × Unit) × Int × Unit) := F33 k v
theorem G33_eq (k : Nat) (v0 : List (List Int)) (v1 : Int) : G33 k ((v0, ()), v1, ()) = ocall (G74 k ((v0, ()), v1, ())) fun r => sel (!decide (r.2.1 = 0)) (some ((v0, ()), r.2.1, ())) (sel (decide (0 ≤ r.1)) (sel (decide (r.1 < Int.ofNat v0.length))
 (ocall (G29 k ((v0, ()), v0.getD r.1.toNat [], ())) fun r => some ((r.1.1, ()), r.2.1, ())) none) none) := by kernel_rfl
noncomputable def G28 (k : Nat) (v : Unit) : Option (Bool × Unit) := F28 k v
theorem G28_eq (k : Nat) : G28 k () = ocall (G29 k (([], ()), [97], ())) fun r => ocall (G29 k ((r.1.1, ()), [98], ())) fun r_1 => ocall (G31 k ((r_1.1.1, ()), 3, ())) fun r_2 => ocall (G33 k ((r_1.1.1, ()), 0, ())) fun r_3 =>
 ocall (G31 k (([], ()), 0, ())) fun r_4 => sel (decide (r.2.1 = 0)) (sel (decide (r_1.2.1 = 0)) (sel (decide (r_2.2.2.1 = 0)) (sel (decide (r_3.2.1 = 0)) (sel (decide (r_4.2.2.1 = 5)) (sel (decide (ofBytes r_2.2.1 = [98])) (sel (decide (Int.ofNat r_2.1.1.length = 1)) (sel (decide
 (Int.ofNat r_3.1.1.length = 3)) (sel (decide (2 < Int.ofNat r_3.1.1.length)) (sel (decide (ofBytes (r_3.1.1.getD (Int.toNat 2) []) = [97])) (ocall (G35 k ((r_3.1.1, ()), ())) fun r => some (r.1, ())) (some (false, ()))) none) (some (false, ()))) (some (false,
 ()))) (some (false, ()))) (some (false, ()))) (some (false, ()))) (some (false, ()))) (some (false, ()))) (some (false, ())) := by kernel_rfl
noncomputable def G17_2 (k : Nat) (j : Nat) (v : List (List Int) × Int × Unit) : Option (List (List Int) × Unit ⊕ Bool × Unit) := F17_2 k j v
theorem G17_2_eq (k : Nat) (j : Nat) (v0 : List (List Int)) (v1 : Int) : G17_2 k (j + 1) (v0, v1, ()) = sel (decide (v1 < Int.ofNat v0.length)) (sel (decide (v1 < 300)) (sel (decide (0 ≤ v1)) (sel (decide (v1 < Int.ofNat v0.length)) (sel (decide (3000 < Int.ofNat (List.length (v0.getD
 v1.toNat [])))) (some (Sum.inr (false, ()))) (G17_2 k j (v0, IntKind.i64.wrap (v1 + 1), ()))) none) none) (some (Sum.inl (v0, ())))) (some (Sum.inl (v0, ()))) := by kernel_rfl
noncomputable def G17 (k : Nat) (v : List (List Int) × Unit) : Option (Bool × Unit) := F17 k v
theorem G17_eq (k : Nat) (v0 : List (List Int)) : G17 k (v0, ()) = ocall (G17_2 k k (v0, 0, ())) fun e => esel e (fun v => some (decide (Int.ofNat v.1.length ≤ 300), ())) fun e => some (e.1, ()) := by kernel_rfl
noncomputable def G30 (k : Nat) (v : (List (List Int) × Unit) × List Int × Unit) : Option ((List (List Int) × Unit) × Int × Unit) := F30 k v
theorem G30_eq (k : Nat) (v0 : List (List Int)) (v1 : List Int) : G30 k ((v0, ()), v1, ()) = sel (decide (200 < Int.ofNat v0.length)) (some ((v0, ()), 1, ())) (sel (decide (Int.ofNat v0.length = 200)) (some ((v0, ()), 7, ())) (sel (decide ((0 +
 v0.length) * 24 ≤ 140737488355328)) (sel (decide ((v0.length + 1) * 24 ≤ 140737488355328)) (some ((v0 ++ [v1], ()), 0, ())) none) none)) := by kernel_rfl
noncomputable def G76 (k : Nat) (v : (List (List Int) × Unit) × Int × Unit) : Option (Int × Unit) := F76 k v
theorem G76_eq (k : Nat) (v0 : List (List Int)) (v1 : Int) : G76 k ((v0, ()), v1, ()) = sel (decide (200 < Int.ofNat v0.length)) (some (1, ())) (sel (decide (v1 < 0)) (some (1, ())) (sel (decide (Int.ofNat v0.length = 0)) (some (5, ())) (some (0,
 ())))) := by kernel_rfl
noncomputable def G32_7 (k : Nat) (j : Nat) (v : Int × List (List Int) × Int × List (List Int) × List (List Int) × Unit) : Option (Int × List (List Int) × List (List Int) × List (List Int) × Unit) := F32_7 k j v
theorem G32_7_eq (k : Nat) (j : Nat) (v0 : Int) (v1 : List (List Int)) (v2 : Int) (v3 v4 : List (List Int)) : G32_7 k (j + 1) (v0, v1, v2, v3, v4, ()) = sel (decide (v2 < Int.ofNat v3.length)) (sel (!decide (v2 = v0)) (sel (decide (0 ≤ v2)) (sel (decide (v2 < Int.ofNat v3.length)) (sel
 (decide ((v1.length + 1) * 24 ≤ 140737488355328)) (G32_7 k j (v0, v1 ++ [v3.getD v2.toNat []], IntKind.i64.wrap (v2 + 1), v3, v4, ())) none) none) none) (G32_7 k j (v0, v1, IntKind.i64.wrap (v2 + 1), v3, v4, ()))) (some (v0, v1, v3, v4, ())) := by kernel_rfl
noncomputable def G32 (k : Nat) (v : (List (List Int) × Unit) × Int × Unit) : Option ((List (List Int) × Unit) × List Int × Int × Unit) := F32 k v
theorem G32_eq (k : Nat) (v0 : List (List Int)) (v1 : Int) : G32 k ((v0, ()), v1, ()) = ocall (G76 k ((v0, ()), v1, ())) fun r => sel (!decide (r.1 = 0)) (some ((v0, ()), [], r.1, ())) (sel (!decide (Int.ofNat v0.length = 0)) (ocall (G32_7 k k (v1.tmod
 (Int.ofNat v0.length), [], 0, v0, [], ())) fun e => sel (decide (0 ≤ e.1)) (sel (decide (e.1 < Int.ofNat e.2.2.1.length)) (some ((e.2.1, ()), e.2.2.1.getD e.1.toNat [], 0, ())) none) none) none) := by kernel_rfl
noncomputable def G34 (k : Nat) (v : (List (List Int) × Unit) × Int × Unit) : Option ((List (List Int) × Unit) × Int × Unit) := F34 k v
theorem G34_eq (k : Nat) (v0 : List (List Int)) (v1 : Int) : G34 k ((v0, ()), v1, ()) = ocall (G76 k ((v0, ()), v1, ())) fun r => sel (!decide (r.1 = 0)) (some ((v0, ()), r.1, ())) (sel (!decide (Int.ofNat v0.length = 0)) (sel (decide (0 ≤ v1.tmod
 (Int.ofNat v0.length))) (sel (decide (v1.tmod (Int.ofNat v0.length) < Int.ofNat v0.length)) (ocall (G30 k ((v0, ()), v0.getD (v1.tmod (Int.ofNat v0.length)).toNat [], ())) fun r => some ((r.1.1, ()), r.2.1, ())) none) none) none) := by kernel_rfl
noncomputable def G36 (k : Nat) (v : (List (List Int) × Unit) × (List (List Int) × Unit) × Unit) : Option (Bool × Unit) := F36 k v
theorem G36_eq (k : Nat) (v0 v1 : List (List Int)) : G36 k ((v0, ()), (v1, ()), ()) = ocall (G27 k (v0, v1, ())) fun r => some (r.1, ()) := by kernel_rfl
noncomputable def G5 (k : Nat) (v : (List (List Int) × Unit) × List Int × Int × Unit) : Option (Bool × Unit) := F5 k v
theorem G5_eq (k : Nat) (v0 : List (List Int)) (v1 : List Int) (v2 : Int) : G5 k ((v0, ()), v1, v2, ()) = ocall (G28 k ()) fun r => sel (!r.1) (some (false, ())) (ocall (G17 k (v0, ())) fun r => sel (!r.1) (some (true, ())) (sel (decide (3000 <
 Int.ofNat v1.length)) (some (true, ())) (ocall (G29 k ((v0, ()), v1, ())) fun r => ocall (G30 k ((v0, ()), v1, ())) fun r_1 => ocall (G31 k ((v0, ()), v2, ())) fun r_2 => ocall (G32 k ((v0, ()), v2, ())) fun r_3 => ocall (G33 k
 ((v0, ()), v2, ())) fun r_4 => ocall (G34 k ((v0, ()), v2, ())) fun r_5 => ocall (G35 k ((v0, ()), ())) fun r_6 => sel (r_6.1 == decide (Int.ofNat v0.length ≤ 200)) (ocall (G36 k ((r.1.1, ()), (r_1.1.1, ()), ())) fun r_7 => sel
 r_7.1 (sel (decide (r.2.1 = r_1.2.1)) (ocall (G36 k ((r_2.1.1, ()), (r_3.1.1, ()), ())) fun r => sel r.1 (sel (decide (ofBytes r_2.2.1 = ofBytes r_3.2.1)) (sel (decide (r_2.2.2.1 = r_3.2.2.1)) (ocall (G36 k ((r_4.1.1, ()), (r_5.1.1, ()), ())) fun r =>
 sel r.1 (some (decide (r_4.2.1 = r_5.2.1), ())) (some (false, ()))) (some (false, ()))) (some (false, ()))) (some (false, ()))) (some (false, ()))) (some (false, ()))) (some (false, ()))))) := by kernel_rfl
noncomputable def G6_18 (k : Nat) (j : Nat) (v : Int × Int × Int × List (List Int) × List (List Int) × Unit) : Option (Unit ⊕ Bool × Unit) := F6_18 k j v
theorem G6_18_eq (k : Nat) (j : Nat) (v0 v1 v2 : Int) (v3 v4 : List (List Int)) : G6_18 k (j + 1) (v0, v1, v2, v3, v4, ()) = sel (decide (v2 < v0)) (sel (decide (v1 ≤ v2)) (sel (decide (0 ≤ v2)) (sel (decide (v2 < Int.ofNat v4.length)) (sel (decide (0 ≤ IntKind.i64.wrap (v2 + 1))) (sel
 (decide (IntKind.i64.wrap (v2 + 1) < Int.ofNat v3.length)) (sel (!decide (ofBytes (v4.getD v2.toNat []) = ofBytes (v3.getD (IntKind.i64.wrap (v2 + 1)).toNat []))) (some (Sum.inr (false, ()))) (G6_18 k j (v0, v1, IntKind.i64.wrap (v2 + 1), v3, v4, ()))) none) none) none) none) (sel
 (decide (0 ≤ v2)) (sel (decide (v2 < Int.ofNat v4.length)) (sel (decide (0 ≤ v2)) (sel (decide (v2 < Int.ofNat v3.length)) (sel (!decide (ofBytes (v4.getD v2.toNat []) = ofBytes (v3.getD v2.toNat []))) (some (Sum.inr (false, ()))) (G6_18 k j (v0, v1, IntKind.i64.wrap (v2 + 1), v3, v4,
 ()))) none) none) none) none)) (some (Sum.inl ())) := by kernel_rfl
noncomputable def G6 (k : Nat) (v : (List (List Int) × Unit) × List Int × Int × Unit) : Option (Bool × Unit) := F6 k v
theorem G6_eq (k : Nat) (v0 : List (List Int)) (v1 : List Int) (v2 : Int) : G6 k ((v0, ()), v1, v2, ()) = ocall (G28 k ()) fun r => sel (!r.1) (some (false, ())) (ocall (G17 k (v0, ())) fun r => sel (!r.1) (some (true, ())) (sel (decide (3000 <
 Int.ofNat v1.length)) (some (true, ())) (ocall (G29 k ((v0, ()), v1, ())) fun r => sel (!decide (r.2.1 = 0)) (ocall (G36 k ((r.1.1, ()), (v0, ()), ())) fun r => sel r.1 (some (decide (200 ≤ Int.ofNat v0.length), ())) (some (false, ())))
 (ocall (G31 k ((r.1.1, ()), Int.ofNat v0.length, ())) fun r_1 => ocall (G33 k ((r.1.1, ()), Int.ofNat v0.length, ())) fun r_2 => sel (!decide (r_1.2.2.1 = 0)) (some (false, ())) (sel (!decide (ofBytes r_1.2.1 = ofBytes v1)) (some (false, ())) (ocall
 (G36 k ((r_1.1.1, ()), (v0, ()), ())) fun r_3 => sel (!r_3.1) (some (false, ())) (sel (!decide (r_2.2.1 = 0) == decide (IntKind.i64.wrap (Int.ofNat v0.length + 1) < 200)) (some (false, ())) (sel (decide (r_2.2.1 = 0)) (sel (!decide (Int.ofNat r_2.1.1.length =
 IntKind.i64.wrap (Int.ofNat v0.length + 2))) (some (false, ())) (sel (decide (0 ≤ IntKind.i64.wrap (Int.ofNat v0.length + 1))) (sel (decide (IntKind.i64.wrap (Int.ofNat v0.length + 1) < Int.ofNat r_2.1.1.length)) (sel (!decide (ofBytes (r_2.1.1.getD (IntKind.i64.wrap (Int.ofNat v0.length +
 1)).toNat []) = ofBytes v1)) (some (false, ())) (sel (!decide (IntKind.i64.wrap (Int.ofNat v0.length + 1) = 0)) (ocall (G31 k ((r.1.1, ()), (IntKind.i64.wrap v2).tmod (IntKind.i64.wrap (Int.ofNat v0.length + 1)), ())) fun r_4 => sel (!decide (r_4.2.2.1 = 0)) (some (false,
 ())) (sel (decide (0 ≤ (IntKind.i64.wrap v2).tmod (IntKind.i64.wrap (Int.ofNat v0.length + 1)))) (sel (decide ((IntKind.i64.wrap v2).tmod (IntKind.i64.wrap (Int.ofNat v0.length + 1)) < Int.ofNat r.1.1.length)) (sel (!decide (ofBytes r_4.2.1 = ofBytes (r.1.1.getD ((IntKind.i64.wrap v2).tmod
 (IntKind.i64.wrap (Int.ofNat v0.length + 1))).toNat []))) (some (false, ())) (sel (!decide (Int.ofNat r_4.1.1.length = Int.ofNat v0.length)) (some (false, ())) (ocall (G6_18 k k (Int.ofNat v0.length, (IntKind.i64.wrap v2).tmod (IntKind.i64.wrap (Int.ofNat v0.length + 1)), 0, r.1.1,
 r_4.1.1, ())) fun e => esel e (fun v => some (true, ())) fun e => some (e.1, ())))) none) none)) none)) none) none)) (sel (!decide (IntKind.i64.wrap (Int.ofNat v0.length + 1) = 0)) (ocall (G31 k ((r.1.1, ()), (IntKind.i64.wrap v2).tmod (IntKind.i64.wrap (Int.ofNat
 v0.length + 1)), ())) fun r_4 => sel (!decide (r_4.2.2.1 = 0)) (some (false, ())) (sel (decide (0 ≤ (IntKind.i64.wrap v2).tmod (IntKind.i64.wrap (Int.ofNat v0.length + 1)))) (sel (decide ((IntKind.i64.wrap v2).tmod (IntKind.i64.wrap (Int.ofNat v0.length + 1)) < Int.ofNat
 r.1.1.length)) (sel (!decide (ofBytes r_4.2.1 = ofBytes (r.1.1.getD ((IntKind.i64.wrap v2).tmod (IntKind.i64.wrap (Int.ofNat v0.length + 1))).toNat []))) (some (false, ())) (sel (!decide (Int.ofNat r_4.1.1.length = Int.ofNat v0.length)) (some (false, ())) (ocall (G6_18 k k (Int.ofNat
 v0.length, (IntKind.i64.wrap v2).tmod (IntKind.i64.wrap (Int.ofNat v0.length + 1)), 0, r.1.1, r_4.1.1, ())) fun e => esel e (fun v => some (true, ())) fun e => some (e.1, ())))) none) none)) none))))))))) := by kernel_rfl
end Go.Proofs.Ythglkecbfakmpaa.G
end
section
set_option linter.unusedVariables false
set_option linter.unusedSimpArgs false
set_option maxRecDepth 100000
namespace Go.Proofs.Ythglkecbfakmpaa.G
open Go Go.Proofs.Ythglkecbfakmpaa Th
theorem qClone (k : Nat) (l : List Int) (h : l.length ≤ 140737488355328) : G73 k l = some (l, ()) := by
  rw [G73_eq, sel_pos (by omega)]
theorem qClones (k : Nat) (l : List (List Int)) (h : l.length * 24 ≤ 140737488355328) : G72 k l = some (l, ()) := by
  rw [G72_eq, sel_pos (by omega)]
end Go.Proofs.Ythglkecbfakmpaa.G
end
section
set_option linter.unusedVariables false
set_option linter.unusedSimpArgs false
set_option maxRecDepth 100000
namespace Go.Proofs.Ythglkecbfakmpaa.G
open Go Go.Proofs.Ythglkecbfakmpaa Th Bits
theorem G17_2_is (k : Nat) (l : List (List Int)) : ∀ (j i : Nat), i + j = (l.take 300).length → ∀ n, j < n →
    G17_2 k n (l, (i : Int), ()) = some (if ((l.take 300).drop i).all (fun x => decide (x.length ≤ 3000)) = true then .inl (l, ()) else .inr (false, ())) := by
  intro j
  induction j with
  | zero =>
    intro i hij n hn
    obtain ⟨n, rfl⟩ : ∃ m, n = m + 1 := ⟨n - 1, by omega⟩
    rw [List.drop_eq_nil_of_le (by omega), G17_2_eq]
    rw [List.length_take] at hij
    simp only [ofNat_len]
    by_cases h : i < l.length
    · rw [sel_pos (by omega), sel_neg (by omega)]; rfl
    · rw [sel_neg (by omega)]; rfl
  | succ j ih =>
    intro i hij n hn
    obtain ⟨n, rfl⟩ : ∃ m, n = m + 1 := ⟨n - 1, by omega⟩
    have hlt' : i < (l.take 300).length := by omega
    have hij' := hij
    rw [List.length_take] at hij'
    have hlt : i < l.length := by omega
    have hw : IntKind.i64.wrap ((i : Int) + 1) = ((i + 1 : Nat) : Int) := by rw [wrap64 (by omega) (by omega)]; omega
    have he : (l.take 300)[i] = l[i] := List.getElem_take
    rw [G17_2_eq]
    simp only [ofNat_len, Int.toNat_natCast, getD_of hlt]
    rw [sel_pos (by omega), sel_pos (by omega), sel_pos (by omega), sel_pos (by omega), List.drop_eq_getElem_cons hlt', he, List.all_cons]
    by_cases c : l[i].length ≤ 3000
    · rw [sel_neg (by omega), hw, ih (i + 1) (by omega) n (by omega), decide_eq_true c, Bool.true_and]
    · rw [sel_pos (by omega), decide_eq_false c, Bool.false_and]; rfl
theorem G17_is (k : Nat) (hk : 301 < k) (l : List (List Int)) : ∃ b, G17 k (l, ()) = some (b, ()) ∧ (b = true → l.length ≤ 300 ∧ ∀ x ∈ l, x.length ≤ 3000) := by
  have h := G17_2_is k l (l.take 300).length 0 (by omega) k (by rw [List.length_take]; omega)
  rw [List.drop_zero, Int.natCast_zero] at h
  rw [G17_eq, h, ocall_some]
  by_cases c : (l.take 300).all (fun x => decide (x.length ≤ 3000)) = true
  · rw [if_pos c, esel_inl]
    refine ⟨_, rfl, fun h => ?_⟩
    have hle : l.length ≤ 300 := by have := of_decide_eq_true h; simp only [ofNat_len] at this; omega
    rw [List.take_of_length_le (by omega)] at c
    exact ⟨hle, fun x hx => by simpa using List.all_eq_true.1 c x hx⟩
  · rw [if_neg c, esel_inr]
    exact ⟨_, rfl, fun h => absurd h (by simp)⟩
end Go.Proofs.Ythglkecbfakmpaa.G
end
section
set_option linter.unusedVariables false
set_option linter.unusedSimpArgs false
set_option maxRecDepth 100000
namespace Go.Proofs.Ythglkecbfakmpaa.G
open Go Go.Proofs.Ythglkecbfakmpaa Th Bits
abbrev Frs := List (List Int)
def wireP (l : Frs) (b : List Int) : Frs × Int := if 200 < l.length then (l, 1) else if l.length = 200 then (l, 7) else (l ++ [b], 0)
def wireE (l : Frs) (n : Int) : Int := if 200 < l.length ∨ n < 0 then 1 else if l.length = 0 then 5 else 0
def cutAt (l : Frs) (p : Nat) : Frs := l.take p ++ l.drop (p + 1)
def placeAt (l : Frs) (n : Int) : Nat := n.toNat % l.length
def wireT (l : Frs) (n : Int) : Frs × List Int × Int := if wireE l n = 0 then (cutAt l (placeAt l n), l.getD (placeAt l n) [], 0) else (l, [], wireE l n)
def wireD (l : Frs) (n : Int) : Frs × Int := if wireE l n = 0 then wireP l (l.getD (placeAt l n) []) else (l, wireE l n)
theorem wireE_ok {l : Frs} {n : Int} (h : wireE l n = 0) : l.length ≤ 200 ∧ 0 ≤ n ∧ 0 < l.length ∧ placeAt l n < l.length := by
  unfold wireE at h
  by_cases h1 : 200 < l.length ∨ n < 0
  · rw [if_pos h1] at h; exact absurd h (by decide)
  rw [if_neg h1] at h
  by_cases h2 : l.length = 0
  · rw [if_pos h2] at h; exact absurd h (by decide)
  exact ⟨by omega, by omega, by omega, Nat.mod_lt _ (by omega)⟩
theorem tmod_place {l : Frs} {n : Int} (h : 0 ≤ n) : n.tmod (l.length : Int) = ((placeAt l n : Nat) : Int) := by
  obtain ⟨m, rfl⟩ := Int.eq_ofNat_of_zero_le h
  unfold placeAt; rfl
theorem G29_is (k : Nat) (l : Frs) (b : List Int) (hb : b.length ≤ 100000) : G29 k ((l, ()), b, ()) = some (((wireP l b).1, ()), (wireP l b).2, ()) := by
  rw [G29_eq, G35_eq, ocall_some]
  unfold wireP
  simp only [ofNat_len]
  by_cases h1 : 200 < l.length
  · rw [decide_eq_false (show ¬ (l.length : Int) ≤ 200 by omega), if_pos h1]; rfl
  · rw [decide_eq_true (show (l.length : Int) ≤ 200 by omega), if_neg h1]
    simp only [Bool.not_true, sel_false]
    by_cases h2 : l.length = 200
    · rw [sel_pos (by omega), if_pos h2]
    · rw [sel_neg (by omega), if_neg h2, qClones k l (by omega), ocall_some, qClone k b (by omega), ocall_some]
      (try simp only [])
      rw [sel_pos (by omega)]
theorem G74_is (k : Nat) (l : Frs) (n : Int) : G74 k ((l, ()), n, ()) = some (if wireE l n = 0 then ((placeAt l n : Nat) : Int) else 0, wireE l n, ()) := by
  rw [G74_eq, G35_eq, ocall_some]
  unfold wireE
  simp only [ofNat_len]
  by_cases h1 : 200 < l.length
  · rw [decide_eq_false (show ¬ (l.length : Int) ≤ 200 by omega)]
    simp [h1]
  · rw [decide_eq_true (show (l.length : Int) ≤ 200 by omega)]
    simp only [Bool.not_true, sel_false]
    by_cases h2 : n < 0
    · rw [sel_pos h2]; simp [h2]
    · rw [sel_neg h2]
      by_cases h3 : l.length = 0
      · rw [sel_pos (by omega)]
        simp only [if_neg (show ¬ (200 < l.length ∨ n < 0) by omega), if_pos h3]; rfl
      · rw [sel_neg (by omega), sel_not, sel_neg (by omega)]
        simp only [if_neg (show ¬ (200 < l.length ∨ n < 0) by omega), if_neg h3, if_pos]
        rw [tmod_place (by omega)]
theorem cut_app (l : Frs) (b : List Int) : cutAt (l ++ [b]) l.length = l := by
  unfold cutAt
  rw [List.take_left, List.drop_eq_nil_of_le (by simp), List.append_nil]
theorem cut_len {l : Frs} {p : Nat} (h : p < l.length) : (cutAt l p).length = l.length - 1 := by
  unfold cutAt
  rw [List.length_append, List.length_take, List.length_drop]; omega
theorem cut_mem {l : Frs} {p : Nat} {x : List Int} (h : x ∈ cutAt l p) : x ∈ l := by
  unfold cutAt at h
  rcases List.mem_append.1 h with h | h
  · exact List.mem_of_mem_take h
  · exact List.mem_of_mem_drop h
theorem cut_get {l : Frs} {p i : Nat} (hp : p < l.length) : (cutAt l p)[i]? = if i < p then l[i]? else l[i + 1]? := by
  unfold cutAt
  by_cases h : i < p
  · rw [if_pos h, List.getElem?_append_left (by rw [List.length_take]; omega), List.getElem?_take, if_pos h]
  · rw [if_neg h, List.getElem?_append_right (by rw [List.length_take]; omega), List.length_take, Nat.min_eq_left (by omega), List.getElem?_drop]
    congr 1; omega
theorem cut_step {l : Frs} {p i : Nat} (h : i < l.length) : cutAt (l.take (i + 1)) p = if i = p then cutAt (l.take i) p else cutAt (l.take i) p ++ [l[i]] := by
  have hl : (l.take i).length = i := by rw [List.length_take]; omega
  unfold cutAt
  rw [List.take_succ_eq_append_getElem h, List.take_append, List.drop_append, hl]
  rcases Nat.lt_trichotomy i p with c | c | c
  · obtain ⟨m, hm⟩ : ∃ m, p - i = m + 1 := ⟨p - i - 1, by omega⟩
    rw [if_neg (by omega), hm, show p + 1 - i = m + 2 by omega, List.drop_eq_nil_of_le (show (l.take i).length ≤ p + 1 by omega)]
    simp
  · subst c
    rw [if_pos rfl, Nat.sub_self, show i + 1 - i = 1 by omega]
    simp
  · rw [if_neg (by omega), show p - i = 0 by omega, show p + 1 - i = 0 by omega]
    simp
theorem G31_is (k : Nat) (l : Frs) (n : Int) (hx : ∀ x ∈ l, x.length ≤ 100000) : G31 k ((l, ()), n, ()) = some (((wireT l n).1, ()), (wireT l n).2.1, (wireT l n).2.2, ()) := by
  rw [G31_eq, G74_is, ocall_some]
  unfold wireT
  (try simp only [])
  by_cases he : wireE l n = 0
  case neg => rw [sel_not, sel_neg he]; simp only [if_neg he]
  obtain ⟨h1, h2, h3, h4⟩ := wireE_ok he
  rw [sel_not, sel_pos he]
  simp only [if_pos he]
  generalize placeAt l n = p at h4
  simp only [ofNat_len, Int.toNat_natCast, getD_of h4]
  have hb := hx _ (List.getElem_mem h4)
  rw [sel_pos (by omega), sel_pos (by omega), qClone k _ (by omega), ocall_some, qClones k l (by omega), ocall_some, wrap64 (by omega) (by omega), G75_eq]
  simp only [ofNat_len]
  rw [sel_pos (by omega), sel_pos (by omega), sel_pos (by omega), ocall_some, show ((p : Int) + 1).toNat = p + 1 by omega, Int.toNat_natCast]
  rfl
theorem G33_is (k : Nat) (l : Frs) (n : Int) (hx : ∀ x ∈ l, x.length ≤ 100000) : G33 k ((l, ()), n, ()) = some (((wireD l n).1, ()), (wireD l n).2, ()) := by
  rw [G33_eq, G74_is, ocall_some]
  unfold wireD
  (try simp only [])
  by_cases he : wireE l n = 0
  case neg => rw [sel_not, sel_neg he]; simp only [if_neg he]
  obtain ⟨h1, h2, h3, h4⟩ := wireE_ok he
  rw [sel_not, sel_pos he]
  simp only [if_pos he]
  generalize placeAt l n = p at h4
  simp only [ofNat_len, Int.toNat_natCast, getD_of h4]
  have hb := hx _ (List.getElem_mem h4)
  rw [sel_pos (by omega), sel_pos (by omega), G29_is k l _ (by omega), ocall_some]
theorem G30_is (k : Nat) (l : Frs) (b : List Int) : G30 k ((l, ()), b, ()) = some (((wireP l b).1, ()), (wireP l b).2, ()) := by
  rw [G30_eq]
  unfold wireP
  simp only [ofNat_len]
  by_cases h1 : 200 < l.length
  · rw [sel_pos (by omega), if_pos h1]
  · rw [sel_neg (by omega), if_neg h1]
    by_cases h2 : l.length = 200
    · rw [sel_pos (by omega), if_pos h2]
    · rw [sel_neg (by omega), if_neg h2, sel_pos (by omega), sel_pos (by omega)]
theorem G76_is (k : Nat) (l : Frs) (n : Int) : G76 k ((l, ()), n, ()) = some (wireE l n, ()) := by
  rw [G76_eq]
  unfold wireE
  simp only [ofNat_len]
  by_cases h1 : 200 < l.length
  · rw [sel_pos (by omega), if_pos (.inl h1)]
  · rw [sel_neg (by omega)]
    by_cases h2 : n < 0
    · rw [sel_pos h2, if_pos (.inr h2)]
    · rw [sel_neg h2, if_neg (by omega)]
      by_cases h3 : l.length = 0
      · rw [sel_pos (by omega), if_pos h3]
      · rw [sel_neg (by omega), if_neg h3]
theorem pass_loop (k p : Nat) (l v4 : Frs) (hl : l.length ≤ 1000) : ∀ (j i : Nat), i + j = l.length → ∀ n, j < n →
    G32_7 k n ((p : Int), cutAt (l.take i) p, (i : Int), l, v4, ()) = some ((p : Int), cutAt l p, l, v4, ()) := by
  intro j
  induction j with
  | zero =>
    intro i hij n hn
    obtain ⟨n, rfl⟩ : ∃ m, n = m + 1 := ⟨n - 1, by omega⟩
    rw [G32_7_eq, sel_neg (by simp only [ofNat_len]; omega), List.take_of_length_le (by omega)]
  | succ j ih =>
    intro i hij n hn
    obtain ⟨n, rfl⟩ : ∃ m, n = m + 1 := ⟨n - 1, by omega⟩
    have hlt : i < l.length := by omega
    have hi := ih (i + 1) (by omega) n (by omega)
    have hw : IntKind.i64.wrap ((i : Int) + 1) = ((i + 1 : Nat) : Int) := by rw [wrap64 (by omega) (by omega)]; omega
    rw [cut_step hlt] at hi
    rw [G32_7_eq]
    simp only [ofNat_len, Int.toNat_natCast, getD_of hlt]
    rw [sel_pos (by omega), hw]
    by_cases c : i = p
    · rw [if_pos c] at hi
      rw [sel_not, sel_pos (by omega)]
      exact hi
    · rw [if_neg c] at hi
      have hlen : (cutAt (l.take i) p).length ≤ 2000 := by unfold cutAt; rw [List.length_append, List.length_take, List.length_drop, List.length_take]; omega
      rw [sel_not, sel_neg (by omega), sel_pos (by omega), sel_pos (by omega), sel_pos (by omega)]
      exact hi
theorem G32_is (k : Nat) (l : Frs) (n : Int) (hk : 1000 < k) : G32 k ((l, ()), n, ()) = some (((wireT l n).1, ()), (wireT l n).2.1, (wireT l n).2.2, ()) := by
  rw [G32_eq, G76_is, ocall_some]
  unfold wireT
  (try simp only [])
  by_cases he : wireE l n = 0
  case neg => rw [sel_not, sel_neg he]; simp only [if_neg he]
  obtain ⟨h1, h2, h3, h4⟩ := wireE_ok he
  rw [sel_not, sel_pos he]
  simp only [if_pos he, ofNat_len]
  rw [sel_not, sel_neg (by omega), tmod_place h2]
  generalize placeAt l n = p at h4
  have h := pass_loop k p l [] (by omega) l.length 0 (by omega) k (by omega)
  rw [List.take_zero, show cutAt [] p = [] from by unfold cutAt; simp, Int.natCast_zero] at h
  rw [h, ocall_some]
  simp only [ofNat_len, Int.toNat_natCast, getD_of h4]
  rw [sel_pos (by omega), sel_pos (by omega)]
theorem G34_is (k : Nat) (l : Frs) (n : Int) : G34 k ((l, ()), n, ()) = some (((wireD l n).1, ()), (wireD l n).2, ()) := by
  rw [G34_eq, G76_is, ocall_some]
  unfold wireD
  (try simp only [])
  by_cases he : wireE l n = 0
  case neg => rw [sel_not, sel_neg he]; simp only [if_neg he]
  obtain ⟨h1, h2, h3, h4⟩ := wireE_ok he
  rw [sel_not, sel_pos he]
  simp only [if_pos he, ofNat_len]
  rw [sel_not, sel_neg (by omega)]
  simp only [tmod_place h2]
  generalize placeAt l n = p at h4
  simp only [Int.toNat_natCast, getD_of h4]
  rw [sel_pos (by omega), sel_pos (by omega), G30_is, ocall_some]
theorem G36_is (k : Nat) (a b : Frs) (hl : a.length ≤ 100000) (hk : a.length < k) (ha : ∀ x ∈ a, ∀ c ∈ x, byteOK c) (hb : ∀ x ∈ b, ∀ c ∈ x, byteOK c) : G36 k ((a, ()), (b, ()), ()) = some (decide (a = b), ()) := by
  rw [G36_eq, G27_is k a b (by omega) hk ha hb, ocall_some]
theorem wireP_in {l : Frs} {b x : List Int} (h : x ∈ (wireP l b).1) : x ∈ l ∨ x = b := by
  unfold wireP at h
  split at h
  · exact .inl h
  · split at h
    · exact .inl h
    · rcases List.mem_append.1 h with h | h
      · exact .inl h
      · exact .inr (List.mem_singleton.1 h)
theorem wireP_len (l : Frs) (b : List Int) : (wireP l b).1.length ≤ l.length + 1 := by
  unfold wireP
  split
  · simp
  · split <;> simp
theorem getD_in {l : Frs} {p : Nat} (h : p < l.length) : l.getD p [] ∈ l := by rw [getD_of h]; exact List.getElem_mem h
theorem wireT_in {l : Frs} {n : Int} {x : List Int} (h : x ∈ (wireT l n).1) : x ∈ l := by
  unfold wireT at h
  split at h
  · exact cut_mem h
  · exact h
theorem wireT_len (l : Frs) (n : Int) : (wireT l n).1.length ≤ l.length := by
  unfold wireT
  split
  · rename_i he
    rw [cut_len (wireE_ok he).2.2.2]; omega
  · exact Nat.le_refl _
theorem wireD_in {l : Frs} {n : Int} {x : List Int} (h : x ∈ (wireD l n).1) : x ∈ l := by
  unfold wireD at h
  split at h
  · rename_i he
    rcases wireP_in h with h | h
    · exact h
    · rw [h]; exact getD_in (wireE_ok he).2.2.2
  · exact h
theorem wireD_len (l : Frs) (n : Int) : (wireD l n).1.length ≤ l.length + 1 := by
  unfold wireD
  split
  · exact wireP_len _ _
  · exact Nat.le_succ _
theorem G28_is (k : Nat) : G28 k () = some (true, ()) := by
  rw [G28_eq, G29_is k [] [97] (by decide), ocall_some, show wireP [] [97] = ([[97]], 0) from rfl]
  (try simp only [])
  rw [G29_is k [[97]] [98] (by decide), ocall_some, show wireP [[97]] [98] = ([[97], [98]], 0) from rfl]
  (try simp only [])
  rw [G31_is k [[97], [98]] 3 (by simp), ocall_some, G33_is k [[97], [98]] 0 (by simp), ocall_some, G31_is k [] 0 (by simp), ocall_some]
  rw [show wireT [[97], [98]] 3 = ([[97]], [98], 0) from rfl, show wireD [[97], [98]] 0 = ([[97], [98], [97]], 0) from rfl, show wireT [] 0 = ([], [], 5) from rfl]
  (try simp only [])
  rw [G35_eq, ocall_some]
  rfl
end Go.Proofs.Ythglkecbfakmpaa.G
end
section
set_option linter.unusedVariables false
set_option linter.unusedSimpArgs false
namespace Go.Proofs.Ythglkecbfakmpaa.PureWireRight
open Go Go.Proofs.Ythglkecbfakmpaa Th Bits G
theorem same (a : Frs) (hl : a.length ≤ 400) (ha : ∀ x ∈ a, ∀ c ∈ x, byteOK c) : G36 5000 ((a, ()), (a, ()), ()) = some (true, ()) := by
  rw [G36_is 5000 a a (by omega) (by omega) ha ha, decide_eq_true rfl]
theorem main (l : Frs) (b : List Int) (n : Int) (hl : ∀ x ∈ l, ∀ c ∈ x, byteOK c) (hb : ∀ c ∈ b, byteOK c) : G5 5000 ((l, ()), b, n, ()) = some (true, ()) := by
  rw [G5_eq, G28_is, ocall_some]
  simp only [Bool.not_true, sel_false]
  obtain ⟨s, hs, hs2⟩ := G17_is 5000 (by omega) l
  rw [hs, ocall_some]
  cases s with
  | false => rfl
  | true =>
  obtain ⟨h1, h2⟩ := hs2 rfl
  simp only [Bool.not_true, sel_false, ofNat_len]
  by_cases hbl : (3000 : Int) < b.length
  · rw [sel_pos hbl]
  have hx : ∀ x ∈ l, x.length ≤ 100000 := fun x h => by have := h2 x h; omega
  have p1 := wireP_len l b
  have p2 := wireT_len l n
  have p3 := wireD_len l n
  rw [sel_neg hbl, G29_is _ _ _ (by omega), ocall_some, G30_is, ocall_some, G31_is _ _ _ hx, ocall_some, G32_is _ _ _ (by omega), ocall_some, G33_is _ _ _ hx, ocall_some, G34_is, ocall_some, G35_eq, ocall_some]
  simp only [ofNat_len, beq_self_eq_true, sel_true]
  rw [same _ (by omega) fun x h => by
    rcases wireP_in h with h | h
    · exact hl x h
    · rw [h]; exact hb, ocall_some]
  simp only [sel_true, decide_true]
  rw [same _ (by omega) fun x h => hl x (wireT_in h), ocall_some]
  simp only [sel_true, decide_true]
  rw [same _ (by omega) fun x h => hl x (wireD_in h), ocall_some]
  simp only [sel_true, decide_true]
theorem pure (x0 : Ty.den (.st (.cons (.slice (.slice (.int .u8))) .nil))) (x1 : Ty.den (.slice (.int .u8))) (x2 : Ty.den (.int .i64)) (g0 : Ty.Good (.st (.cons (.slice (.slice (.int .u8))) .nil)) x0) (g1 : Ty.Good (.slice (.int .u8)) x1) (g2 : Ty.Good (.int .i64) x2) : ∃ k, F5 k (x0, (x1, (x2, PUnit.unit))) = some (true, PUnit.unit) :=
  ⟨5000, main x0.1 x1 x2 (fun x hx c hc => good_u8 ((g0.1.2.2 x hx).2.2 c hc)) (fun c hc => good_u8 (g1.2.2 c hc))⟩
end Go.Proofs.Ythglkecbfakmpaa.PureWireRight
end
section
set_option linter.unusedVariables false
set_option linter.unusedSimpArgs false
namespace Go.Proofs.Ythglkecbfakmpaa.PureWireFrames
open Go Go.Proofs.Ythglkecbfakmpaa Th Bits G PureWireRight
theorem loop (x u : Frs) (p m : Nat) (hm : u.length = m) (hx : x.length = m + 1) (hm2 : m ≤ 1000) (hp : p ≤ m) (hg : ∀ i, u[i]? = if i < p then x[i]? else x[i + 1]?) : ∀ (j i : Nat), i + j = m → ∀ n, j < n →
    G6_18 5000 n ((m : Int), (p : Int), (i : Int), x, u, ()) = some (.inl ()) := by
  intro j
  induction j with
  | zero =>
    intro i hij n hn
    obtain ⟨n, rfl⟩ : ∃ m, n = m + 1 := ⟨n - 1, by omega⟩
    rw [G6_18_eq, sel_neg (by omega)]
  | succ j ih =>
    intro i hij n hn
    obtain ⟨n, rfl⟩ : ∃ m, n = m + 1 := ⟨n - 1, by omega⟩
    have hi := ih (i + 1) (by omega) n (by omega)
    have hw : IntKind.i64.wrap ((i : Int) + 1) = ((i + 1 : Nat) : Int) := by rw [wrap64 (by omega) (by omega)]; omega
    have h1 : i < u.length := by omega
    have h2 : i < x.length := by omega
    have h3 : i + 1 < x.length := by omega
    have he := hg i
    rw [List.getElem?_eq_getElem h1, List.getElem?_eq_getElem h2, List.getElem?_eq_getElem h3] at he
    rw [G6_18_eq]
    simp only [ofNat_len, hw, Int.toNat_natCast, getD_of h1, getD_of h2, getD_of h3]
    rw [sel_pos (by omega)]
    by_cases c : i < p
    · rw [if_pos c] at he
      rw [sel_neg (by omega), sel_pos (by omega), sel_pos (by omega), sel_pos (by omega), sel_pos (by omega), Option.some.inj he, decide_eq_true rfl, Bool.not_true, sel_false]
      exact hi
    · rw [if_neg c] at he
      rw [sel_pos (by omega), sel_pos (by omega), sel_pos (by omega), sel_pos (by omega), sel_pos (by omega), Option.some.inj he, decide_eq_true rfl, Bool.not_true, sel_false]
      exact hi
theorem main (l : Frs) (b : List Int) (n : Int) (hl : ∀ x ∈ l, ∀ c ∈ x, byteOK c) (hb : ∀ c ∈ b, byteOK c) (h0 : 0 ≤ n) (h255 : n ≤ 255) : G6 5000 ((l, ()), b, n, ()) = some (true, ()) := by
  rw [G6_eq, G28_is, ocall_some]
  simp only [Bool.not_true, sel_false]
  obtain ⟨s, hs, hs2⟩ := G17_is 5000 (by omega) l
  rw [hs, ocall_some]
  cases s with
  | false => rfl
  | true =>
  obtain ⟨h1, h2⟩ := hs2 rfl
  simp only [Bool.not_true, sel_false, ofNat_len]
  by_cases hbl : (3000 : Int) < b.length
  · rw [sel_pos hbl]
  have hx : ∀ x ∈ l ++ [b], x.length ≤ 100000 := fun x h => by
    rcases List.mem_append.1 h with h | h
    · have := h2 x h; omega
    · rw [List.mem_singleton.1 h]; omega
  rw [sel_neg hbl, G29_is _ _ _ (by omega), ocall_some]
  by_cases hful : 200 ≤ l.length
  · have hp : (wireP l b).1 = l ∧ (wireP l b).2 ≠ 0 := by
      unfold wireP
      by_cases c : 200 < l.length
      · rw [if_pos c]; exact ⟨rfl, by simp⟩
      · rw [if_neg c, if_pos (by omega)]; exact ⟨rfl, by simp⟩
    rw [sel_not, sel_neg hp.2, hp.1]
    (try simp only [])
    rw [same l (by omega) hl, ocall_some, sel_true, decide_eq_true (show (200 : Int) ≤ l.length by omega)]
  have hp : wireP l b = (l ++ [b], 0) := by unfold wireP; rw [if_neg (by omega), if_neg (by omega)]
  rw [hp]
  (try simp only [])
  have hlen : (l ++ [b]).length = l.length + 1 := by simp
  have hE : ∀ m : Int, 0 ≤ m → wireE (l ++ [b]) m = 0 := fun m hm => by unfold wireE; rw [if_neg (by rw [hlen]; omega), if_neg (by rw [hlen]; omega)]
  have hpl : placeAt (l ++ [b]) (l.length : Int) = l.length := by unfold placeAt; rw [hlen, Int.toNat_natCast, Nat.mod_eq_of_lt (by omega)]
  have hgd : (l ++ [b]).getD l.length [] = b := by simp
  have hT : wireT (l ++ [b]) (l.length : Int) = (l, b, 0) := by
    unfold wireT
    rw [if_pos (hE _ (by omega)), hpl, cut_app, hgd]
  have hD : wireD (l ++ [b]) (l.length : Int) = wireP (l ++ [b]) b := by
    unfold wireD
    rw [if_pos (hE _ (by omega)), hpl, hgd]
  rw [sel_not, sel_pos trivial, G31_is _ _ _ hx, ocall_some, G33_is _ _ _ hx, ocall_some, hT, hD]
  simp only [decide_true, Bool.not_true, sel_false]
  rw [same l (by omega) hl, ocall_some]
  have w1 : IntKind.i64.wrap ((l.length : Int) + 1) = ((l.length + 1 : Nat) : Int) := by rw [wrap64 (by omega) (by omega)]; omega
  have w2 : IntKind.i64.wrap ((l.length : Int) + 2) = ((l.length + 2 : Nat) : Int) := by rw [wrap64 (by omega) (by omega)]; omega
  obtain ⟨q, rfl⟩ := Int.eq_ofNat_of_zero_le h0
  have w3 : IntKind.i64.wrap (q : Int) = (q : Int) := wrap64 (by omega) (by omega)
  have w4 : (q : Int).tmod ((l.length + 1 : Nat) : Int) = ((q % (l.length + 1) : Nat) : Int) := rfl
  simp only [w1, w2, w3, w4, Bool.not_true, sel_false]
  have hk : q % (l.length + 1) < l.length + 1 := Nat.mod_lt _ (by omega)
  generalize q % (l.length + 1) = p at hk
  have hpp : placeAt (l ++ [b]) (p : Int) = p := by unfold placeAt; rw [hlen, Int.toNat_natCast, Nat.mod_eq_of_lt (by omega)]
  have hTp : wireT (l ++ [b]) (p : Int) = (cutAt (l ++ [b]) p, (l ++ [b]).getD p [], 0) := by
    unfold wireT
    rw [if_pos (hE _ (by omega)), hpp]
  have hcl : (cutAt (l ++ [b]) p).length = l.length := by rw [cut_len (by omega), hlen]; omega
  have hlp := loop (l ++ [b]) (cutAt (l ++ [b]) p) p l.length hcl hlen (by omega) (by omega) (fun i => cut_get (by omega)) l.length 0 (by omega) 5000 (by omega)
  rw [Int.natCast_zero] at hlp
  have tail : (ocall (G31 5000 ((l ++ [b], ()), (p : Int), ())) fun r_4 => sel (!decide (r_4.2.2.1 = 0)) (some (false, ())) (sel (decide (0 ≤ (p : Int))) (sel (decide ((p : Int) < ((l ++ [b]).length : Int))) (sel (!decide (ofBytes r_4.2.1 = ofBytes ((l ++ [b]).getD ((p : Int)).toNat []))) (some (false, ())) (sel (!decide ((r_4.1.1.length : Int) = (l.length : Int))) (some (false, ())) (ocall (G6_18 5000 5000 ((l.length : Int), (p : Int), 0, l ++ [b], r_4.1.1, ())) fun e => esel e (fun v => some (true, ())) fun e => some (e.1, ())))) none) none)) = some ((true : Bool), ()) := by
    rw [G31_is _ _ _ hx, ocall_some, hTp]
    simp only [decide_true, Bool.not_true, sel_false, Int.toNat_natCast]
    rw [sel_pos (by omega), sel_pos (by omega), hcl, decide_eq_true rfl, Bool.not_true, sel_false, hlp, ocall_some, esel_inl]
  by_cases hf2 : l.length + 1 = 200
  · have hP2 : wireP (l ++ [b]) b = (l ++ [b], 7) := by unfold wireP; rw [if_neg (by omega), if_pos (by omega)]
    rw [hP2]
    (try simp only [])
    rw [show (!decide (((7 : Int) = 0)) == decide (((l.length + 1 : Nat) : Int) < 200)) = false from by rw [decide_eq_false (show ¬ ((l.length + 1 : Nat) : Int) < 200 by omega)]; rfl, sel_false, sel_neg (by decide), sel_not, sel_neg (by omega)]
    exact tail
  · have hP2 : wireP (l ++ [b]) b = (l ++ [b] ++ [b], 0) := by unfold wireP; rw [if_neg (by omega), if_neg (by omega)]
    have hl2 : (l ++ [b] ++ [b]).length = l.length + 2 := by simp
    have hg2 : (l ++ [b] ++ [b]).getD (l.length + 1) [] = b := by rw [← hlen]; simp
    rw [hP2]
    simp only [hl2]
    rw [decide_eq_true (show ((l.length + 1 : Nat) : Int) < 200 by omega)]
    simp only [decide_true, beq_self_eq_true, Bool.not_true, sel_false, sel_true]
    rw [sel_pos (by omega), sel_pos (by omega), Int.toNat_natCast, hg2, decide_eq_true rfl, Bool.not_true, sel_false, sel_not, sel_neg (by omega)]
    exact tail
theorem pure (x0 : Ty.den (.st (.cons (.slice (.slice (.int .u8))) .nil))) (x1 : Ty.den (.slice (.int .u8))) (x2 : Ty.den (.int .u8)) (g0 : Ty.Good (.st (.cons (.slice (.slice (.int .u8))) .nil)) x0) (g1 : Ty.Good (.slice (.int .u8)) x1) (g2 : Ty.Good (.int .u8) x2) : ∃ k, F6 k (x0, (x1, (x2, PUnit.unit))) = some (true, PUnit.unit) :=
  ⟨5000, main x0.1 x1 x2 (fun x hx c hc => good_u8 ((g0.1.2.2 x hx).2.2 c hc)) (fun c hc => good_u8 (g1.2.2 c hc)) (good_u8 g2).1 (good_u8 g2).2⟩
end Go.Proofs.Ythglkecbfakmpaa.PureWireFrames
end
section
set_option linter.unusedVariables false
set_option linter.unusedSimpArgs false
namespace Go.Proofs.Ythglkecbfakmpaa.wireFrames
open Go.ChangeShapes Go.WideShapes Go.ChangeAt Go.RowKit Go.Proofs.Ythglkecbfakmpaa Th G
open Go.ChangeMaps (open_string shut_string)
theorem own : ownKnob Try.prog.godebug = none := by kernel_rfl
theorem laidOut : laidOutB Try.prog = true := by kernel_rfl
set_option maxRecDepth 100000 in
theorem lifted (os : Os) (started : os.Started) (H : Type) (enc : TypeId × Value → H) :
    ReturnsInHanded {} Try.checked os 6 .any (Rows.wireFramesSpec.pre6 enc Try.prog Try.f6 Rows.wireFramesRow.domain false) (Rows.wireFramesSpec.post enc Try.prog Try.f6 false true false false) := by
  refine returnsInHanded_of_change_sized (C := Try.checked) own started (by kernel_rfl) Try.func6
    (ChangeSpec.witness6 (enc := enc) (C := Try.checked) false ⟨#[], #[.agg #[.slice none 0 0], .slice none 0 0, .int .u8 0], []⟩ 8 (by kernel_rfl) (by kernel_rfl) (by kernel_rfl) (by kernel_rfl)) ?_
  intro W base args ds gs before hval0 hW hcnd hsz0 _
  have hsz : (DataW.weightsEach Try.prog (Try.f6.params.toList ++ Rows.wireFramesSpec.plain.varTypes Try.prog) (ds ++ gs)).all (· ≤ reachBytes) = true := hsz0
  have hval : ∀ (j : Nat) t v, Try.f6.params[j]? = some t → args[j]? = some v → Value.okWide Try.prog W .any base t v := hval0
  have hW' := hW
  obtain ⟨p, q, hA0, hV, rfl, hfz, hnd⟩ := hW
  have hA : DataW.TrodAll enc Try.prog W 0 (fun _ => true) true Try.f6.params.toList args.toList ds p := hA0
  rw [Try.params6] at hA hval hsz
  obtain ⟨v0, vs0, d0, ds0, p0, q0, hargs, rfl, rfl, h0, r0⟩ := trodAll_cons hA
  obtain ⟨v1, vs1, d1, ds1, p1, q1, rfl, rfl, rfl, h1, r1⟩ := trodAll_cons r0
  obtain ⟨v2, vs2, d2, ds2, p2, q2, rfl, rfl, rfl, h2, r2⟩ := trodAll_cons r1
  obtain ⟨rfl, rfl, rfl⟩ := trodAll_nil r2
  obtain rfl : args = #[v0, v1, v2] := by cases args; simp_all
  obtain ⟨rfl, rfl⟩ := trodVars_none hV
  obtain ⟨x0, a0, g0⟩ := open_arg (T := (.st (.cons (.slice (.slice (.int .u8))) .nil))) (by kernel_rfl) (hval 0 45 v0 rfl rfl) h0 (weights_of hsz (j := 0) (t := 45) rfl rfl)
  have k0 := h0
  have lt0 : ∀ x ∈ p0, x.block < W.heap.size := by obtain ⟨m, hm⟩ := k0; exact DataW.trod_lt m _ _ _ hm
  obtain ⟨x1, a1, g1⟩ := open_arg (T := (.slice (.int .u8))) (by kernel_rfl) (hval 1 35 v1 rfl rfl) h1 (weights_of hsz (j := 1) (t := 35) rfl rfl)
  have k1 := h1
  have lt1 : ∀ x ∈ p1, x.block < W.heap.size := by obtain ⟨m, hm⟩ := k1; exact DataW.trod_lt m _ _ _ hm
  obtain ⟨x2, a2, g2⟩ := open_arg (T := (.int .u8)) (by kernel_rfl) (hval 2 5 v2 rfl rfl) h2 (weights_of hsz (j := 2) (t := 5) rfl rfl)
  have k2 := h2
  have lt2 : ∀ x ∈ p2, x.block < W.heap.size := by obtain ⟨m, hm⟩ := k2; exact DataW.trod_lt m _ _ _ hm
  obtain ⟨k, hk⟩ := PureWireFrames.pure x0 x1 x2 g0 g1 g2
  clear hA0 hval0 hsz0 hsz
  refine (law_of (fn6 k [Ty.av (.st (.cons (.slice (.slice (.int .u8))) .nil)) x0, Ty.av (.slice (.int .u8)) x1, Ty.av (.int .u8) x2] (x0, (x1, (x2, PUnit.unit))) (true, PUnit.unit) rfl rfl hk) (fun _ _ hr => by cases hr) (us := [v0, v1, v2]) ⟨a0, a1, a2, trivial⟩).mono fun e W' ⟨he, bel⟩ => ?_
  subst he
  exact ⟨_, rfl, _, _, _, [], _, [], hW', trodAll_mk1 (shut_bool Try.underlying4 _), (trodAll_cons_mk (Below.trod laidOut (by kernel_rfl) (of_decide_eq_true (by kernel_rfl)) k0 bel lt0) (trodAll_cons_mk (Below.trod laidOut (by kernel_rfl) (of_decide_eq_true (by kernel_rfl)) k1 bel lt1) (trodAll_cons_mk (Below.trod laidOut (by kernel_rfl) (of_decide_eq_true (by kernel_rfl)) k2 bel lt2) trodAll_mk0))), rfl, bel.frame _, fun h => by cases h⟩
theorem over : Rows.wireFramesRow.holds Try.pinned (OpenSpec.ofChange Rows.wireFramesSpec) :=
  OpenClaim.holds_of_wide 6 Try.f6 rfl rfl rfl rfl rfl rfl rfl ⟨rfl, rfl, rfl, rfl, rfl⟩ rfl rfl rfl rfl rfl (by kernel_rfl) Try.func6 (by kernel_rfl)
    (of_decide_eq_true (by kernel_rfl)) (by unfold Func.isWrapper; first | (rw [if_pos (by decide +kernel)]; kernel_rfl) | (rw [if_neg (by decide +kernel)]; exact ⟨rfl, rfl⟩))
    (fun os started H enc _ => lifted os started H enc)
end Go.Proofs.Ythglkecbfakmpaa.wireFrames
namespace Go.Proofs.Ythglkecbfakmpaa
theorem wireFrames_holds : Rows.WireFramesSaid := wireFrames.over
end Go.Proofs.Ythglkecbfakmpaa
end
