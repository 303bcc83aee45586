/- The statement BitmapBack, out of what its function answers. No condition. -/
import Derived.Test.YthglkecbfakmpaaQBitmapBack2
import Derived.Test.YthglkecbfakmpaaRows
import Derived.Carry
section
set_option linter.unusedVariables false
set_option linter.unusedSimpArgs false
namespace Go.Proofs.Ythglkecbfakmpaa.G
open Go Go.Proofs.Ythglkecbfakmpaa.Th
noncomputable def L87 (k : Nat) : LOrc := fun R lk s K => match lk with
  | .loop r => bif Nat.beq r 2 then link m87_2 x87_2 (F87_2 k k) s K else none
  | .label l => none
theorem lk_L87_2 (k : Nat) : LoopOK Try.prog 21 (L87 k) b87_2 := loopOK_of hm hT (ok_O59 k) (fun _ _ _ h => h) rfl (lk87_2_ k) rfl rfl (F := F87_2 k) (fun _ => rfl) (fun _ _ => rfl) (n := k) fun _ _ _ => rfl
noncomputable def F87 (k : Nat) (v : mi87.den) : Option mo87.den := runF TI (O59 k) (L87 k) c87 mi87 mo87 v
theorem lk87 (k : Nat) : LinksOK Try.prog 21 (L87 k) c87 := (And.intro True.intro (And.intro (And.intro True.intro (lk_L87_2 k)) (And.intro True.intro True.intro)))
theorem fn87 (k : Nat) (a0 : AV) (rest : List AV) (x : mi87.den) (r : mo87.den) (h1 : (a0 :: rest).length = mi87.items.length) (h2 : mi87.dec (startE a0 rest) = some x) (h3 : F87 k x = some r) : CallOK Try.prog 87 (a0 :: rest) (.back (ansOf (outL mo87.items r)) [.lent []]) :=
  call_ofE hm hT (ok_O59 k) (fn := Try.f87) (c := c87) Try.func87 rfl rfl rfl (lk87 k) rfl (by decide) rfl h1 h2 h3
noncomputable def O87 (k : Nat) : Orc := fun R f args K => bif Nat.beq f 87 then callE mi87 mo87 (F87 k) args K else O59 k R f args K
theorem ok_O87 (k : Nat) : OrcOK (O87 k) (CallOK Try.prog) := orc_addE (fn87 k) (ok_O59 k)
noncomputable def c68 : Code := Try.f68.body.getD .skip
noncomputable def mi68 : Msk := ⟨[(.tmp 0, .val (.st (.cons (.int .u64) (.cons (.int .u64) .nil))))], []⟩
noncomputable def mo68 : Msk := ⟨[(.tmp 2, .row false (.int .u8)), (.tmp 3, .val (.int .i64))], []⟩
noncomputable def L68 (k : Nat) : LOrc := fun _ _ _ _ => none
noncomputable def F68 (k : Nat) (v : mi68.den) : Option mo68.den := runF TI (O87 k) (L68 k) c68 mi68 mo68 v
theorem lk68 (k : Nat) : LinksOK Try.prog 19 (L68 k) c68 := (And.intro True.intro (And.intro (And.intro True.intro (And.intro (And.intro True.intro True.intro) True.intro)) (And.intro True.intro (And.intro (And.intro True.intro (And.intro True.intro True.intro)) (And.intro True.intro True.intro)))))
theorem fn68 (k : Nat) (args : List AV) (x : mi68.den) (r : mo68.den) (h1 : args.length = mi68.items.length) (h2 : mi68.dec (Th.start args) = some x) (h3 : F68 k x = some r) : CallOK Try.prog 68 args (ansOf (outL mo68.items r)) :=
  call_of hm hT (ok_O87 k) (fn := Try.f68) (c := c68) Try.func68 rfl rfl rfl (lk68 k) rfl (by decide) rfl h1 h2 h3
noncomputable def O68 (k : Nat) : Orc := fun R f args K => bif Nat.beq f 68 then callF mi68 mo68 (F68 k) args K else O87 k R f args K
theorem ok_O68 (k : Nat) : OrcOK (O68 k) (CallOK Try.prog) := orc_add (fn68 k) (ok_O87 k)
noncomputable def c89 : Code := Try.f89.body.getD .skip
noncomputable def mi89 : Msk := ⟨[(.tmp 0, .val (.slice (.int .u8)))], []⟩
noncomputable def mo89 : Msk := ⟨[(.tmp 2, .val (.int .u64))], []⟩
noncomputable def L89_3 (k : Nat) : LOrc := fun _ _ _ _ => none
noncomputable def b89_3 : Code := (findLoop 3 c89).getD .skip
noncomputable def m89_3 : Msk := ⟨[(.tmp 3, .val (.int .u64)), (.tmp 7, .val (.slice (.int .u8))), (.tmp 8, .val (.int .i64)), (.tmp 9, .val (.int .i64))], []⟩
noncomputable def x89_3 : List (X × Msk) := [(.exit 0, ⟨[(.tmp 3, .val (.int .u64))], []⟩)]
noncomputable def F89_3 (k : Nat) : Nat → m89_3.den → Option (denE x89_3)
  | 0, _ => none
  | j + 1, v => round TI (O68 k) (L89_3 k) b89_3 m89_3 x89_3 (F89_3 k j) v
theorem lk89_3_ (k : Nat) : LinksOK Try.prog 20 (L89_3 k) b89_3 := (And.intro True.intro (And.intro (And.intro True.intro True.intro) (And.intro (And.intro True.intro True.intro) True.intro)))
noncomputable def L89 (k : Nat) : LOrc := fun R lk s K => match lk with
  | .loop r => bif Nat.beq r 3 then link m89_3 x89_3 (F89_3 k k) s K else none
  | .label l => none
theorem lk_L89_3 (k : Nat) : LoopOK Try.prog 20 (L89 k) b89_3 := loopOK_of hm hT (ok_O68 k) (fun _ _ _ h => h) rfl (lk89_3_ k) rfl rfl (F := F89_3 k) (fun _ => rfl) (fun _ _ => rfl) (n := k) fun _ _ _ => rfl
noncomputable def F89 (k : Nat) (v : mi89.den) : Option mo89.den := runF TI (O68 k) (L89 k) c89 mi89 mo89 v
theorem lk89 (k : Nat) : LinksOK Try.prog 20 (L89 k) c89 := (And.intro True.intro (And.intro True.intro (And.intro (And.intro True.intro (lk_L89_3 k)) (And.intro True.intro True.intro))))
theorem fn89 (k : Nat) (args : List AV) (x : mi89.den) (r : mo89.den) (h1 : args.length = mi89.items.length) (h2 : mi89.dec (Th.start args) = some x) (h3 : F89 k x = some r) : CallOK Try.prog 89 args (ansOf (outL mo89.items r)) :=
  call_of hm hT (ok_O68 k) (fn := Try.f89) (c := c89) Try.func89 rfl rfl rfl (lk89 k) rfl (by decide) rfl h1 h2 h3
noncomputable def O89 (k : Nat) : Orc := fun R f args K => bif Nat.beq f 89 then callF mi89 mo89 (F89 k) args K else O68 k R f args K
theorem ok_O89 (k : Nat) : OrcOK (O89 k) (CallOK Try.prog) := orc_add (fn89 k) (ok_O68 k)
noncomputable def c70 : Code := Try.f70.body.getD .skip
noncomputable def mi70 : Msk := ⟨[(.tmp 0, .val (.slice (.int .u8)))], []⟩
noncomputable def mo70 : Msk := ⟨[(.res 2, .val (.st (.cons (.int .u64) (.cons (.int .u64) .nil)))), (.tmp 3, .val (.int .i64)), (.tmp 4, .val (.int .i64))], []⟩
noncomputable def L70 (k : Nat) : LOrc := fun _ _ _ _ => none
noncomputable def F70 (k : Nat) (v : mi70.den) : Option mo70.den := runF TI (O89 k) (L70 k) c70 mi70 mo70 v
theorem lk70 (k : Nat) : LinksOK Try.prog 30 (L70 k) c70 := (And.intro True.intro (And.intro (And.intro True.intro (And.intro (And.intro True.intro True.intro) True.intro)) (And.intro True.intro (And.intro True.intro (And.intro (And.intro True.intro (And.intro (And.intro (And.intro True.intro (And.intro (And.intro True.intro True.intro) True.intro)) (And.intro True.intro True.intro)) True.intro)) (And.intro (And.intro True.intro (And.intro (And.intro True.intro True.intro) True.intro)) (And.intro True.intro True.intro)))))))
theorem fn70 (k : Nat) (args : List AV) (x : mi70.den) (r : mo70.den) (h1 : args.length = mi70.items.length) (h2 : mi70.dec (Th.start args) = some x) (h3 : F70 k x = some r) : CallOK Try.prog 70 args (ansOf (outL mo70.items r)) :=
  call_of hm hT (ok_O89 k) (fn := Try.f70) (c := c70) Try.func70 rfl rfl rfl (lk70 k) rfl (by decide) rfl h1 h2 h3
noncomputable def O70 (k : Nat) : Orc := fun R f args K => bif Nat.beq f 70 then callF mi70 mo70 (F70 k) args K else O89 k R f args K
theorem ok_O70 (k : Nat) : OrcOK (O70 k) (CallOK Try.prog) := orc_add (fn70 k) (ok_O89 k)
noncomputable def c63 : Code := Try.f63.body.getD .skip
noncomputable def mi63 : Msk := ⟨[(.tmp 0, .val (.st (.cons (.int .u64) (.cons (.int .u64) .nil)))), (.tmp 1, .val (.int .i64))], []⟩
noncomputable def mo63 : Msk := ⟨[(.tmp 4, .val .bool)], []⟩
noncomputable def L63 (k : Nat) : LOrc := fun _ _ _ _ => none
noncomputable def F63 (k : Nat) (v : mi63.den) : Option mo63.den := runF TI (O70 k) (L63 k) c63 mi63 mo63 v
theorem lk63 (k : Nat) : LinksOK Try.prog 12 (L63 k) c63 := (And.intro True.intro (And.intro True.intro True.intro))
theorem fn63 (k : Nat) (args : List AV) (x : mi63.den) (r : mo63.den) (h1 : args.length = mi63.items.length) (h2 : mi63.dec (Th.start args) = some x) (h3 : F63 k x = some r) : CallOK Try.prog 63 args (ansOf (outL mo63.items r)) :=
  call_of hm hT (ok_O70 k) (fn := Try.f63) (c := c63) Try.func63 rfl rfl rfl (lk63 k) rfl (by decide) rfl h1 h2 h3
noncomputable def O63 (k : Nat) : Orc := fun R f args K => bif Nat.beq f 63 then callF mi63 mo63 (F63 k) args K else O70 k R f args K
theorem ok_O63 (k : Nat) : OrcOK (O63 k) (CallOK Try.prog) := orc_add (fn63 k) (ok_O70 k)
noncomputable def c66 : Code := Try.f66.body.getD .skip
noncomputable def mi66 : Msk := ⟨[(.tmp 0, .val (.st (.cons (.int .u64) (.cons (.int .u64) .nil))))], []⟩
noncomputable def mo66 : Msk := ⟨[(.tmp 2, .row false (.int .i64))], []⟩
noncomputable def L66_g0 (k : Nat) : LOrc := fun _ _ _ _ => none
noncomputable def b66_g0 : Code := (findScope 0 c66).getD .skip
noncomputable def l66_g0 : List (X × Msk) := [(.goto 0, ⟨[(.tmp 1, .ptr 1 0), (.tmp 3, .row false (.int .i64)), (.tmp 4, .val (.int .i64)), (.cell 1 0, .val (.int .u64)), (.cell 1 1, .val (.int .u64))], [(1, 2)]⟩)]
noncomputable def x66_g0 : List (X × Msk) := [(.ret, ⟨[(.tmp 2, .row false (.int .i64))], []⟩)]
noncomputable def F66_g0 (k : Nat) : Nat → denE l66_g0 → Option (denE x66_g0)
  | 0, _ => none
  | j + 1, v => pass TI (O63 k) (L66_g0 k) b66_g0 l66_g0 x66_g0 (F66_g0 k j) v
theorem lk66_g0_ (k : Nat) : LinksOK Try.prog 17 (L66_g0 k) b66_g0 := (And.intro True.intro (And.intro True.intro (And.intro True.intro (And.intro (And.intro True.intro (And.intro True.intro True.intro)) (And.intro True.intro (And.intro (And.intro True.intro (And.intro True.intro True.intro)) (And.intro True.intro True.intro)))))))
noncomputable def L66 (k : Nat) : LOrc := fun R lk s K => match lk with
  | .loop r => none
  | .label l => (match findLabel b66_g0 l with | some _ => linkJ l66_g0 x66_g0 (F66_g0 k k) l s K | none => none)
theorem lk_L66_g0 (k : Nat) : JumpsOK Try.prog 17 (L66 k) b66_g0 := jumpsOK_of hm hT (ok_O63 k) (fun _ _ _ h => h) rfl (lk66_g0_ k) rfl rfl (F := F66_g0 k) (fun _ => rfl) (fun _ _ => rfl) (n := k) fun R l s K rest hf => by
  show (match findLabel b66_g0 l with | some _ => linkJ l66_g0 x66_g0 (F66_g0 k k) l s K | none => none) = _
  rw [hf]
noncomputable def F66 (k : Nat) (v : mi66.den) : Option mo66.den := runF TI (O63 k) (L66 k) c66 mi66 mo66 v
theorem lk66 (k : Nat) : LinksOK Try.prog 17 (L66 k) c66 := (And.intro True.intro (And.intro (lk_L66_g0 k) (And.intro True.intro (And.intro True.intro (And.intro True.intro (And.intro (And.intro True.intro (And.intro True.intro True.intro)) (And.intro True.intro (And.intro (And.intro True.intro (And.intro True.intro True.intro)) (And.intro True.intro True.intro)))))))))
theorem fn66 (k : Nat) (args : List AV) (x : mi66.den) (r : mo66.den) (h1 : args.length = mi66.items.length) (h2 : mi66.dec (Th.start args) = some x) (h3 : F66 k x = some r) : CallOK Try.prog 66 args (ansOf (outL mo66.items r)) :=
  call_of hm hT (ok_O63 k) (fn := Try.f66) (c := c66) Try.func66 rfl rfl rfl (lk66 k) rfl (by decide) rfl h1 h2 h3
noncomputable def O66 (k : Nat) : Orc := fun R f args K => bif Nat.beq f 66 then callF mi66 mo66 (F66 k) args K else O63 k R f args K
theorem ok_O66 (k : Nat) : OrcOK (O66 k) (CallOK Try.prog) := orc_add (fn66 k) (ok_O63 k)
noncomputable def c65 : Code := Try.f65.body.getD .skip
noncomputable def mi65 : Msk := ⟨[(.tmp 0, .val (.slice (.int .i64))), (.tmp 1, .val (.slice (.int .i64)))], []⟩
noncomputable def mo65 : Msk := ⟨[(.tmp 4, .val .bool)], []⟩
noncomputable def L65_4 (k : Nat) : LOrc := fun _ _ _ _ => none
noncomputable def b65_4 : Code := (findLoop 4 c65).getD .skip
noncomputable def m65_4 : Msk := ⟨[(.tmp 0, .val (.slice (.int .i64))), (.tmp 1, .val (.slice (.int .i64))), (.tmp 5, .val (.int .i64))], []⟩
noncomputable def x65_4 : List (X × Msk) := [(.exit 0, ⟨[], []⟩), (.ret, ⟨[(.tmp 4, .val .bool)], []⟩)]
noncomputable def F65_4 (k : Nat) : Nat → m65_4.den → Option (denE x65_4)
  | 0, _ => none
  | j + 1, v => round TI (O66 k) (L65_4 k) b65_4 m65_4 x65_4 (F65_4 k j) v
theorem lk65_4_ (k : Nat) : LinksOK Try.prog 26 (L65_4 k) b65_4 := (And.intro (And.intro True.intro (And.intro True.intro True.intro)) (And.intro (And.intro True.intro (And.intro (And.intro True.intro True.intro) True.intro)) True.intro))
noncomputable def L65 (k : Nat) : LOrc := fun R lk s K => match lk with
  | .loop r => bif Nat.beq r 4 then link m65_4 x65_4 (F65_4 k k) s K else none
  | .label l => none
theorem lk_L65_4 (k : Nat) : LoopOK Try.prog 26 (L65 k) b65_4 := loopOK_of hm hT (ok_O66 k) (fun _ _ _ h => h) rfl (lk65_4_ k) rfl rfl (F := F65_4 k) (fun _ => rfl) (fun _ _ => rfl) (n := k) fun _ _ _ => rfl
noncomputable def F65 (k : Nat) (v : mi65.den) : Option mo65.den := runF TI (O66 k) (L65 k) c65 mi65 mo65 v
theorem lk65 (k : Nat) : LinksOK Try.prog 26 (L65 k) c65 := (And.intro True.intro (And.intro (And.intro True.intro (And.intro (And.intro True.intro True.intro) True.intro)) (And.intro (And.intro True.intro (lk_L65_4 k)) (And.intro True.intro True.intro))))
theorem fn65 (k : Nat) (args : List AV) (x : mi65.den) (r : mo65.den) (h1 : args.length = mi65.items.length) (h2 : mi65.dec (Th.start args) = some x) (h3 : F65 k x = some r) : CallOK Try.prog 65 args (ansOf (outL mo65.items r)) :=
  call_of hm hT (ok_O66 k) (fn := Try.f65) (c := c65) Try.func65 rfl rfl rfl (lk65 k) rfl (by decide) rfl h1 h2 h3
noncomputable def O65 (k : Nat) : Orc := fun R f args K => bif Nat.beq f 65 then callF mi65 mo65 (F65 k) args K else O66 k R f args K
theorem ok_O65 (k : Nat) : OrcOK (O65 k) (CallOK Try.prog) := orc_add (fn65 k) (ok_O66 k)
noncomputable def c56 : Code := Try.f56.body.getD .skip
noncomputable def mi56 : Msk := ⟨[], []⟩
noncomputable def mo56 : Msk := ⟨[(.tmp 0, .val .bool)], []⟩
noncomputable def L56 (k : Nat) : LOrc := fun _ _ _ _ => none
noncomputable def F56 (k : Nat) (v : mi56.den) : Option mo56.den := runF TI (O65 k) (L56 k) c56 mi56 mo56 v
theorem lk56 (k : Nat) : LinksOK Try.prog 82 (L56 k) c56 := (And.intro True.intro (And.intro True.intro (And.intro True.intro (And.intro True.intro (And.intro True.intro (And.intro True.intro True.intro))))))
theorem fn56 (k : Nat) (args : List AV) (x : mi56.den) (r : mo56.den) (h1 : args.length = mi56.items.length) (h2 : mi56.dec (Th.start args) = some x) (h3 : F56 k x = some r) : CallOK Try.prog 56 args (ansOf (outL mo56.items r)) :=
  call_of hm hT (ok_O65 k) (fn := Try.f56) (c := c56) Try.func56 rfl rfl rfl (lk56 k) rfl (by decide) rfl h1 h2 h3
noncomputable def O56 (k : Nat) : Orc := fun R f args K => bif Nat.beq f 56 then callF mi56 mo56 (F56 k) args K else O65 k R f args K
theorem ok_O56 (k : Nat) : OrcOK (O56 k) (CallOK Try.prog) := orc_add (fn56 k) (ok_O65 k)
noncomputable def c14 : Code := Try.f14.body.getD .skip
noncomputable def mi14 : Msk := ⟨[(.tmp 0, .val (.st (.cons (.int .u64) (.cons (.int .u64) .nil)))), (.tmp 1, .val (.slice (.int .u8))), (.tmp 2, .val (.int .u8))], []⟩
noncomputable def mo14 : Msk := ⟨[(.tmp 6, .val .bool)], []⟩
noncomputable def L14 (k : Nat) : LOrc := fun _ _ _ _ => none
noncomputable def F14 (k : Nat) (v : mi14.den) : Option mo14.den := runF TI (O56 k) (L14 k) c14 mi14 mo14 v
theorem lk14 (k : Nat) : LinksOK Try.prog 140 (L14 k) c14 := (And.intro True.intro (And.intro (And.intro True.intro (And.intro (And.intro True.intro True.intro) True.intro)) (And.intro (And.intro True.intro (And.intro (And.intro True.intro True.intro) True.intro)) (And.intro True.intro (And.intro (And.intro True.intro (And.intro (And.intro True.intro (And.intro True.intro (And.intro True.intro (And.intro True.intro (And.intro (And.intro True.intro True.intro) True.intro))))) (And.intro True.intro (And.intro (And.intro True.intro True.intro) True.intro)))) (And.intro True.intro (And.intro (And.intro True.intro (And.intro (And.intro True.intro True.intro) True.intro)) (And.intro True.intro (And.intro True.intro True.intro)))))))))
theorem fn14 (k : Nat) (args : List AV) (x : mi14.den) (r : mo14.den) (h1 : args.length = mi14.items.length) (h2 : mi14.dec (Th.start args) = some x) (h3 : F14 k x = some r) : CallOK Try.prog 14 args (ansOf (outL mo14.items r)) :=
  call_of hm hT (ok_O56 k) (fn := Try.f14) (c := c14) Try.func14 rfl rfl rfl (lk14 k) rfl (by decide) rfl h1 h2 h3
noncomputable def O14 (k : Nat) : Orc := fun R f args K => bif Nat.beq f 14 then callF mi14 mo14 (F14 k) args K else O56 k R f args K
theorem ok_O14 (k : Nat) : OrcOK (O14 k) (CallOK Try.prog) := orc_add (fn14 k) (ok_O56 k)
end Go.Proofs.Ythglkecbfakmpaa.G
end
section
set_option maxRecDepth 1000000
set_option linter.unusedVariables false
set_option linter.unusedSimpArgs false
namespace Go.Proofs.Ythglkecbfakmpaa.G
open Go Go.Proofs.Ythglkecbfakmpaa Th
noncomputable def G82 (k : Nat) (v : Int × Int × Int × Unit) : Option (Int × Int × Int × Unit ⊕ Int × Int × Int × Unit) := F82 k v
theorem G82_eq (k : Nat) (v0 v1 v2 : Int) : G82 k (v0, v1, v2, ()) = sel (decide (v0 ≤ 64)) (sel (decide (0 ≤ IntKind.i64.wrap (v0 - 1))) (some (Sum.inl (Int.fdiv 9223372036854775808 (2 ^ min (IntKind.i64.wrap (v0 - 1)).toNat 64), v1, v2, ()))) none) (sel (decide (0 ≤
 IntKind.i64.wrap (IntKind.i64.wrap (v0 - 64) - 1))) (some (Sum.inr (Int.fdiv 9223372036854775808 (2 ^ min (IntKind.i64.wrap (IntKind.i64.wrap (v0 - 64) - 1)).toNat 64), v1, v2, ()))) none) := by kernel_rfl
noncomputable def G86 (k : Nat) (v : (Int × Int × Unit) × Int × Unit) : Option (Bool × Unit) := F86 k v
theorem G86_eq (k : Nat) (v0 v1 v2 : Int) : G86 k ((v0, v1, ()), v2, ()) = ocall (G82 k (v2, v0, v1, ())) fun r => esel r (fun v => some (!decide (bits BinOp.and IntKind.u64 v.2.1 v.1 = 0), ())) fun e => some (!decide (bits BinOp.and IntKind.u64 e.2.2.1 e.1 = 0),
 ()) := by kernel_rfl
noncomputable def G61 (k : Nat) (v : (Int × Int × Unit) × Unit) : Option (Bool × Unit) := F61 k v
theorem G61_eq (k : Nat) (v0 v1 : Int) : G61 k ((v0, v1, ()), ()) = ocall (G86 k ((v0, v1, ()), 65, ())) fun r => sel (!r.1) (ocall (G86 k ((v0, v1, ()), 1, ())) fun r => some (r.1 == !decide (v1 = 0), ())) (some (false, ())) := by
 kernel_rfl
noncomputable def G81 (k : Nat) (v : Int × Unit) : Option (Bool × Unit) := F81 k v
theorem G81_eq (k : Nat) (v0 : Int) : G81 k (v0, ()) = sel (decide (1 < v0)) (sel (decide (v0 ≤ 128)) (some (!decide (v0 = 65), ())) (some (false, ()))) (some (false, ())) := by kernel_rfl
noncomputable def G57 (k : Nat) (v : (Int × Int × Unit) × Int × Unit) : Option ((Int × Int × Unit) × Int × Unit) := F57 k v
theorem G57_eq (k : Nat) (v0 v1 v2 : Int) : G57 k ((v0, v1, ()), v2, ()) = ocall (G61 k ((v0, v1, ()), ())) fun r => sel (!r.1) (some ((v0, v1, ()), 1, ())) (ocall (G81 k (v2, ())) fun r => sel (!r.1) (some ((v0, v1, ()), 1,
 ())) (ocall (G82 k (v2, v0, v1, ())) fun r => esel r (fun v => sel (!decide (v.2.2.1 = 0)) (some ((bits BinOp.or IntKind.u64 (bits BinOp.or IntKind.u64 v.2.1 v.1) 9223372036854775808, v.2.2.1, ()), 0, ())) (some ((bits BinOp.or IntKind.u64 v.2.1 v.1, v.2.2.1,
 ()), 0, ()))) fun e => sel (!decide (bits BinOp.or IntKind.u64 e.2.2.1 e.1 = 0)) (some ((bits BinOp.or IntKind.u64 e.2.1 9223372036854775808, bits BinOp.or IntKind.u64 e.2.2.1 e.1, ()), 0, ())) (some ((e.2.1, bits BinOp.or IntKind.u64 e.2.2.1 e.1, ()), 0,
 ())))) := by kernel_rfl
noncomputable def G59_3 (k : Nat) (j : Nat) (v : List Int × Int × Int × Int × Int × Int × Int × Unit) : Option (Int × Int × Int × Int × Unit ⊕ Int × Int × Int × Unit) := F59_3 k j v
theorem G59_3_eq (k : Nat) (j : Nat) (v0 : List Int) (v1 v2 v3 v4 v5 v6 : Int) : G59_3 k (j + 1) (v0, v1, v2, v3, v4, v5, v6, ()) = sel (decide (v2 < v1)) (sel (decide (0 ≤ v2)) (sel (decide (v2 < Int.ofNat v0.length)) (ocall (G57 k ((v5, v6, ()), v0.getD v2.toNat 0, ())) fun
 r => sel (!decide (r.2.1 = 0)) (some (Sum.inr (r.2.1, 0, 0, ()))) (G59_3 k j (v0, v1, IntKind.i64.wrap (v2 + 1), v3, v4, r.1.1, r.1.2.1, ()))) none) none) (some (Sum.inl (v3, v4, v5, v6, ()))) := by kernel_rfl
noncomputable def G59 (k : Nat) (v : List Int × Unit) : Option ((Int × Int × Unit) × Int × Unit) := F59 k v
theorem G59_eq (k : Nat) (v0 : List Int) : G59 k (v0, ()) = ocall (G59_3 k k (v0, Int.ofNat v0.length, 0, 0, 0, 0, 0, ())) fun e => esel e (fun v => some ((v.2.2.1, v.2.2.2.1, ()), 0, ())) fun e => some ((e.2.1, e.2.2.1, ()), e.1, ()) := by kernel_rfl
noncomputable def G87_2 (k : Nat) (j : Nat) (v : List Int × Int × Int × Unit) : Option (List Int × Unit) := F87_2 k j v
theorem G87_2_eq (k : Nat) (j : Nat) (v0 : List Int) (v1 v2 : Int) : G87_2 k (j + 1) (v0, v1, v2, ()) = sel (decide (v2 < 8)) (sel (decide (0 ≤ IntKind.i64.wrap (64 - IntKind.i64.wrap (8 * IntKind.i64.wrap (v2 + 1))))) (sel (decide ((v0.length + 1) * 1 ≤ 140737488355328)) (G87_2 k j (v0 ++
 [IntKind.u8.wrap (v1.fdiv (2 ^ min (IntKind.i64.wrap (64 - IntKind.i64.wrap (8 * IntKind.i64.wrap (v2 + 1)))).toNat 64))], v1, IntKind.i64.wrap (v2 + 1), ())) none) none) (some (v0, ())) := by kernel_rfl
noncomputable def G87 (k : Nat) (v : List Int × Int × Unit) : Option (List Int × Unit) := F87 k v
theorem G87_eq (k : Nat) (v0 : List Int) (v1 : Int) : G87 k (v0, v1, ()) = ocall (G87_2 k k (v0, v1, 0, ())) fun e => some (e.1, ()) := by kernel_rfl
noncomputable def G68 (k : Nat) (v : (Int × Int × Unit) × Unit) : Option (List Int × Int × Unit) := F68 k v
theorem G68_eq (k : Nat) (v0 v1 : Int) : G68 k ((v0, v1, ()), ()) = ocall (G61 k ((v0, v1, ()), ())) fun r => sel (!r.1) (some ([], 1, ())) (ocall (G87 k ([], v0, ())) fun r => sel (!decide (v1 = 0)) (ocall (G87 k (r.1, v1, ())) fun r => some
 (r.1, 0, ())) (some (r.1, 0, ()))) := by kernel_rfl
noncomputable def G89_3 (k : Nat) (j : Nat) (v : Int × List Int × Int × Int × Unit) : Option (Int × Unit) := F89_3 k j v
theorem G89_3_eq (k : Nat) (j : Nat) (v0 : Int) (v1 : List Int) (v2 v3 : Int) : G89_3 k (j + 1) (v0, v1, v2, v3, ()) = sel (decide (v3 < v2)) (sel (decide (0 ≤ v3)) (sel (decide (v3 < Int.ofNat v1.length)) (G89_3 k j (bits BinOp.or IntKind.u64 (IntKind.u64.wrap (v0 * 2 ^ min (Int.toNat 8)
 64)) (IntKind.u64.wrap (v1.getD v3.toNat 0)), v1, v2, IntKind.i64.wrap (v3 + 1), ())) none) none) (some (v0, ())) := by kernel_rfl
noncomputable def G89 (k : Nat) (v : List Int × Unit) : Option (Int × Unit) := F89 k v
theorem G89_eq (k : Nat) (v0 : List Int) : G89 k (v0, ()) = sel (decide (8 ≤ Int.ofNat v0.length)) (sel (decide (Int.ofNat v0.length ≤ Int.ofNat v0.length)) (ocall (G89_3 k k (0, List.drop (Int.ofNat 0).toNat (List.take (Int.toNat 8) v0), Int.ofNat (List.drop (Int.ofNat 0).toNat (List.take
 (Int.toNat 8) v0)).length, 0, ())) fun e => some (e.1, ())) none) none := by kernel_rfl
noncomputable def G70 (k : Nat) (v : List Int × Unit) : Option ((Int × Int × Unit) × Int × Int × Unit) := F70 k v
theorem G70_eq (k : Nat) (v0 : List Int) : G70 k (v0, ()) = sel (decide (Int.ofNat v0.length < 8)) (some ((0, 0, ()), 0, 2, ())) (ocall (G89 k (v0, ())) fun r => ocall (G86 k ((r.1, 0, ()), 1, ())) fun r_1 => sel r_1.1 (sel (decide (Int.ofNat v0.length
 < 16)) (some ((0, 0, ()), 0, 2, ())) (sel (decide (8 ≤ Int.ofNat v0.length)) (sel (decide (Int.ofNat v0.length ≤ Int.ofNat v0.length)) (sel (decide (Int.ofNat v0.length ≤ Int.ofNat v0.length)) (ocall (G89 k (List.drop (Int.toNat 8) (List.take (Int.ofNat v0.length).toNat v0),
 ())) fun r_2 => ocall (G61 k ((r.1, r_2.1, ()), ())) fun r_3 => sel (!r_3.1) (some ((0, 0, ()), 0, 3, ())) (some ((r.1, r_2.1, ()), 16, 0, ()))) none) none) none)) (ocall (G61 k ((r.1, 0, ()), ())) fun r_2 => sel (!r_2.1) (some
 ((0, 0, ()), 0, 3, ())) (some ((r.1, 0, ()), 8, 0, ())))) := by kernel_rfl
noncomputable def G63 (k : Nat) (v : (Int × Int × Unit) × Int × Unit) : Option (Bool × Unit) := F63 k v
theorem G63_eq (k : Nat) (v0 v1 v2 : Int) : G63 k ((v0, v1, ()), v2, ()) = ocall (G81 k (v2, ())) fun r => sel r.1 (ocall (G86 k ((v0, v1, ()), v2, ())) fun r => some (r.1, ())) (some (false, ())) := by kernel_rfl
noncomputable def G66_g0 (k : Nat) (j : Nat) (v : List Int × Int × Int × Int × Unit) : Option (List Int × Unit) := F66_g0 k j v
theorem G66_g0_eq (k : Nat) (j : Nat) (v0 : List Int) (v1 v2 v3 : Int) : G66_g0 k (j + 1) (v0, v1, v2, v3, ()) = ocall (G63 k ((v2, v3, ()), v1, ())) fun r => sel r.1 (sel (decide ((v0.length + 1) * 8 ≤ 140737488355328)) (sel (decide (IntKind.i64.wrap (v1 + 1) ≤ 128)) (G66_g0
 k j (v0 ++ [v1], IntKind.i64.wrap (v1 + 1), v2, v3, ())) (some (v0 ++ [v1], ()))) none) (sel (decide (IntKind.i64.wrap (v1 + 1) ≤ 128)) (G66_g0 k j (v0, IntKind.i64.wrap (v1 + 1), v2, v3, ())) (some (v0, ()))) := by kernel_rfl
noncomputable def G66 (k : Nat) (v : (Int × Int × Unit) × Unit) : Option (List Int × Unit) := F66 k v
theorem G66_eq (k : Nat) (v0 v1 : Int) : G66 k ((v0, v1, ()), ()) = ocall (G63 k ((v0, v1, ()), 2, ())) fun r => sel r.1 (ocall (G66_g0 k k ([2], IntKind.i64.wrap (2 + 1), v0, v1, ())) fun e => some (e.1, ())) (ocall (G66_g0 k k ([], IntKind.i64.wrap
 (2 + 1), v0, v1, ())) fun e => some (e.1, ())) := by kernel_rfl
noncomputable def G65_4 (k : Nat) (j : Nat) (v : List Int × List Int × Int × Unit) : Option (Unit ⊕ Bool × Unit) := F65_4 k j v
theorem G65_4_eq (k : Nat) (j : Nat) (v0 v1 : List Int) (v2 : Int) : G65_4 k (j + 1) (v0, v1, v2, ()) = sel (decide (v2 < Int.ofNat v0.length)) (sel (decide (0 ≤ v2)) (sel (decide (v2 < Int.ofNat v0.length)) (sel (decide (0 ≤ v2)) (sel (decide (v2 < Int.ofNat v1.length)) (sel (!decide
 (v0.getD v2.toNat 0 = v1.getD v2.toNat 0)) (some (Sum.inr (false, ()))) (G65_4 k j (v0, v1, IntKind.i64.wrap (v2 + 1), ()))) none) none) none) none) (some (Sum.inl ())) := by kernel_rfl
noncomputable def G65 (k : Nat) (v : List Int × List Int × Unit) : Option (Bool × Unit) := F65 k v
theorem G65_eq (k : Nat) (v0 v1 : List Int) : G65 k (v0, v1, ()) = sel (!decide (Int.ofNat v0.length = Int.ofNat v1.length)) (some (false, ())) (ocall (G65_4 k k (v0, v1, 0, ())) fun e => esel e (fun v => some (true, ())) fun e => some (e.1, ())) := by
 kernel_rfl
noncomputable def G56 (k : Nat) (v : Unit) : Option (Bool × Unit) := F56 k v
theorem G56_eq (k : Nat) : G56 k () = ocall (G59 k ([4, 2, 128], ())) fun r => ocall (G68 k ((r.1.1, r.1.2.1, ()), ())) fun r_1 => sel (decide ((0 + r_1.1.length) * 1 ≤ 140737488355328)) (sel (decide ((r_1.1.length + 1) * 1 ≤ 140737488355328)) (ocall (G70 k (r_1.1 ++
 [9], ())) fun r_2 => ocall (G57 k ((r.1.1, r.1.2.1, ()), 65, ())) fun r_3 => sel (decide (r.2.1 = 0)) (sel (decide (r_1.2.1 = 0)) (sel (decide (r_2.2.2.1 = 0)) (sel (decide (r_3.2.1 = 1)) (sel (decide (ofBytes r_1.1 = [208, 0, 0, 0, 0, 0, 0, 0, 0, 0, 0, 0, 0, 0, 0, 1])) (sel
 (sameI r_2.1.1 r.1.1 && (sameI r_2.1.2.1 r.1.2.1 && true)) (sel (decide (r_2.2.1 = 16)) (ocall (G66 k ((r_2.1.1, r_2.1.2.1, ()), ())) fun r => ocall (G65 k (r.1, [2, 4, 128], ())) fun r => sel r.1 (ocall (G63 k ((r_2.1.1, r_2.1.2.1, ()), 4, ())) fun r => sel
 r.1 (ocall (G63 k ((r_2.1.1, r_2.1.2.1, ()), 1, ())) fun r => sel (!r.1) (ocall (G61 k ((r_2.1.1, r_2.1.2.1, ()), ())) fun r => some (r.1, ())) (some (false, ()))) (some (false, ()))) (some (false, ()))) (some (false, ())))
 (some (false, ()))) (some (false, ()))) (some (false, ()))) (some (false, ()))) (some (false, ()))) (some (false, ()))) none) none := by kernel_rfl
noncomputable def G14 (k : Nat) (v : (Int × Int × Unit) × List Int × Int × Unit) : Option (Bool × Unit) := F14 k v
theorem G14_eq (k : Nat) (v0 v1 : Int) (v2 : List Int) (v3 : Int) : G14 k ((v0, v1, ()), v2, v3, ()) = ocall (G56 k ()) fun r => sel (!r.1) (some (false, ())) (sel (decide (3000 < Int.ofNat v2.length)) (some (true, ())) (ocall (G68 k ((v0, v1, ()),
 ())) fun r => sel (decide (r.2.1 = 0)) (sel (decide (0 < Int.ofNat r.1.length)) (sel (decide ((0 + r.1.length) * 1 ≤ 140737488355328)) (sel (decide ((r.1.length + v2.length) * 1 ≤ 140737488355328)) (ocall (G70 k (r.1 ++ v2, ())) fun r_1 => ocall (G66 k ((v0, v1, ()),
 ())) fun r_2 => ocall (G59 k (r_2.1, ())) fun r_3 => sel (!decide (Int.ofNat r.1.length = 0)) (sel (decide (Int.ofNat 0 ≤ (IntKind.i64.wrap v3).tmod (Int.ofNat r.1.length))) (sel (decide ((IntKind.i64.wrap v3).tmod (Int.ofNat r.1.length) ≤ Int.ofNat r.1.length)) (sel (decide
 (Int.ofNat r.1.length ≤ Int.ofNat r.1.length)) (ocall (G70 k (List.drop (Int.ofNat 0).toNat (List.take ((IntKind.i64.wrap v3).tmod (Int.ofNat r.1.length)).toNat r.1), ())) fun r_4 => sel (!decide (r_1.2.2.1 = 0)) (some (false, ())) (sel (!(sameI r_1.1.1 v0 && (sameI r_1.1.2.1 v1 &&
 true))) (some (false, ())) (sel (!decide (r_1.2.1 = Int.ofNat r.1.length)) (some (false, ())) (sel (!decide (r_3.2.1 = 0)) (some (false, ())) (sel (!(sameI r_3.1.1 v0 && (sameI r_3.1.2.1 v1 && true))) (some (false, ())) (sel (!decide (r_4.2.2.1 = 2)) (some (false,
 ())) (ocall (G70 k (v2, ())) fun r => sel (!decide (r.2.2.1 = 0)) (sel (sameI r.1.1 0 && (sameI r.1.2.1 0 && true)) (some (decide (r.2.1 = 0), ())) (some (false, ()))) (ocall (G68 k ((r.1.1, r.1.2.1, ()), ())) fun r_5 => sel (decide (r_5.2.1 = 0))
 (ocall (G61 k ((r.1.1, r.1.2.1, ()), ())) fun r_6 => sel r_6.1 (sel (decide (0 < r.2.1)) (sel (decide (r.2.1 ≤ Int.ofNat v2.length)) (sel (decide (Int.ofNat 0 ≤ r.2.1)) (sel (decide (r.2.1 ≤ Int.ofNat v2.length)) (sel (decide (Int.ofNat v2.length ≤ Int.ofNat v2.length)) (some (decide
 (ofBytes r_5.1 = ofBytes (List.drop (Int.ofNat 0).toNat (List.take r.2.1.toNat v2))), ())) none) none) none) (some (false, ()))) (some (false, ()))) (some (false, ()))) (some (false, ())))))))))) none) none) none) none) none) none) (ocall (G61 k ((v0, v1,
 ()), ())) fun r => sel r.1 (some (false, ())) (ocall (G70 k (v2, ())) fun r => sel (!decide (r.2.2.1 = 0)) (sel (sameI r.1.1 0 && (sameI r.1.2.1 0 && true)) (some (decide (r.2.1 = 0), ())) (some (false, ()))) (ocall (G68 k ((r.1.1, r.1.2.1,
 ()), ())) fun r_1 => sel (decide (r_1.2.1 = 0)) (ocall (G61 k ((r.1.1, r.1.2.1, ()), ())) fun r_2 => sel r_2.1 (sel (decide (0 < r.2.1)) (sel (decide (r.2.1 ≤ Int.ofNat v2.length)) (sel (decide (Int.ofNat 0 ≤ r.2.1)) (sel (decide (r.2.1 ≤ Int.ofNat v2.length)) (sel
 (decide (Int.ofNat v2.length ≤ Int.ofNat v2.length)) (some (decide (ofBytes r_1.1 = ofBytes (List.drop (Int.ofNat 0).toNat (List.take r.2.1.toNat v2))), ())) none) none) none) (some (false, ()))) (some (false, ()))) (some (false, ()))) (some (false, ()))))))
 (ocall (G61 k ((v0, v1, ()), ())) fun r => sel r.1 (some (false, ())) (ocall (G70 k (v2, ())) fun r => sel (!decide (r.2.2.1 = 0)) (sel (sameI r.1.1 0 && (sameI r.1.2.1 0 && true)) (some (decide (r.2.1 = 0), ())) (some (false, ()))) (ocall (G68 k
 ((r.1.1, r.1.2.1, ()), ())) fun r_1 => sel (decide (r_1.2.1 = 0)) (ocall (G61 k ((r.1.1, r.1.2.1, ()), ())) fun r_2 => sel r_2.1 (sel (decide (0 < r.2.1)) (sel (decide (r.2.1 ≤ Int.ofNat v2.length)) (sel (decide (Int.ofNat 0 ≤ r.2.1)) (sel (decide (r.2.1 ≤ Int.ofNat
 v2.length)) (sel (decide (Int.ofNat v2.length ≤ Int.ofNat v2.length)) (some (decide (ofBytes r_1.1 = ofBytes (List.drop (Int.ofNat 0).toNat (List.take r.2.1.toNat v2))), ())) none) none) none) (some (false, ()))) (some (false, ()))) (some (false, ()))) (some (false,
 ()))))))) := by kernel_rfl
end Go.Proofs.Ythglkecbfakmpaa.G
end
section
set_option linter.unusedVariables false
set_option linter.unusedSimpArgs false
set_option maxRecDepth 100000
namespace Go.Proofs.Ythglkecbfakmpaa.G
open Go Go.Proofs.Ythglkecbfakmpaa Th Bits
abbrev BM := Int × Int × Unit
def goodB (m : BM) : Prop := (0 ≤ m.1 ∧ m.1 < 18446744073709551616) ∧ 0 ≤ m.2.1 ∧ m.2.1 < 18446744073709551616
def bitB (m : BM) (n : Nat) : Bool := if n ≤ 64 then m.1.toNat.testBit (64 - n) else m.2.1.toNat.testBit (128 - n)
def rightB (m : BM) : Bool := !bitB m 65 && (bitB m 1 == !decide (m.2.1 = 0))
def fieldB (n : Int) : Bool := decide (2 ≤ n) && decide (n ≤ 128) && !decide (n = 65)
def hasB (m : BM) (n : Int) : Bool := fieldB n && bitB m n.toNat
def setB (m : BM) (n : Nat) : BM := if n ≤ 64 then (((m.1.toNat ||| 2 ^ (64 - n) : Nat) : Int), m.2.1, ()) else (((m.1.toNat ||| 2 ^ 63 : Nat) : Int), ((m.2.1.toNat ||| 2 ^ (128 - n) : Nat) : Int), ())
def putB (m : BM) (n : Int) : BM × Int := if rightB m = true ∧ fieldB n = true then (setB m n.toNat, 0) else (m, 1)
theorem fieldB_iff {n : Int} : fieldB n = true ↔ 2 ≤ n ∧ n ≤ 128 ∧ n ≠ 65 := by unfold fieldB; simp [and_assoc]
theorem G82_is (k : Nat) (n hi lo : Int) (h1 : 1 ≤ n) (h2 : n ≤ 128) : G82 k (n, hi, lo, ()) =
    if n ≤ 64 then some (.inl (((2 ^ (64 - n.toNat) : Nat) : Int), hi, lo, ())) else some (.inr (((2 ^ (128 - n.toNat) : Nat) : Int), hi, lo, ())) := by
  obtain ⟨m, rfl⟩ : ∃ m : Nat, n = m := ⟨n.toNat, by omega⟩
  rw [G82_eq]
  by_cases c : (m : Int) ≤ 64
  · rw [sel_pos c, if_pos c, wrap64 (by omega) (by omega), sel_pos (by omega), show ((m : Int) - 1).toNat = m - 1 by omega, top_shift (by omega) (by omega), Int.toNat_natCast]
  · rw [sel_neg c, if_neg c, wrap64 (n := (m : Int) - 64) (by omega) (by omega), wrap64 (by omega) (by omega), sel_pos (by omega), show ((m : Int) - 64 - 1).toNat = (m - 64) - 1 by omega, top_shift (by omega) (by omega), Int.toNat_natCast,
      show 64 - (m - 64) = 128 - m by omega]
theorem nat_of {x : Int} (h : 0 ≤ x ∧ x < 18446744073709551616) : ∃ n : Nat, x = n ∧ n < 18446744073709551616 := ⟨x.toNat, by omega, by omega⟩
theorem G86_is (k : Nat) (m : BM) (hg : goodB m) (n : Int) (h1 : 1 ≤ n) (h2 : n ≤ 128) : G86 k (m, n, ()) = some (bitB m n.toNat, ()) := by
  obtain ⟨hi, lo, ⟨⟩⟩ := m
  obtain ⟨hi, rfl, hh⟩ := nat_of hg.1
  obtain ⟨lo, rfl, hl⟩ := nat_of hg.2
  rw [G86_eq, G82_is k n _ _ h1 h2]
  unfold bitB
  have key : ∀ (w e : Nat), w < 18446744073709551616 → e < 64 → (!decide (bits .and .u64 (w : Int) ((2 ^ e : Nat) : Int) = 0)) = w.testBit e := by
    intro w e hw he
    rw [b_and hw (pow_lt he)]
    cases ht : w.testBit e with
    | false => rw [and_pow.2 ht]; rfl
    | true =>
      have : ¬ ((w &&& 2 ^ e : Nat) : Int) = 0 := fun h => by
        have h' : (w &&& 2 ^ e) = 0 := by omega
        rw [and_pow.1 h'] at ht; cases ht
      rw [decide_eq_false this]; rfl
  by_cases c : n ≤ 64
  · rw [if_pos c, if_pos (by omega), ocall_some, esel_inl]
    simp only [Int.toNat_natCast]
    rw [key hi _ hh (by omega)]
  · rw [if_neg c, if_neg (by omega), ocall_some, esel_inr]
    simp only [Int.toNat_natCast]
    rw [key lo _ hl (by omega)]
theorem G61_is (k : Nat) (m : BM) (hg : goodB m) : G61 k (m, ()) = some (rightB m, ()) := by
  have h65 := G86_is k m hg 65 (by omega) (by omega)
  have h1 := G86_is k m hg 1 (by omega) (by omega)
  obtain ⟨hi, lo, ⟨⟩⟩ := m
  rw [G61_eq, h65, ocall_some, h1]
  unfold rightB
  show sel (!bitB (hi, lo, ()) 65) _ _ = _
  cases bitB (hi, lo, ()) 65 <;> rfl
theorem G81_is (k : Nat) (n : Int) : G81 k (n, ()) = some (fieldB n, ()) := by
  rw [G81_eq]
  unfold fieldB
  by_cases c1 : 1 < n
  · rw [sel_pos c1, decide_eq_true (show 2 ≤ n by omega)]
    by_cases c2 : n ≤ 128
    · rw [sel_pos c2, decide_eq_true c2]; rfl
    · rw [sel_neg c2, decide_eq_false c2]; rfl
  · rw [sel_neg c1, decide_eq_false (show ¬ 2 ≤ n by omega)]; rfl
theorem G63_is (k : Nat) (m : BM) (hg : goodB m) (n : Int) : G63 k (m, n, ()) = some (hasB m n, ()) := by
  obtain ⟨hi, lo, ⟨⟩⟩ := m
  rw [G63_eq, G81_is, ocall_some]
  unfold hasB
  cases hf : fieldB n with
  | false => rfl
  | true =>
    have := fieldB_iff.1 hf
    rw [G86_is k _ hg n (by omega) (by omega)]; rfl
theorem setB_good {m : BM} (hg : goodB m) {n : Nat} (h1 : 1 ≤ n) (h2 : n ≤ 128) : goodB (setB m n) := by
  obtain ⟨hi, lo, ⟨⟩⟩ := m
  obtain ⟨hi, rfl, hh⟩ := nat_of hg.1
  obtain ⟨lo, rfl, hl⟩ := nat_of hg.2
  unfold setB
  by_cases c : n ≤ 64
  · rw [if_pos c]
    have := or_lt (k := 64 - n) hh (by omega)
    refine ⟨⟨by (try simp only []); omega, ?_⟩, ⟨by (try simp only []); omega, by (try simp only []); omega⟩⟩
    simp only [Int.toNat_natCast]; omega
  · rw [if_neg c]
    have h3 := or_lt (k := 63) hh (by omega)
    have h4 := or_lt (k := 128 - n) hl (by omega)
    refine ⟨⟨by (try simp only []); omega, ?_⟩, ⟨by (try simp only []); omega, ?_⟩⟩
    · simp only [Int.toNat_natCast]; omega
    · simp only [Int.toNat_natCast]; omega
theorem setB_bit {m : BM} {n : Nat} (h1 : 1 ≤ n) (h2 : n ≤ 128) {j : Nat} (j1 : 1 ≤ j) (j2 : j ≤ 128) : bitB (setB m n) j = (bitB m j || decide (j = n) || decide (64 < n ∧ j = 1)) := by
  obtain ⟨hi, lo, ⟨⟩⟩ := m
  unfold setB bitB
  by_cases c : n ≤ 64
  · rw [if_pos c, decide_eq_false (show ¬ (64 < n ∧ j = 1) by omega), Bool.or_false]
    by_cases d : j ≤ 64
    · rw [if_pos d, if_pos d]
      simp only [Int.toNat_natCast]
      rw [or_test, show decide (64 - n = 64 - j) = decide (j = n) from decide_eq_decide.2 (by omega)]
    · rw [if_neg d, if_neg d, decide_eq_false (show ¬ j = n by omega), Bool.or_false]
  · rw [if_neg c]
    by_cases d : j ≤ 64
    · rw [if_pos d, if_pos d]
      simp only [Int.toNat_natCast]
      rw [or_test, decide_eq_false (show ¬ j = n by omega), Bool.or_false, show decide (63 = 64 - j) = decide (64 < n ∧ j = 1) from decide_eq_decide.2 (by omega)]
    · rw [if_neg d, if_neg d, decide_eq_false (show ¬ (64 < n ∧ j = 1) by omega), Bool.or_false]
      simp only [Int.toNat_natCast]
      rw [or_test, show decide (128 - n = 128 - j) = decide (j = n) from decide_eq_decide.2 (by omega)]
theorem or_ne (w k : Nat) : (w ||| 2 ^ k) ≠ 0 := fun h => by
  have := or_test w k k
  rw [h, Nat.zero_testBit, decide_eq_true rfl, Bool.or_true] at this
  cases this
theorem rightB_iff {m : BM} : rightB m = true ↔ bitB m 65 = false ∧ (bitB m 1 = true ↔ m.2.1 ≠ 0) := by
  unfold rightB
  cases bitB m 65 <;> cases bitB m 1 <;> by_cases c : m.2.1 = 0 <;> simp [c]
theorem setB_right {m : BM} (hr : rightB m = true) {n : Nat} (h1 : 2 ≤ n) (h2 : n ≤ 128) (h3 : n ≠ 65) : rightB (setB m n) = true := by
  obtain ⟨r1, r2⟩ := rightB_iff.1 hr
  refine rightB_iff.2 ⟨?_, ?_⟩
  · rw [setB_bit (by omega) h2 (by omega) (by omega), r1, decide_eq_false (fun e => h3 e.symm), decide_eq_false (by omega)]; rfl
  · rw [setB_bit (by omega) h2 (by omega) (by omega)]
    unfold setB
    by_cases c : n ≤ 64
    · rw [if_pos c, decide_eq_false (show ¬ 1 = n by omega), decide_eq_false (by omega), Bool.or_false, Bool.or_false]; exact r2
    · rw [if_neg c, decide_eq_true (show 64 < n ∧ 1 = 1 by omega), Bool.or_true]
      refine ⟨fun _ => ?_, fun _ => rfl⟩
      have := or_ne m.2.1.toNat (128 - n)
      (try simp only []); omega
theorem G57_is (k : Nat) (m : BM) (hg : goodB m) (n : Int) : G57 k (m, n, ()) = some ((putB m n).1, (putB m n).2, ()) := by
  have hR := G61_is k m hg
  obtain ⟨hi, lo, ⟨⟩⟩ := m
  rw [G57_eq, hR, ocall_some]
  unfold putB
  cases hr : rightB (hi, lo, ()) with
  | false => rw [if_neg (by simp)]; rfl
  | true =>
  simp only [Bool.not_true, sel_false]
  rw [G81_is, ocall_some]
  cases hf : fieldB n with
  | false => rw [if_neg (by simp)]; rfl
  | true =>
  rw [if_pos (by simp)]
  simp only [Bool.not_true, sel_false]
  obtain ⟨f1, f2, f3⟩ := fieldB_iff.1 hf
  obtain ⟨n, rfl⟩ : ∃ m : Nat, n = m := ⟨n.toNat, by omega⟩
  obtain ⟨hi, rfl, hh⟩ := nat_of hg.1
  obtain ⟨lo, rfl, hl⟩ := nat_of hg.2
  obtain ⟨r1, r2⟩ := rightB_iff.1 hr
  rw [G82_is k n _ _ (by omega) f2]
  unfold setB
  simp only [Int.toNat_natCast]
  by_cases c : (n : Int) ≤ 64
  · rw [if_pos c, if_pos (by omega), ocall_some, esel_inl]
    (try simp only [])
    rw [b_or hh (pow_lt (by omega))]
    by_cases hz : (lo : Int) = 0
    · rw [sel_not, sel_pos hz]
    · rw [sel_not, sel_neg hz]
      have hb : hi.testBit 63 = true := by have := r2.2 hz; simpa [bitB] using this
      have h2 := or_lt (k := 64 - n) hh (by omega)
      have e63 : (9223372036854775808 : Int) = ((2 ^ 63 : Nat) : Int) := by rfl
      rw [e63, b_or h2 (pow_lt (by omega)), or_self (by rw [or_test, hb]; rfl)]
  · rw [if_neg c, if_neg (by omega), ocall_some, esel_inr]
    (try simp only [])
    rw [b_or hl (pow_lt (by omega))]
    have := or_ne lo (128 - n)
    rw [sel_not, sel_neg (by omega)]
    have e63 : (9223372036854775808 : Int) = ((2 ^ 63 : Nat) : Int) := by rfl
    rw [e63, b_or hh (pow_lt (by omega))]
def fieldsFrom (m : BM) : Nat → Nat → List Int
  | _, 0 => []
  | n, j + 1 => (if hasB m n = true then [(n : Int)] else []) ++ fieldsFrom m (n + 1) j
def fieldsB (m : BM) : List Int := fieldsFrom m 2 127
theorem fieldsFrom_len (m : BM) : ∀ (j n : Nat), (fieldsFrom m n j).length ≤ j := by
  intro j
  induction j with
  | zero => intro n; simp [fieldsFrom]
  | succ j ih => intro n; have := ih (n + 1); unfold fieldsFrom; rw [List.length_append]; split <;> simp <;> omega
theorem fieldsFrom_mem (m : BM) : ∀ (j n : Nat) (x : Int), x ∈ fieldsFrom m n j ↔ ((n : Int) ≤ x ∧ x < n + j ∧ hasB m x = true) := by
  intro j
  induction j with
  | zero => intro n x; simp only [fieldsFrom, List.not_mem_nil, false_iff]; omega
  | succ j ih =>
    intro n x
    unfold fieldsFrom
    rw [List.mem_append, ih]
    by_cases c : hasB m n = true
    · rw [if_pos c, List.mem_singleton]
      constructor
      · rintro (rfl | ⟨a, b, d⟩)
        · exact ⟨by omega, by omega, c⟩
        · exact ⟨by omega, by omega, d⟩
      · rintro ⟨a, b, d⟩
        by_cases e : x = n
        · exact .inl e
        · exact .inr ⟨by omega, by omega, d⟩
    · rw [if_neg c]
      constructor
      · rintro (h | ⟨a, b, d⟩)
        · cases h
        · exact ⟨by omega, by omega, d⟩
      · rintro ⟨a, b, d⟩
        refine .inr ⟨?_, by omega, d⟩
        by_cases e : x = n
        · subst e; exact absurd d c
        · omega
theorem fieldsB_mem (m : BM) (x : Int) : x ∈ fieldsB m ↔ hasB m x = true := by
  unfold fieldsB
  rw [fieldsFrom_mem]
  constructor
  · exact fun h => h.2.2
  · intro h
    refine ⟨?_, ?_, h⟩ <;>
    · unfold hasB at h
      simp only [Bool.and_eq_true] at h
      have := fieldB_iff.1 h.1
      omega
theorem G66_g0_is (k : Nat) (m : BM) (hg : goodB m) : ∀ (j n : Nat), n + (j + 1) = 129 → 2 ≤ n → ∀ (acc : List Int) (c : Nat), acc.length ≤ n → j + 1 ≤ c →
    G66_g0 k c (acc, (n : Int), m.1, m.2.1, ()) = some (acc ++ fieldsFrom m n (j + 1), ()) := by
  obtain ⟨hi, lo, ⟨⟩⟩ := m
  intro j
  induction j with
  | zero =>
    intro n hn h2 acc c ha hc
    obtain ⟨c, rfl⟩ : ∃ d, c = d + 1 := ⟨c - 1, by omega⟩
    rw [G66_g0_eq, G63_is k _ hg, ocall_some]
    unfold fieldsFrom fieldsFrom
    cases hasB (hi, lo, ()) n with
    | false => rw [sel_false, wrap64 (by omega) (by omega), sel_neg (by omega)]; simp
    | true => rw [sel_true, sel_pos (by omega), wrap64 (by omega) (by omega), sel_neg (by omega)]; simp
  | succ j ih =>
    intro n hn h2 acc c ha hc
    obtain ⟨c, rfl⟩ : ∃ d, c = d + 1 := ⟨c - 1, by omega⟩
    rw [G66_g0_eq, G63_is k _ hg, ocall_some]
    rw [show fieldsFrom (hi, lo, ()) n (j + 1 + 1) = (if hasB (hi, lo, ()) n = true then [(n : Int)] else []) ++ fieldsFrom (hi, lo, ()) (n + 1) (j + 1) from rfl]
    have e : (n : Int) + 1 = ((n + 1 : Nat) : Int) := by omega
    cases hasB (hi, lo, ()) n with
    | false =>
      rw [sel_false, wrap64 (by omega) (by omega), sel_pos (by omega), e, ih (n + 1) (by omega) (by omega) acc c (by omega) (by omega)]; simp
    | true =>
      rw [sel_true, sel_pos (by omega), wrap64 (by omega) (by omega), sel_pos (by omega), e, ih (n + 1) (by omega) (by omega) (acc ++ [(n : Int)]) c (by simp; omega) (by omega)]; simp
theorem G66_is (k : Nat) (hk : 200 < k) (m : BM) (hg : goodB m) : G66 k (m, ()) = some (fieldsB m, ()) := by
  have hl := fun acc h => G66_g0_is k m hg 125 3 (by omega) (by omega) acc k h (by omega)
  have hh := G63_is k m hg 2
  obtain ⟨hi, lo, ⟨⟩⟩ := m
  rw [G66_eq, hh, ocall_some]
  unfold fieldsB
  rw [show fieldsFrom (hi, lo, ()) 2 127 = (if hasB (hi, lo, ()) (2 : Nat) = true then [((2 : Nat) : Int)] else []) ++ fieldsFrom (hi, lo, ()) 3 126 from rfl]
  have e : IntKind.i64.wrap (2 + 1) = ((3 : Nat) : Int) := by rfl
  have e2 : hasB (hi, lo, ()) ((2 : Nat) : Int) = hasB (hi, lo, ()) 2 := rfl
  rw [e2, e]
  cases hasB (hi, lo, ()) 2 with
  | false => simp only [sel_false]; rw [hl [] (by simp), ocall_some]; simp
  | true => simp only [sel_true]; rw [hl [2] (by simp), ocall_some]; simp
def ofB : BM → List Int → BM × Int
  | m, [] => (m, 0)
  | m, n :: l => if (putB m n).2 = 0 then ofB (putB m n).1 l else ((0, 0, ()), (putB m n).2)
theorem putB_good {m : BM} (hg : goodB m) (n : Int) : goodB (putB m n).1 := by
  unfold putB
  split
  · rename_i h
    obtain ⟨f1, f2, f3⟩ := fieldB_iff.1 h.2
    exact setB_good hg (by omega) (by omega)
  · exact hg
theorem putB_err (m : BM) (n : Int) : (putB m n).2 = 0 ∨ (putB m n).2 = 1 := by unfold putB; split <;> simp
theorem G59_3_is (k : Nat) (l : List Int) (hl : l.length ≤ 1000000000) : ∀ (j i : Nat), i + j = l.length → ∀ (m : BM), goodB m → ∀ n, j < n →
    G59_3 k n (l, (l.length : Int), (i : Int), 0, 0, m.1, m.2.1, ()) = some (if (ofB m (l.drop i)).2 = 0 then .inl (0, 0, (ofB m (l.drop i)).1.1, (ofB m (l.drop i)).1.2.1, ()) else .inr ((ofB m (l.drop i)).2, 0, 0, ())) := by
  intro j
  induction j with
  | zero =>
    intro i hij m hg n hn
    obtain ⟨n, rfl⟩ : ∃ m, n = m + 1 := ⟨n - 1, by omega⟩
    rw [G59_3_eq, sel_neg (by omega), List.drop_eq_nil_of_le (by omega)]
    rfl
  | succ j ih =>
    intro i hij m hg n hn
    obtain ⟨n, rfl⟩ : ∃ m, n = m + 1 := ⟨n - 1, by omega⟩
    have hlt : i < l.length := by omega
    rw [G59_3_eq, sel_pos (by omega), sel_pos (by omega), sel_pos (by simp only [ofNat_len]; omega), Int.toNat_natCast, getD_of hlt]
    have hp := G57_is k m hg l[i]
    have hg2 := putB_good hg l[i]
    obtain ⟨hi, lo, ⟨⟩⟩ := m
    rw [hp, ocall_some]
    rcases putB_err (hi, lo, ()) l[i] with h | h
    · have hof : ofB (hi, lo, ()) (l.drop i) = ofB (putB (hi, lo, ()) l[i]).1 (l.drop (i + 1)) := by
        rw [List.drop_eq_getElem_cons hlt]
        exact if_pos h
      rw [hof, sel_not, sel_pos h, wrap64 (by omega) (by omega)]
      have := ih (i + 1) (by omega) (putB (hi, lo, ()) l[i]).1 hg2 n (by omega)
      rw [Int.natCast_add, Int.natCast_one] at this
      exact this
    · have hof : ofB (hi, lo, ()) (l.drop i) = ((0, 0, ()), (putB (hi, lo, ()) l[i]).2) := by
        rw [List.drop_eq_getElem_cons hlt]
        exact if_neg (by omega)
      have hn0 : ¬ (putB (hi, lo, ()) l[i]).2 = 0 := by omega
      rw [hof, sel_not, sel_neg hn0, if_neg hn0]
theorem ofB_err : ∀ (l : List Int) (m : BM), (ofB m l).2 ≠ 0 → (ofB m l).1 = (0, 0, ()) := by
  intro l
  induction l with
  | nil => intro m h; exact absurd rfl h
  | cons n l ih =>
    intro m h
    unfold ofB at h ⊢
    split
    · rename_i c; rw [if_pos c] at h; exact ih _ h
    · rfl
theorem G59_is (k : Nat) (l : List Int) (hl : l.length ≤ 1000000000) (hk : l.length < k) : G59 k (l, ()) = some ((ofB (0, 0, ()) l).1, (ofB (0, 0, ()) l).2, ()) := by
  have h := G59_3_is k l hl l.length 0 (by omega) (0, 0, ()) ⟨⟨by decide, by decide⟩, by decide, by decide⟩ k hk
  rw [List.drop_zero, Int.natCast_zero] at h
  rw [G59_eq]
  simp only [ofNat_len]
  rw [h, ocall_some]
  have hz := ofB_err l (0, 0, ())
  by_cases c : (ofB (0, 0, ()) l).2 = 0
  · rw [if_pos c, esel_inl, c]
  · rw [if_neg c, esel_inr, hz c]
theorem fdiv_shift (w e : Nat) : IntKind.u8.wrap ((w : Int).fdiv ((2 : Int) ^ e)) = ((w / 2 ^ e % 256 : Nat) : Int) := by
  have e2 : (2 : Int) ^ e = ((2 ^ e : Nat) : Int) := by rw [Int.natCast_pow]; rfl
  rw [e2, ← Int.ofNat_fdiv]
  unfold IntKind.wrap
  simp only [IntKind.bits, IntKind.signed]
  simp
theorem G87_2_step (k c : Nat) (b : List Int) (w i : Nat) (hi : i < 8) (hb : b.length ≤ 1000) : G87_2 k (c + 1) (b, (w : Int), (i : Int), ()) = G87_2 k c (b ++ [((w / 2 ^ (56 - 8 * i) % 256 : Nat) : Int)], (w : Int), ((i + 1 : Nat) : Int), ()) := by
  rw [G87_2_eq, sel_pos (by omega), wrap64 (n := (i : Int) + 1) (by omega) (by omega), wrap64 (n := 8 * ((i : Int) + 1)) (by omega) (by omega), wrap64 (by omega) (by omega), sel_pos (by omega), sel_pos (by omega),
    show (64 - 8 * ((i : Int) + 1)).toNat = 56 - 8 * i by omega, Nat.min_eq_left (by omega), fdiv_shift]
  rfl
theorem G87_is (k : Nat) (hk : 20 < k) (b : List Int) (hb : b.length ≤ 900) (w : Nat) : G87 k (b, (w : Int), ()) = some (b ++ be8 w, ()) := by
  obtain ⟨c, rfl⟩ : ∃ c, k = c + 9 := ⟨k - 9, by omega⟩
  rw [G87_eq]
  have s0 := G87_2_step (c + 9) (c + 8) b w 0 (by omega) (by omega)
  rw [Int.natCast_zero] at s0
  rw [s0, G87_2_step (c + 9) (c + 7) _ w 1 (by omega) (by simp; omega), G87_2_step (c + 9) (c + 6) _ w 2 (by omega) (by simp; omega), G87_2_step (c + 9) (c + 5) _ w 3 (by omega) (by simp; omega),
    G87_2_step (c + 9) (c + 4) _ w 4 (by omega) (by simp; omega), G87_2_step (c + 9) (c + 3) _ w 5 (by omega) (by simp; omega), G87_2_step (c + 9) (c + 2) _ w 6 (by omega) (by simp; omega),
    G87_2_step (c + 9) (c + 1) _ w 7 (by omega) (by simp; omega), G87_2_eq, sel_neg (by omega), ocall_some]
  simp [be8, List.append_assoc]
def bytesB (m : BM) : List Int := if m.2.1 = 0 then be8 m.1.toNat else be8 m.1.toNat ++ be8 m.2.1.toNat
theorem G68_is (k : Nat) (hk : 20 < k) (m : BM) (hg : goodB m) : G68 k (m, ()) = some (if rightB m = true then (bytesB m, 0, ()) else ([], 1, ())) := by
  have hR := G61_is k m hg
  obtain ⟨hi, lo, ⟨⟩⟩ := m
  rw [G68_eq, hR, ocall_some]
  cases rightB (hi, lo, ()) with
  | false => rw [if_neg (by simp)]; rfl
  | true =>
  rw [if_pos rfl]
  obtain ⟨hi, rfl, hh⟩ := nat_of hg.1
  obtain ⟨lo, rfl, hl⟩ := nat_of hg.2
  simp only [Bool.not_true, sel_false]
  rw [G87_is k hk [] (by simp) hi, ocall_some]
  unfold bytesB
  simp only [Int.toNat_natCast, List.nil_append]
  by_cases hz : (lo : Int) = 0
  · rw [sel_not, sel_pos hz, if_pos hz]
  · rw [sel_not, sel_neg hz, if_neg hz, G87_is k hk _ (by simp [be8]) lo, ocall_some]
theorem take_lt (l : List Int) (hb : ∀ c ∈ l, byteOK c) : ∀ i : Nat, i ≤ l.length → (l.take i).foldl (fun a c => 256 * a + c.toNat) 0 < 256 ^ i := by
  intro i
  induction i with
  | zero => intro _; simp
  | succ i ih =>
    intro hi
    have := ih (by omega)
    rw [List.take_succ_eq_append_getElem (by omega), List.foldl_append]
    have hc := hb l[i] (List.getElem_mem _)
    simp only [List.foldl_cons, List.foldl_nil]
    unfold byteOK at hc
    rw [Nat.pow_succ]
    omega
theorem G89_3_is (k : Nat) (l : List Int) (hl : l.length = 8) (hb : ∀ c ∈ l, byteOK c) : ∀ (j i : Nat), i + j = 8 → ∀ n, j < n →
    G89_3 k n ((((l.take i).foldl (fun a c => 256 * a + c.toNat) 0 : Nat) : Int), l, 8, (i : Int), ()) = some (((num8 l : Nat) : Int), ()) := by
  intro j
  induction j with
  | zero =>
    intro i hij n hn
    obtain ⟨n, rfl⟩ : ∃ m, n = m + 1 := ⟨n - 1, by omega⟩
    rw [G89_3_eq, sel_neg (by omega), List.take_of_length_le (by omega)]
    rfl
  | succ j ih =>
    intro i hij n hn
    obtain ⟨n, rfl⟩ : ∃ m, n = m + 1 := ⟨n - 1, by omega⟩
    have hlt : i < l.length := by omega
    have ht := take_lt l hb i (by omega)
    have hp : 256 ^ i ≤ 256 ^ 7 := Nat.pow_le_pow_right (by omega) (by omega)
    have hc := hb l[i] (List.getElem_mem _)
    unfold byteOK at hc
    rw [G89_3_eq, sel_pos (by omega), sel_pos (by omega), sel_pos (by simp only [ofNat_len]; omega), Int.toNat_natCast, getD_of hlt, wrap64 (by omega) (by omega)]
    have e8 : (2 : Int) ^ min (Int.toNat 8) 64 = 256 := by rfl
    obtain ⟨c, hce⟩ := Int.eq_ofNat_of_zero_le hc.1
    have h7 : (256 : Nat) ^ 7 = 72057594037927936 := by rfl
    rw [e8, hce, shl_or (by omega) (by omega)]
    have := ih (i + 1) (by omega) n (by omega)
    rw [List.take_succ_eq_append_getElem (by omega), List.foldl_append] at this
    simp only [List.foldl_cons, List.foldl_nil, hce, Int.toNat_natCast, Int.natCast_add, Int.natCast_one, Int.natCast_mul] at this ⊢
    exact this
theorem G89_is (k : Nat) (hk : 20 < k) (l : List Int) (hl : 8 ≤ l.length) (hb : ∀ c ∈ l, byteOK c) : G89 k (l, ()) = some (((num8 (l.take 8) : Nat) : Int), ()) := by
  have h := G89_3_is k (l.take 8) (by rw [List.length_take]; omega) (fun c hc => hb c (List.mem_of_mem_take hc)) 8 0 (by omega) k (by omega)
  rw [G89_eq, sel_pos (by simp only [ofNat_len]; omega), sel_pos (by simp)]
  have e : List.drop (Int.ofNat 0).toNat (List.take (Int.toNat 8) l) = l.take 8 := rfl
  have e2 : (l.take 8).length = 8 := by rw [List.length_take]; omega
  rw [e, e2]
  simp only [List.take_zero, List.foldl_nil, Int.natCast_zero] at h
  have e3 : Int.ofNat 8 = 8 := rfl
  rw [e3, h, ocall_some]
def readB (b : List Int) : BM × Int × Int :=
  if b.length < 8 then ((0, 0, ()), 0, 2)
  else if (num8 (b.take 8)).testBit 63 = true then
    if b.length < 16 then ((0, 0, ()), 0, 2)
    else if rightB (((num8 (b.take 8) : Nat) : Int), ((num8 ((b.drop 8).take 8) : Nat) : Int), ()) = true then ((((num8 (b.take 8) : Nat) : Int), ((num8 ((b.drop 8).take 8) : Nat) : Int), ()), 16, 0) else ((0, 0, ()), 0, 3)
  else if rightB (((num8 (b.take 8) : Nat) : Int), 0, ()) = true then ((((num8 (b.take 8) : Nat) : Int), 0, ()), 8, 0) else ((0, 0, ()), 0, 3)
theorem num8_good {l : List Int} (h : 8 ≤ l.length) (hb : ∀ c ∈ l, byteOK c) : num8 (l.take 8) < 18446744073709551616 := num8_lt (by rw [List.length_take]; omega) fun c hc => hb c (List.mem_of_mem_take hc)
theorem G70_is (k : Nat) (hk : 20 < k) (b : List Int) (hb : ∀ c ∈ b, byteOK c) : G70 k (b, ()) = some ((readB b).1, (readB b).2.1, (readB b).2.2, ()) := by
  rw [G70_eq]
  unfold readB
  by_cases c8 : b.length < 8
  · rw [sel_pos (by simp only [ofNat_len]; omega), if_pos c8]
  rw [sel_neg (by simp only [ofNat_len]; omega), if_neg c8, G89_is k hk b (by omega) hb, ocall_some]
  have n1 := num8_good (l := b) (by omega) hb
  have g0 : goodB (((num8 (b.take 8) : Nat) : Int), 0, ()) := ⟨⟨by (try simp only []); omega, by (try simp only []); omega⟩, Int.le_refl 0, by show (0 : Int) < _; decide⟩
  rw [G86_is k _ g0 1 (by omega) (by omega), ocall_some]
  have e1 : bitB (((num8 (b.take 8) : Nat) : Int), 0, ()) (Int.toNat 1) = (num8 (b.take 8)).testBit 63 := by simp [bitB]
  rw [e1]
  cases ht : (num8 (b.take 8)).testBit 63 with
  | false =>
    rw [if_neg (by simp), sel_false, G61_is k _ g0, ocall_some]
    cases rightB (((num8 (b.take 8) : Nat) : Int), 0, ()) with
    | false => rw [if_neg (by simp)]; rfl
    | true => rw [if_pos rfl]; rfl
  | true =>
    rw [if_pos rfl, sel_true]
    by_cases c16 : b.length < 16
    · rw [sel_pos (by simp only [ofNat_len]; omega), if_pos c16]
    rw [sel_neg (by simp only [ofNat_len]; omega), if_neg c16, sel_pos (by simp only [ofNat_len]; omega), sel_pos (by simp), sel_pos (by simp)]
    have e : List.drop (Int.toNat 8) (List.take (Int.ofNat b.length).toNat b) = b.drop 8 := by
      rw [show (Int.ofNat b.length).toNat = b.length from rfl, List.take_of_length_le (Nat.le_refl _)]; rfl
    have hb2 : ∀ c ∈ b.drop 8, byteOK c := fun c hc => hb c (List.mem_of_mem_drop hc)
    have hl2 : 8 ≤ (b.drop 8).length := by rw [List.length_drop]; omega
    have n2 := num8_good hl2 hb2
    have g1 : goodB (((num8 (b.take 8) : Nat) : Int), ((num8 ((b.drop 8).take 8) : Nat) : Int), ()) := ⟨⟨by (try simp only []); omega, by (try simp only []); omega⟩, by (try simp only []); omega, by (try simp only []); omega⟩
    rw [e, G89_is k hk _ hl2 hb2, ocall_some]
    (try simp only [])
    rw [G61_is k _ g1, ocall_some]
    cases rightB (((num8 (b.take 8) : Nat) : Int), ((num8 ((b.drop 8).take 8) : Nat) : Int), ()) with
    | false => rw [if_neg (by simp)]; rfl
    | true => rw [if_pos rfl]; rfl
end Go.Proofs.Ythglkecbfakmpaa.G
end
section
set_option linter.unusedVariables false
set_option linter.unusedSimpArgs false
set_option maxRecDepth 100000
namespace Go.Proofs.Ythglkecbfakmpaa.G
open Go Go.Proofs.Ythglkecbfakmpaa Th Bits
theorem nat_ext {x y : Nat} (hx : x < 18446744073709551616) (hy : y < 18446744073709551616) (h : ∀ i, i < 64 → x.testBit i = y.testBit i) : x = y := by
  apply Nat.eq_of_testBit_eq
  intro i
  by_cases c : i < 64
  · exact h i c
  · rw [high_zero hx (by omega), high_zero hy (by omega)]
theorem bit_ext {a b : BM} (ga : goodB a) (gb : goodB b) (h : ∀ n : Nat, 1 ≤ n → n ≤ 128 → bitB a n = bitB b n) : a = b := by
  obtain ⟨ha, la, ⟨⟩⟩ := a
  obtain ⟨hb, lb, ⟨⟩⟩ := b
  obtain ⟨ha, rfl, ha'⟩ := nat_of ga.1
  obtain ⟨la, rfl, la'⟩ := nat_of ga.2
  obtain ⟨hb, rfl, hb'⟩ := nat_of gb.1
  obtain ⟨lb, rfl, lb'⟩ := nat_of gb.2
  have e1 : ha = hb := nat_ext ha' hb' fun i hi => by
    have := h (64 - i) (by omega) (by omega)
    unfold bitB at this
    rw [if_pos (by omega), if_pos (by omega)] at this
    simpa [show 64 - (64 - i) = i by omega] using this
  have e2 : la = lb := nat_ext la' lb' fun i hi => by
    have := h (128 - i) (by omega) (by omega)
    unfold bitB at this
    rw [if_neg (by omega), if_neg (by omega)] at this
    simpa [show 128 - (128 - i) = i by omega] using this
  rw [e1, e2]
theorem low_bits {m : BM} (gm : goodB m) : m.2.1 ≠ 0 ↔ ∃ n : Nat, 65 ≤ n ∧ n ≤ 128 ∧ bitB m n = true := by
  obtain ⟨hi, lo, ⟨⟩⟩ := m
  obtain ⟨lo, rfl, hl⟩ := nat_of gm.2
  constructor
  · intro hz
    have hz' : ¬ lo = 0 := fun e => hz (by rw [e]; rfl)
    apply Classical.byContradiction
    intro hn
    apply hz'
    apply nat_ext hl (by decide)
    intro i hi
    cases ht : lo.testBit i with
    | false => rw [Nat.zero_testBit]
    | true =>
      exfalso
      refine hn ⟨128 - i, by omega, by omega, ?_⟩
      unfold bitB
      rw [if_neg (by omega)]
      simpa [show 128 - (128 - i) = i by omega] using ht
  · rintro ⟨n, h1, h2, h3⟩ hz
    have hz' : lo = 0 := by
      have : (lo : Int) = 0 := hz
      omega
    subst hz'
    unfold bitB at h3
    rw [if_neg (by omega)] at h3
    simp at h3
theorem field_nat {n : Nat} (h1 : 2 ≤ n) (h2 : n ≤ 128) (h3 : n ≠ 65) : fieldB (n : Int) = true := fieldB_iff.2 ⟨by omega, by omega, by omega⟩
theorem has_nat {m : BM} {n : Nat} (h1 : 2 ≤ n) (h2 : n ≤ 128) (h3 : n ≠ 65) : hasB m (n : Int) = bitB m n := by
  unfold hasB
  rw [field_nat h1 h2 h3, Bool.true_and, Int.toNat_natCast]
theorem right_ext {a b : BM} (ga : goodB a) (gb : goodB b) (ra : rightB a = true) (rb : rightB b = true) (h : ∀ x, hasB a x = hasB b x) : a = b := by
  obtain ⟨a1, a2⟩ := rightB_iff.1 ra
  obtain ⟨b1, b2⟩ := rightB_iff.1 rb
  have hbit : ∀ n : Nat, 2 ≤ n → n ≤ 128 → bitB a n = bitB b n := by
    intro n h1 h2
    by_cases c : n = 65
    · subst c; rw [a1, b1]
    · rw [← has_nat h1 h2 c, ← has_nat h1 h2 c, h]
  refine bit_ext ga gb fun n h1 h2 => ?_
  by_cases c : n = 1
  · subst c
    have key : a.2.1 ≠ 0 ↔ b.2.1 ≠ 0 := by
      rw [low_bits ga, low_bits gb]
      exact ⟨fun ⟨n, h1, h2, h3⟩ => ⟨n, h1, h2, by rw [← hbit n (by omega) h2]; exact h3⟩, fun ⟨n, h1, h2, h3⟩ => ⟨n, h1, h2, by rw [hbit n (by omega) h2]; exact h3⟩⟩
    have : bitB a 1 = true ↔ bitB b 1 = true := by rw [a2, b2]; exact key
    cases ha : bitB a 1 <;> cases hb : bitB b 1 <;> simp [ha, hb] at this ⊢
  · exact hbit n (by omega) h2
theorem hasB_set {m : BM} {n : Nat} (h1 : 2 ≤ n) (h2 : n ≤ 128) (h3 : n ≠ 65) (x : Int) : hasB (setB m n) x = (hasB m x || decide (x = n)) := by
  by_cases hf : fieldB x = true
  · obtain ⟨f1, f2, f3⟩ := fieldB_iff.1 hf
    obtain ⟨x, rfl⟩ : ∃ y : Nat, x = y := ⟨x.toNat, by omega⟩
    rw [has_nat (by omega) (by omega) (by omega), has_nat (by omega) (by omega) (by omega), setB_bit (by omega) h2 (by omega) (by omega), decide_eq_false (show ¬ (64 < n ∧ x = 1) by omega), Bool.or_false]
    congr 1
    exact decide_eq_decide.2 (by omega)
  · have hx : ¬ x = n := fun e => hf (by rw [e]; exact field_nat h1 h2 h3)
    unfold hasB
    rw [Bool.eq_false_iff.2 hf, decide_eq_false hx]; rfl
theorem ofB_ok : ∀ (l : List Int) (m : BM), goodB m → rightB m = true → (∀ x ∈ l, fieldB x = true) → (ofB m l).2 = 0 ∧ goodB (ofB m l).1 ∧ rightB (ofB m l).1 = true ∧ ∀ x, hasB (ofB m l).1 x = (hasB m x || decide (x ∈ l)) := by
  intro l
  induction l with
  | nil => intro m gm rm _; exact ⟨rfl, gm, rm, fun x => by simp [ofB]⟩
  | cons n l ih =>
    intro m gm rm hf
    have hn := hf n (List.mem_cons_self ..)
    obtain ⟨f1, f2, f3⟩ := fieldB_iff.1 hn
    obtain ⟨n, rfl⟩ : ∃ m : Nat, n = m := ⟨n.toNat, by omega⟩
    have hp : putB m (n : Int) = (setB m n, 0) := by unfold putB; rw [if_pos ⟨rm, hn⟩]; rfl
    have ho : ofB m ((n : Int) :: l) = ofB (setB m n) l := by
      show (if (putB m (n : Int)).2 = 0 then ofB (putB m (n : Int)).1 l else _) = _
      rw [hp]; rfl
    rw [ho]
    obtain ⟨h1, h2, h3, h4⟩ := ih (setB m n) (setB_good gm (by omega) (by omega)) (setB_right rm (by omega) (by omega) (by omega)) fun x hx => hf x (List.mem_cons_of_mem _ hx)
    refine ⟨h1, h2, h3, fun x => ?_⟩
    rw [h4, hasB_set (by omega) (by omega) (by omega), Bool.or_assoc]
    congr 1
    by_cases c : x = n
    · simp [c]
    · simp [c]
def zeroB : BM := (0, 0, ())
theorem zeroB_good : goodB zeroB := ⟨⟨by decide, by decide⟩, by decide, by decide⟩
theorem zeroB_right : rightB zeroB = true := by rfl
theorem zeroB_has (x : Int) : hasB zeroB x = false := by
  unfold hasB
  have : bitB zeroB x.toNat = false := by unfold bitB zeroB; split <;> simp
  rw [this, Bool.and_false]
theorem hasB_field {m : BM} {x : Int} (h : hasB m x = true) : fieldB x = true := by unfold hasB at h; simp only [Bool.and_eq_true] at h; exact h.1
theorem of_fields {m : BM} (gm : goodB m) (rm : rightB m = true) : ofB zeroB (fieldsB m) = (m, 0) := by
  obtain ⟨h1, h2, h3, h4⟩ := ofB_ok (fieldsB m) zeroB zeroB_good zeroB_right fun x hx => hasB_field ((fieldsB_mem m x).1 hx)
  have : (ofB zeroB (fieldsB m)).1 = m := by
    refine right_ext h2 gm h3 rm fun x => ?_
    rw [h4, zeroB_has, Bool.false_or]
    cases hx : hasB m x with
    | true => exact decide_eq_true ((fieldsB_mem m x).2 hx)
    | false => exact decide_eq_false fun h => by rw [(fieldsB_mem m x).1 h] at hx; cases hx
  exact Prod.ext this h1
theorem bytesB_len (m : BM) : (bytesB m).length = if m.2.1 = 0 then 8 else 16 := by unfold bytesB; split <;> simp [be8]
theorem bytesB_bytes (m : BM) : ∀ c ∈ bytesB m, byteOK c := by
  unfold bytesB
  split
  · exact be8_bytes _
  · intro c hc
    rcases List.mem_append.1 hc with h | h
    · exact be8_bytes _ c h
    · exact be8_bytes _ c h
theorem bit_one (hi lo : Nat) : bitB ((hi : Int), (lo : Int), ()) 1 = hi.testBit 63 := by simp [bitB]
theorem take8 (w : Nat) (t : List Int) : (be8 w ++ t).take 8 = be8 w := rfl
theorem read_bytes {m : BM} (gm : goodB m) (rm : rightB m = true) (t : List Int) : readB (bytesB m ++ t) = (m, ((bytesB m).length : Int), 0) := by
  obtain ⟨r1, r2⟩ := rightB_iff.1 rm
  obtain ⟨hi, lo, ⟨⟩⟩ := m
  obtain ⟨hi, rfl, hh⟩ := nat_of gm.1
  obtain ⟨lo, rfl, hl⟩ := nat_of gm.2
  rw [bit_one] at r2
  have r2 : hi.testBit 63 = true ↔ ¬ (lo : Int) = 0 := r2
  have hlen := bytesB_len ((hi : Int), (lo : Int), ())
  unfold readB
  by_cases hz : (lo : Int) = 0
  · have hb : bytesB ((hi : Int), (lo : Int), ()) = be8 hi := if_pos hz
    have ht : (be8 hi ++ t).take 8 = be8 hi := take8 _ _
    have h63 : ¬ hi.testBit 63 = true := fun h => r2.1 h hz
    rw [hb, ht, num8_be8 hh, if_neg (by rw [List.length_append, be8_len]; omega), if_neg h63]
    have e0 : lo = 0 := by omega
    subst e0
    have rm' : rightB ((hi : Int), 0, ()) = true := rm
    rw [if_pos rm']; rfl
  · have hb : bytesB ((hi : Int), (lo : Int), ()) = be8 hi ++ be8 lo := if_neg hz
    have ht : ((be8 hi ++ be8 lo) ++ t).take 8 = be8 hi := by rw [List.append_assoc, take8]
    have hd : (((be8 hi ++ be8 lo) ++ t).drop 8).take 8 = be8 lo := by
      rw [List.append_assoc, show (be8 hi ++ (be8 lo ++ t)).drop 8 = be8 lo ++ t from rfl, take8]
    rw [hb, ht, hd, num8_be8 hh, num8_be8 hl, if_neg (by simp only [List.length_append, be8_len]; omega), if_pos (r2.2 hz), if_neg (by simp only [List.length_append, be8_len]; omega), if_pos rm]
    rfl
theorem bytes_read {b : List Int} (hb : ∀ c ∈ b, byteOK c) (h : (readB b).2.2 = 0) : ∃ n : Nat, (readB b).2.1 = n ∧ n ≤ b.length ∧ 8 ≤ n ∧ goodB (readB b).1 ∧ rightB (readB b).1 = true ∧ bytesB (readB b).1 = b.take n := by
  unfold readB at h ⊢
  by_cases c8 : b.length < 8
  · rw [if_pos c8] at h; exact absurd h (by decide)
  rw [if_neg c8] at h ⊢
  have n1 := num8_good (l := b) (by omega) hb
  have hbt : ∀ c ∈ b.take 8, byteOK c := fun c hc => hb c (List.mem_of_mem_take hc)
  have hl1 : (b.take 8).length = 8 := by rw [List.length_take]; omega
  by_cases ht : (num8 (b.take 8)).testBit 63 = true
  · rw [if_pos ht] at h ⊢
    by_cases c16 : b.length < 16
    · rw [if_pos c16] at h; exact absurd h (by decide)
    rw [if_neg c16] at h ⊢
    by_cases hr : rightB (((num8 (b.take 8) : Nat) : Int), ((num8 ((b.drop 8).take 8) : Nat) : Int), ()) = true
    · rw [if_pos hr]
      have hb2 : ∀ c ∈ b.drop 8, byteOK c := fun c hc => hb c (List.mem_of_mem_drop hc)
      have hl2 : 8 ≤ (b.drop 8).length := by rw [List.length_drop]; omega
      have n2 := num8_good hl2 hb2
      refine ⟨16, rfl, by omega, by omega, ⟨⟨by (try simp only []); omega, by (try simp only []); omega⟩, by (try simp only []); omega, by (try simp only []); omega⟩, hr, ?_⟩
      have hz := (rightB_iff.1 hr).2.1 (by rw [bit_one]; exact ht)
      unfold bytesB
      rw [if_neg hz]
      simp only [Int.toNat_natCast]
      rw [be8_num8 hl1 hbt, be8_num8 (by rw [List.length_take]; omega) (fun c hc => hb2 c (List.mem_of_mem_take hc)), ← List.take_add]
    · rw [if_neg hr] at h; exact absurd h (by decide)
  · rw [if_neg ht] at h ⊢
    by_cases hr : rightB (((num8 (b.take 8) : Nat) : Int), 0, ()) = true
    · rw [if_pos hr]
      refine ⟨8, rfl, by omega, by omega, ⟨⟨by (try simp only []); omega, by (try simp only []); omega⟩, Int.le_refl 0, by show (0 : Int) < _; decide⟩, hr, ?_⟩
      unfold bytesB
      rw [if_pos rfl]
      simp only [Int.toNat_natCast]
      exact be8_num8 hl1 hbt
    · rw [if_neg hr] at h; exact absurd h (by decide)
theorem readB_cut {m : BM} (gm : goodB m) (rm : rightB m = true) {n : Nat} (h : n < (bytesB m).length) : readB ((bytesB m).take n) = (zeroB, 0, 2) := by
  obtain ⟨r1, r2⟩ := rightB_iff.1 rm
  obtain ⟨hi, lo, ⟨⟩⟩ := m
  obtain ⟨hi, rfl, hh⟩ := nat_of gm.1
  obtain ⟨lo, rfl, hl⟩ := nat_of gm.2
  rw [bit_one] at r2
  have r2 : hi.testBit 63 = true ↔ ¬ (lo : Int) = 0 := r2
  have h : n < (bytesB ((hi : Int), (lo : Int), ())).length := h
  unfold readB
  have hlen : ((bytesB ((hi : Int), (lo : Int), ())).take n).length = n := by rw [List.length_take]; omega
  rw [hlen]
  by_cases c8 : n < 8
  · rw [if_pos c8]; rfl
  rw [if_neg c8]
  have hz : ¬ (lo : Int) = 0 := fun e => by
    have hb : bytesB ((hi : Int), (lo : Int), ()) = be8 hi := if_pos e
    rw [hb, be8_len] at h; omega
  have hb : bytesB ((hi : Int), (lo : Int), ()) = be8 hi ++ be8 lo := if_neg hz
  rw [hb] at h ⊢
  rw [List.length_append, be8_len, be8_len] at h
  have ht : ((be8 hi ++ be8 lo).take n).take 8 = be8 hi := by rw [List.take_take, Nat.min_eq_left (show 8 ≤ n by omega), take8]
  rw [ht, num8_be8 hh, if_pos (r2.2 hz), if_pos (by omega)]; rfl
end Go.Proofs.Ythglkecbfakmpaa.G
end
section
set_option linter.unusedVariables false
set_option linter.unusedSimpArgs false
set_option maxRecDepth 100000
namespace Go.Proofs.Ythglkecbfakmpaa.G
open Go Go.Proofs.Ythglkecbfakmpaa Th Bits
theorem G65_4_is (k : Nat) (a b : List Int) (hab : a.length = b.length) (hl : a.length ≤ 1000000000) : ∀ (j i : Nat), i + j = a.length → ∀ n, j < n →
    G65_4 k n (a, b, (i : Int), ()) = some (sel (decide (a.drop i = b.drop i)) (.inl ()) (.inr (false, ()))) := by
  intro j
  induction j with
  | zero =>
    intro i hij n hn
    obtain ⟨n, rfl⟩ : ∃ m, n = m + 1 := ⟨n - 1, by omega⟩
    rw [G65_4_eq, sel_neg (by simp only [ofNat_len]; omega), List.drop_eq_nil_of_le (by omega), List.drop_eq_nil_of_le (by omega)]
    rfl
  | succ j ih =>
    intro i hij n hn
    obtain ⟨n, rfl⟩ : ∃ m, n = m + 1 := ⟨n - 1, by omega⟩
    have hlt : i < a.length := by omega
    have hlt' : i < b.length := by omega
    rw [G65_4_eq]
    simp only [ofNat_len, Int.toNat_natCast, getD_of hlt, getD_of hlt']
    rw [sel_pos (by omega), sel_pos (by omega), sel_pos (by omega), sel_pos (by omega), sel_pos (by omega), List.drop_eq_getElem_cons hlt, List.drop_eq_getElem_cons hlt', wrap64 (by omega) (by omega)]
    simp only [List.cons.injEq]
    by_cases c : a[i] = b[i]
    · rw [decide_eq_true c, Bool.not_true, sel_false]
      have := ih (i + 1) (by omega) n (by omega)
      simp only [Int.natCast_add, Int.natCast_one] at this
      rw [this]
      have e : decide (a[i] = b[i] ∧ a.drop (i + 1) = b.drop (i + 1)) = decide (a.drop (i + 1) = b.drop (i + 1)) := decide_eq_decide.2 ⟨fun h => h.2, fun h => ⟨c, h⟩⟩
      rw [e]
    · rw [decide_eq_false c, Bool.not_false, sel_true, decide_eq_false (fun h => c h.1)]; rfl
theorem G65_is (k : Nat) (a b : List Int) (hl : a.length ≤ 1000000000) (hk : a.length < k) : G65 k (a, b, ()) = some (decide (a = b), ()) := by
  rw [G65_eq]
  simp only [ofNat_len]
  by_cases h2 : a.length = b.length
  case neg =>
    rw [decide_eq_false (show ¬ (a.length : Int) = (b.length : Int) by omega), Bool.not_false, sel_true, decide_eq_false (fun e => h2 (by rw [e]))]
  rw [decide_eq_true (show (a.length : Int) = (b.length : Int) by omega), Bool.not_true, sel_false]
  have := G65_4_is k a b h2 hl a.length 0 (by omega) k hk
  simp only [List.drop_zero, Int.natCast_zero] at this
  rw [this, ocall_some]
  cases decide (a = b) <;> rfl
def bmA : BM := (14987979559889010688, 1, ())
theorem bmA_of : ofB (0, 0, ()) [4, 2, 128] = (bmA, 0) := by kernel_rfl
theorem bmA_good : goodB bmA := ⟨⟨by decide, by decide⟩, by decide, by decide⟩
theorem bmA_right : rightB bmA = true := by kernel_rfl
theorem bmA_fields : fieldsB bmA = [2, 4, 128] := by kernel_rfl
theorem bmA_bytes : bytesB bmA = [208, 0, 0, 0, 0, 0, 0, 0, 0, 0, 0, 0, 0, 0, 0, 1] := by kernel_rfl
theorem goodB_of {m : BM} (h : 0 ≤ m.1 ∧ m.1 ≤ 18446744073709551615) (h2 : 0 ≤ m.2.1 ∧ m.2.1 ≤ 18446744073709551615) : goodB m := ⟨⟨h.1, by omega⟩, h2.1, by omega⟩
theorem sameI_self (a : Int) : sameI a a = true := by simp [sameI]
theorem G56_is (k : Nat) (hk : 200 < k) : G56 k () = some (true, ()) := by
  have hB := G68_is k (by omega) bmA bmA_good
  rw [if_pos bmA_right] at hB
  have hR := G70_is k (by omega) (bytesB bmA ++ [9]) (fun c hc => by rw [bmA_bytes] at hc; revert c; simp [byteOK])
  rw [read_bytes bmA_good bmA_right] at hR
  have hP := G57_is k bmA bmA_good 65
  have eP : putB bmA 65 = (bmA, 1) := by kernel_rfl
  rw [eP] at hP
  have hF := G66_is k (by omega) bmA bmA_good
  have h4 := G63_is k bmA bmA_good 4
  have e4 : hasB bmA 4 = true := by kernel_rfl
  have h1 := G63_is k bmA bmA_good 1
  have e1 : hasB bmA 1 = false := by kernel_rfl
  have hr := G61_is k bmA bmA_good
  have hS := G65_is k (fieldsB bmA) [2, 4, 128] (by rw [bmA_fields]; simp) (by rw [bmA_fields]; simp; omega)
  rw [bmA_fields, decide_eq_true rfl] at hS
  rw [bmA_fields] at hF
  rw [bmA_right] at hr
  rw [e4] at h4
  rw [e1] at h1
  have hl : (bytesB bmA).length = 16 := by rw [bmA_bytes]; rfl
  rw [G56_eq, G59_is k _ (by simp) (by simp; omega), bmA_of, ocall_some]
  simp only [bmA] at hB hR hP hF h4 h1 hr hS hl ⊢
  rw [hB, ocall_some]
  simp only [hl]
  rw [sel_pos (by decide), sel_pos (by decide), hR, ocall_some, hP, ocall_some]
  simp only [decide_true, sel_true]
  have eb : bytesB ((14987979559889010688, 1, ()) : BM) = [208, 0, 0, 0, 0, 0, 0, 0, 0, 0, 0, 0, 0, 0, 0, 1] := bmA_bytes
  rw [hF, ocall_some, hS, ocall_some, h4, ocall_some, h1, ocall_some, hr, ocall_some, eb, sel_pos (by rfl), sameI_self, sameI_self, Bool.and_self, Bool.and_self, sel_true, sel_pos (by rfl)]
  rfl
end Go.Proofs.Ythglkecbfakmpaa.G
end
section
set_option linter.unusedVariables false
set_option linter.unusedSimpArgs false
namespace Go.Proofs.Ythglkecbfakmpaa.PureBitmapBack
open Go Go.Proofs.Ythglkecbfakmpaa Th Bits G
theorem same_self (m : BM) : (sameI m.1 m.1 && (sameI m.2.1 m.2.1 && true)) = true := by simp [sameI]
theorem readB_err (b : List Int) : (readB b).2.2 = 0 ∨ ((readB b).1 = zeroB ∧ (readB b).2.1 = 0) := by
  unfold readB
  repeat' split
  all_goals first | exact .inl rfl | exact .inr ⟨rfl, rfl⟩
theorem tail (m : BM) (b : List Int) (hb : ∀ c ∈ b, byteOK c) (hl : b.length ≤ 3000) : (ocall (G70 5000 (b, ())) fun r => sel (!decide (r.2.2.1 = 0)) (sel (sameI r.1.1 0 && (sameI r.1.2.1 0 && true)) (some (decide (r.2.1 = 0), ())) (some (false, ()))) (ocall (G68 5000
 ((r.1.1, r.1.2.1, ()), ())) fun r_1 => sel (decide (r_1.2.1 = 0)) (ocall (G61 5000 ((r.1.1, r.1.2.1, ()), ())) fun r_2 => sel r_2.1 (sel (decide (0 < r.2.1)) (sel (decide (r.2.1 ≤ (b.length : Int))) (sel (decide ((0 : Int) ≤ r.2.1)) (sel (decide (r.2.1 ≤ (b.length : Int))) (sel
 (decide ((b.length : Int) ≤ (b.length : Int))) (some (decide (ofBytes r_1.1 = ofBytes (List.drop (Int.ofNat 0).toNat (List.take r.2.1.toNat b))), ())) none) none) none) (some (false, ()))) (some (false, ()))) (some (false, ()))) (some (false, ())))) = some (true, ()) := by
  rw [G70_is 5000 (by omega) b hb, ocall_some]
  by_cases c : (readB b).2.2 = 0
  · obtain ⟨n, h1, h2, h3, h4, h5, h6⟩ := bytes_read hb c
    have hB := G68_is 5000 (by omega) _ h4
    rw [if_pos h5, h6] at hB
    have hR := G61_is 5000 _ h4
    rw [h5] at hR
    generalize (readB b).1 = m at hB hR
    rw [c, h1, show ((m.1, m.2.1, ()) : BM) = m from rfl, hB, ocall_some]
    simp only [decide_true, Bool.not_true, sel_false, sel_true]
    rw [hR, ocall_some, sel_true, sel_pos (by omega), sel_pos (by omega), sel_pos (by omega), sel_pos (by omega), sel_pos (by omega), Int.toNat_natCast]
    simp
  · rcases readB_err b with h | ⟨h1, h2⟩
    · exact absurd h c
    · rw [decide_eq_false c, h1, h2, Bool.not_false, sel_true]
      rfl
theorem main (m : BM) (b : List Int) (cut : Int) (hg : goodB m) (hb : ∀ c ∈ b, byteOK c) (hc : 0 ≤ cut ∧ cut ≤ 255) : G14 5000 (m, b, cut, ()) = some (true, ()) := by
  have ht := tail m b hb
  have hB := G68_is 5000 (by omega) m hg
  have hR := G61_is 5000 m hg
  rw [show (m : BM) = (m.1, m.2.1, ()) from rfl, G14_eq, G56_is 5000 (by omega), ocall_some, show ((m.1, m.2.1, ()) : BM) = m from rfl]
  simp only [Bool.not_true, sel_false, ofNat_len]
  by_cases c : (3000 : Int) < b.length
  · rw [sel_pos c]
  have ht := ht (by omega)
  rw [sel_neg c, hB, ocall_some]
  cases hr : rightB m with
  | false =>
    rw [hr] at hR
    rw [if_neg (by simp)]
    rw [sel_neg (by decide), hR, ocall_some, sel_false]
    exact ht
  | true =>
    rw [if_pos rfl]
    have hlen := bytesB_len m
    have hL : 8 ≤ (bytesB m).length ∧ (bytesB m).length ≤ 16 := by rw [hlen]; split <;> omega
    have hbb := bytesB_bytes m
    have hF := G66_is 5000 (by omega) m hg
    have hfl := fieldsFrom_len m 127 2
    have hO := G59_is 5000 (fieldsB m) (by unfold fieldsB; omega) (by unfold fieldsB; omega)
    have hof := of_fields hg hr
    unfold zeroB at hof
    rw [hof] at hO
    have hX := G70_is 5000 (by omega) (bytesB m ++ b) (fun x hx => (List.mem_append.1 hx).elim (hbb x) (hb x))
    rw [read_bytes hg hr] at hX
    generalize hBB : bytesB m = B at hL hX hbb
    simp only [decide_true, sel_true]
    rw [sel_pos (show (0 : Int) < B.length by omega), sel_pos (by omega), sel_pos (by omega), hX, ocall_some, hF, ocall_some, hO, ocall_some, decide_eq_false (show ¬ (B.length : Int) = 0 by omega), Bool.not_false, sel_true]
    have hcw : IntKind.i64.wrap cut = cut := by rw [wrap64 (by omega) (by omega)]
    obtain ⟨cn, rfl⟩ : ∃ cn : Nat, cut = cn := ⟨cut.toNat, by omega⟩
    have htm : (cn : Int).tmod (B.length : Int) = ((cn % B.length : Nat) : Int) := rfl
    have hlt := Nat.mod_lt cn (show 0 < B.length by omega)
    simp only [hcw, htm]
    rw [sel_pos (by show (0 : Int) ≤ _; omega), sel_pos (by omega), sel_pos (by omega)]
    simp only [Int.toNat_natCast, show (Int.ofNat 0).toNat = 0 from rfl, List.drop_zero]
    have hcut := readB_cut hg hr (n := cn % B.length) (by rw [hBB]; exact hlt)
    rw [hBB] at hcut
    rw [G70_is 5000 (by omega) _ (fun x hx => hbb x (List.mem_of_mem_take hx)), hcut, ocall_some]
    simp only [decide_true, Bool.not_true, sel_false, same_self]
    exact ht
theorem pure (x0 : Ty.den (.st (.cons (.int .u64) (.cons (.int .u64) .nil)))) (x1 : Ty.den (.slice (.int .u8))) (x2 : Ty.den (.int .u8)) (g0 : Ty.Good (.st (.cons (.int .u64) (.cons (.int .u64) .nil))) x0) (g1 : Ty.Good (.slice (.int .u8)) x1) (g2 : Ty.Good (.int .u8) x2) : ∃ k, F14 k (x0, (x1, (x2, PUnit.unit))) = some (true, PUnit.unit) :=
  ⟨5000, main x0 x1 x2 (goodB_of (m := x0) (good_u64 g0.1) (good_u64 g0.2.1)) (fun c hc => good_u8 (g1.2.2 c hc)) (good_u8 g2)⟩
end Go.Proofs.Ythglkecbfakmpaa.PureBitmapBack
end
section
set_option linter.unusedVariables false
set_option linter.unusedSimpArgs false
namespace Go.Proofs.Ythglkecbfakmpaa.bitmapBack
open Go.ChangeShapes Go.WideShapes Go.ChangeAt Go.RowKit Go.Proofs.Ythglkecbfakmpaa Th G
open Go.ChangeMaps (open_string shut_string)
theorem own : ownKnob Try.prog.godebug = none := by kernel_rfl
theorem laidOut : laidOutB Try.prog = true := by kernel_rfl
set_option maxRecDepth 100000 in
theorem lifted (os : Os) (started : os.Started) (H : Type) (enc : TypeId × Value → H) :
    ReturnsInHanded {} Try.checked os 14 .any (Rows.bitmapBackSpec.pre6 enc Try.prog Try.f14 Rows.bitmapBackRow.domain false) (Rows.bitmapBackSpec.post enc Try.prog Try.f14 false true false false) := by
  refine returnsInHanded_of_change_sized (C := Try.checked) own started (by kernel_rfl) Try.func14
    (ChangeSpec.witness6 (enc := enc) (C := Try.checked) false ⟨#[], #[.agg #[.int .u64 0, .int .u64 0], .slice none 0 0, .int .u8 0], []⟩ 8 (by kernel_rfl) (by kernel_rfl) (by kernel_rfl) (by kernel_rfl)) ?_
  intro W base args ds gs before hval0 hW hcnd hsz0 _
  have hsz : (DataW.weightsEach Try.prog (Try.f14.params.toList ++ Rows.bitmapBackSpec.plain.varTypes Try.prog) (ds ++ gs)).all (· ≤ reachBytes) = true := hsz0
  have hval : ∀ (j : Nat) t v, Try.f14.params[j]? = some t → args[j]? = some v → Value.okWide Try.prog W .any base t v := hval0
  have hW' := hW
  obtain ⟨p, q, hA0, hV, rfl, hfz, hnd⟩ := hW
  have hA : DataW.TrodAll enc Try.prog W 0 (fun _ => true) true Try.f14.params.toList args.toList ds p := hA0
  rw [Try.params14] at hA hval hsz
  obtain ⟨v0, vs0, d0, ds0, p0, q0, hargs, rfl, rfl, h0, r0⟩ := trodAll_cons hA
  obtain ⟨v1, vs1, d1, ds1, p1, q1, rfl, rfl, rfl, h1, r1⟩ := trodAll_cons r0
  obtain ⟨v2, vs2, d2, ds2, p2, q2, rfl, rfl, rfl, h2, r2⟩ := trodAll_cons r1
  obtain ⟨rfl, rfl, rfl⟩ := trodAll_nil r2
  obtain rfl : args = #[v0, v1, v2] := by cases args; simp_all
  obtain ⟨rfl, rfl⟩ := trodVars_none hV
  obtain ⟨x0, a0, g0⟩ := open_arg (T := (.st (.cons (.int .u64) (.cons (.int .u64) .nil)))) (by kernel_rfl) (hval 0 91 v0 rfl rfl) h0 (weights_of hsz (j := 0) (t := 91) rfl rfl)
  have k0 := h0
  have lt0 : ∀ x ∈ p0, x.block < W.heap.size := by obtain ⟨m, hm⟩ := k0; exact DataW.trod_lt m _ _ _ hm
  obtain ⟨x1, a1, g1⟩ := open_arg (T := (.slice (.int .u8))) (by kernel_rfl) (hval 1 35 v1 rfl rfl) h1 (weights_of hsz (j := 1) (t := 35) rfl rfl)
  have k1 := h1
  have lt1 : ∀ x ∈ p1, x.block < W.heap.size := by obtain ⟨m, hm⟩ := k1; exact DataW.trod_lt m _ _ _ hm
  obtain ⟨x2, a2, g2⟩ := open_arg (T := (.int .u8)) (by kernel_rfl) (hval 2 5 v2 rfl rfl) h2 (weights_of hsz (j := 2) (t := 5) rfl rfl)
  have k2 := h2
  have lt2 : ∀ x ∈ p2, x.block < W.heap.size := by obtain ⟨m, hm⟩ := k2; exact DataW.trod_lt m _ _ _ hm
  obtain ⟨k, hk⟩ := PureBitmapBack.pure x0 x1 x2 g0 g1 g2
  clear hA0 hval0 hsz0 hsz
  refine (law_of (fn14 k [Ty.av (.st (.cons (.int .u64) (.cons (.int .u64) .nil))) x0, Ty.av (.slice (.int .u8)) x1, Ty.av (.int .u8) x2] (x0, (x1, (x2, PUnit.unit))) (true, PUnit.unit) rfl rfl hk) (fun _ _ hr => by cases hr) (us := [v0, v1, v2]) ⟨a0, a1, a2, trivial⟩).mono fun e W' ⟨he, bel⟩ => ?_
  subst he
  exact ⟨_, rfl, _, _, _, [], _, [], hW', trodAll_mk1 (shut_bool Try.underlying4 _), (trodAll_cons_mk (Below.trod laidOut (by kernel_rfl) (of_decide_eq_true (by kernel_rfl)) k0 bel lt0) (trodAll_cons_mk (Below.trod laidOut (by kernel_rfl) (of_decide_eq_true (by kernel_rfl)) k1 bel lt1) (trodAll_cons_mk (Below.trod laidOut (by kernel_rfl) (of_decide_eq_true (by kernel_rfl)) k2 bel lt2) trodAll_mk0))), rfl, bel.frame _, fun h => by cases h⟩
theorem over : Rows.bitmapBackRow.holds Try.pinned (OpenSpec.ofChange Rows.bitmapBackSpec) :=
  OpenClaim.holds_of_wide 14 Try.f14 rfl rfl rfl rfl rfl rfl rfl ⟨rfl, rfl, rfl, rfl, rfl⟩ rfl rfl rfl rfl rfl (by kernel_rfl) Try.func14 (by kernel_rfl)
    (of_decide_eq_true (by kernel_rfl)) (by unfold Func.isWrapper; first | (rw [if_pos (by decide +kernel)]; kernel_rfl) | (rw [if_neg (by decide +kernel)]; exact ⟨rfl, rfl⟩))
    (fun os started H enc _ => lifted os started H enc)
end Go.Proofs.Ythglkecbfakmpaa.bitmapBack
namespace Go.Proofs.Ythglkecbfakmpaa
theorem bitmapBack_holds : Rows.BitmapBackSaid := bitmapBack.over
end Go.Proofs.Ythglkecbfakmpaa
end
