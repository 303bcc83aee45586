/- THE CLAIM'S TEXTS, part 4: what its proof needs of the theory, the functions, their equations and the laws. No condition. -/
import Derived.Test.YtjonpmckkmnemaaQWheelTicks3
section
set_option linter.unusedVariables false
set_option linter.unusedSimpArgs false
namespace Go.Proofs.Ytjonpmckkmnemaa.G
open Go Go.Proofs.Ytjonpmckkmnemaa.Th
noncomputable def c28 : Code := Try.f28.body.getD .skip
noncomputable def mi28 : Msk := ⟨[(.tmp 0, .ptr 900 0), (.tmp 1, .val (.int .u64)), (.cell 900 0, .val (.int .u64)), (.cell 900 1, .val (.int .i64)), (.seg 900 2 64, .val (.arr 64 (.st (.cons (.st (.cons (.int .u32) (.cons .str .nil))) (.cons (.int .u64) .nil))))), (.seg 900 66 64, .val (.arr 64 (.st (.cons (.st (.cons (.int .u32) (.cons .str .nil))) (.cons (.int .u64) .nil)))))], [(900, 130)]⟩
noncomputable def mo28 : List Msk := [⟨[(.tmp 4, .nilp), (.cell 900 0, .val (.int .u64)), (.cell 900 1, .val (.int .i64)), (.seg 900 2 64, .val (.arr 64 (.st (.cons (.st (.cons (.int .u32) (.cons .str .nil))) (.cons (.int .u64) .nil))))), (.seg 900 66 64, .val (.arr 64 (.st (.cons (.st (.cons (.int .u32) (.cons .str .nil))) (.cons (.int .u64) .nil)))))], [(900, 130)]⟩, ⟨[(.tmp 4, .parr 900 2 64 (.st (.cons (.st (.cons (.int .u32) (.cons .str .nil))) (.cons (.int .u64) .nil)))), (.cell 900 0, .val (.int .u64)), (.cell 900 1, .val (.int .i64)), (.seg 900 2 64, .val (.arr 64 (.st (.cons (.st (.cons (.int .u32) (.cons .str .nil))) (.cons (.int .u64) .nil))))), (.seg 900 66 64, .val (.arr 64 (.st (.cons (.st (.cons (.int .u32) (.cons .str .nil))) (.cons (.int .u64) .nil)))))], [(900, 130)]⟩, ⟨[(.tmp 4, .parr 900 66 64 (.st (.cons (.st (.cons (.int .u32) (.cons .str .nil))) (.cons (.int .u64) .nil)))), (.cell 900 0, .val (.int .u64)), (.cell 900 1, .val (.int .i64)), (.seg 900 2 64, .val (.arr 64 (.st (.cons (.st (.cons (.int .u32) (.cons .str .nil))) (.cons (.int .u64) .nil))))), (.seg 900 66 64, .val (.arr 64 (.st (.cons (.st (.cons (.int .u32) (.cons .str .nil))) (.cons (.int .u64) .nil)))))], [(900, 130)]⟩]
noncomputable def L28 (k : Nat) : LOrc := fun _ _ _ _ => none
noncomputable def F28 (k : Nat) (v : mi28.den) : Option (denA mo28) := runA TI (O7000001 k) (L28 k) c28 mi28 mo28 v
theorem lk28 (k : Nat) : LinksOK false Try.prog 39 (L28 k) c28 := (And.intro True.intro (And.intro (And.intro True.intro (And.intro (And.intro True.intro True.intro) (And.intro True.intro (And.intro (And.intro True.intro True.intro) (And.intro True.intro (And.intro (And.intro True.intro True.intro) True.intro)))))) (And.intro True.intro True.intro)))
theorem fn28 (k : Nat) (vs cs : List AV) (x : mi28.den) (r : denA mo28) (h1 : vs.length = 2) (h2 : mi28.dec (startL vs cs) = some x) (h3 : F28 k x = some r) : CallOK false Try.prog 28 (vs ++ [.lent cs]) (valB 1 mo28 r) :=
  call_ofL hm hT (ok_O7000001 k) (fn := Try.f28) (c := c28) Try.func28 rfl rfl rfl (lk28 k) rfl (by decide) (by decide) rfl h1 h2 h3
noncomputable def O28 (k : Nat) : Orc := fun R f args K => bif Nat.beq f 28 then callB mi28 2 1 mo28 (F28 k) args K else O7000001 k R f args K
theorem ok_O28 (k : Nat) : OrcOK (O28 k) (CallOK false Try.prog) := orc_addL (fn28 k) (ok_O7000001 k)
noncomputable def c7000002 : Code := Try.f32.body.getD .skip
noncomputable def mi7000002 : Msk := ⟨[(.tmp 0, .ptr 900 0), (.tmp 1, .parr 900 2 64 (.st (.cons (.st (.cons (.int .u32) (.cons .str .nil))) (.cons (.int .u64) .nil)))), (.cell 900 0, .val (.int .u64)), (.cell 900 1, .val (.int .i64)), (.seg 900 2 64, .val (.arr 64 (.st (.cons (.st (.cons (.int .u32) (.cons .str .nil))) (.cons (.int .u64) .nil))))), (.seg 900 66 64, .val (.arr 64 (.st (.cons (.st (.cons (.int .u32) (.cons .str .nil))) (.cons (.int .u64) .nil)))))], [(900, 130)]⟩
noncomputable def mo7000002 : List Msk := [⟨[(.tmp 4, .val .bool), (.cell 900 0, .val (.int .u64)), (.cell 900 1, .val (.int .i64)), (.seg 900 2 64, .val (.arr 64 (.st (.cons (.st (.cons (.int .u32) (.cons .str .nil))) (.cons (.int .u64) .nil))))), (.seg 900 66 64, .val (.arr 64 (.st (.cons (.st (.cons (.int .u32) (.cons .str .nil))) (.cons (.int .u64) .nil)))))], [(900, 130)]⟩]
noncomputable def L7000002_2 (k : Nat) : LOrc := fun _ _ _ _ => none
noncomputable def b7000002_2 : Code := (findLoop 2 c7000002).getD .skip
noncomputable def m7000002_2 : Msk := ⟨[(.tmp 0, .ptr 900 0), (.tmp 1, .parr 900 2 64 (.st (.cons (.st (.cons (.int .u32) (.cons .str .nil))) (.cons (.int .u64) .nil)))), (.tmp 9, .val (.slice (.st (.cons (.st (.cons (.int .u32) (.cons .str .nil))) (.cons (.int .u64) .nil))))), (.tmp 10, .val (.int .i64)), (.tmp 11, .val (.int .i64)), (.cell 900 0, .val (.int .u64)), (.cell 900 1, .val (.int .i64)), (.seg 900 2 64, .val (.arr 64 (.st (.cons (.st (.cons (.int .u32) (.cons .str .nil))) (.cons (.int .u64) .nil))))), (.seg 900 66 64, .val (.arr 64 (.st (.cons (.st (.cons (.int .u32) (.cons .str .nil))) (.cons (.int .u64) .nil)))))], [(900, 130)]⟩
noncomputable def x7000002_2 : List (X × Msk) := [(.exit 0, ⟨[(.cell 900 0, .val (.int .u64)), (.cell 900 1, .val (.int .i64)), (.seg 900 2 64, .val (.arr 64 (.st (.cons (.st (.cons (.int .u32) (.cons .str .nil))) (.cons (.int .u64) .nil))))), (.seg 900 66 64, .val (.arr 64 (.st (.cons (.st (.cons (.int .u32) (.cons .str .nil))) (.cons (.int .u64) .nil)))))], [(900, 130)]⟩), (.ret, ⟨[(.tmp 4, .val .bool), (.cell 900 0, .val (.int .u64)), (.cell 900 1, .val (.int .i64)), (.seg 900 2 64, .val (.arr 64 (.st (.cons (.st (.cons (.int .u32) (.cons .str .nil))) (.cons (.int .u64) .nil))))), (.seg 900 66 64, .val (.arr 64 (.st (.cons (.st (.cons (.int .u32) (.cons .str .nil))) (.cons (.int .u64) .nil)))))], [(900, 130)]⟩)]
noncomputable def F7000002_2 (k : Nat) : Nat → m7000002_2.den → Option (denE x7000002_2)
  | 0, _ => none
  | j + 1, v => round TI (O28 k) (L7000002_2 k) b7000002_2 m7000002_2 x7000002_2 (F7000002_2 k j) v
theorem lk7000002_2_ (k : Nat) : LinksOK false Try.prog 39 (L7000002_2 k) b7000002_2 := (And.intro True.intro (And.intro (And.intro True.intro True.intro) (And.intro (And.intro True.intro (And.intro True.intro (And.intro (And.intro True.intro True.intro) True.intro))) True.intro)))
noncomputable def L7000002 (k : Nat) : LOrc := fun R lk s K => match lk with
  | .loop r => bif Nat.beq r 2 then link m7000002_2 x7000002_2 (F7000002_2 k k) s K else none
  | .label l => none
theorem lk_L7000002_2 (k : Nat) : LoopOK false Try.prog 39 (L7000002 k) b7000002_2 := loopOK_of hm hT (ok_O28 k) (fun _ _ _ h => h) rfl (lk7000002_2_ k) rfl rfl (F := F7000002_2 k) (fun _ => rfl) (fun _ _ => rfl) (n := k) fun _ _ _ => rfl
noncomputable def F7000002 (k : Nat) (v : mi7000002.den) : Option (denA mo7000002) := runA TI (O28 k) (L7000002 k) c7000002 mi7000002 mo7000002 v
theorem lk7000002 (k : Nat) : LinksOK false Try.prog 39 (L7000002 k) c7000002 := (And.intro True.intro (And.intro (And.intro True.intro (lk_L7000002_2 k)) (And.intro True.intro True.intro)))
theorem fn7000002 (k : Nat) (vs cs : List AV) (x : mi7000002.den) (r : denA mo7000002) (h1 : vs.length = 2) (h2 : mi7000002.dec (startL vs cs) = some x) (h3 : F7000002 k x = some r) : CallOK false Try.prog 32 (vs ++ [.lent cs]) (valB 1 mo7000002 r) :=
  call_ofL hm hT (ok_O28 k) (fn := Try.f32) (c := c7000002) Try.func32 rfl rfl rfl (lk7000002 k) rfl (by decide) (by decide) rfl h1 h2 h3
noncomputable def O7000002 (k : Nat) : Orc := fun R f args K => bif (bif Nat.beq f 32 then isAt 1 2 args else false) then callB mi7000002 2 1 mo7000002 (F7000002 k) args K else O28 k R f args K
theorem ok_O7000002 (k : Nat) : OrcOK (O7000002 k) (CallOK false Try.prog) := orc_addLP (fn7000002 k) (ok_O28 k)
noncomputable def c7000003 : Code := Try.f32.body.getD .skip
noncomputable def mi7000003 : Msk := ⟨[(.tmp 0, .ptr 900 0), (.tmp 1, .parr 900 66 64 (.st (.cons (.st (.cons (.int .u32) (.cons .str .nil))) (.cons (.int .u64) .nil)))), (.cell 900 0, .val (.int .u64)), (.cell 900 1, .val (.int .i64)), (.seg 900 2 64, .val (.arr 64 (.st (.cons (.st (.cons (.int .u32) (.cons .str .nil))) (.cons (.int .u64) .nil))))), (.seg 900 66 64, .val (.arr 64 (.st (.cons (.st (.cons (.int .u32) (.cons .str .nil))) (.cons (.int .u64) .nil)))))], [(900, 130)]⟩
noncomputable def mo7000003 : List Msk := [⟨[(.tmp 4, .val .bool), (.cell 900 0, .val (.int .u64)), (.cell 900 1, .val (.int .i64)), (.seg 900 2 64, .val (.arr 64 (.st (.cons (.st (.cons (.int .u32) (.cons .str .nil))) (.cons (.int .u64) .nil))))), (.seg 900 66 64, .val (.arr 64 (.st (.cons (.st (.cons (.int .u32) (.cons .str .nil))) (.cons (.int .u64) .nil)))))], [(900, 130)]⟩]
noncomputable def L7000003_2 (k : Nat) : LOrc := fun _ _ _ _ => none
noncomputable def b7000003_2 : Code := (findLoop 2 c7000003).getD .skip
noncomputable def m7000003_2 : Msk := ⟨[(.tmp 0, .ptr 900 0), (.tmp 1, .parr 900 66 64 (.st (.cons (.st (.cons (.int .u32) (.cons .str .nil))) (.cons (.int .u64) .nil)))), (.tmp 9, .val (.slice (.st (.cons (.st (.cons (.int .u32) (.cons .str .nil))) (.cons (.int .u64) .nil))))), (.tmp 10, .val (.int .i64)), (.tmp 11, .val (.int .i64)), (.cell 900 0, .val (.int .u64)), (.cell 900 1, .val (.int .i64)), (.seg 900 2 64, .val (.arr 64 (.st (.cons (.st (.cons (.int .u32) (.cons .str .nil))) (.cons (.int .u64) .nil))))), (.seg 900 66 64, .val (.arr 64 (.st (.cons (.st (.cons (.int .u32) (.cons .str .nil))) (.cons (.int .u64) .nil)))))], [(900, 130)]⟩
noncomputable def x7000003_2 : List (X × Msk) := [(.exit 0, ⟨[(.cell 900 0, .val (.int .u64)), (.cell 900 1, .val (.int .i64)), (.seg 900 2 64, .val (.arr 64 (.st (.cons (.st (.cons (.int .u32) (.cons .str .nil))) (.cons (.int .u64) .nil))))), (.seg 900 66 64, .val (.arr 64 (.st (.cons (.st (.cons (.int .u32) (.cons .str .nil))) (.cons (.int .u64) .nil)))))], [(900, 130)]⟩), (.ret, ⟨[(.tmp 4, .val .bool), (.cell 900 0, .val (.int .u64)), (.cell 900 1, .val (.int .i64)), (.seg 900 2 64, .val (.arr 64 (.st (.cons (.st (.cons (.int .u32) (.cons .str .nil))) (.cons (.int .u64) .nil))))), (.seg 900 66 64, .val (.arr 64 (.st (.cons (.st (.cons (.int .u32) (.cons .str .nil))) (.cons (.int .u64) .nil)))))], [(900, 130)]⟩)]
noncomputable def F7000003_2 (k : Nat) : Nat → m7000003_2.den → Option (denE x7000003_2)
  | 0, _ => none
  | j + 1, v => round TI (O7000002 k) (L7000003_2 k) b7000003_2 m7000003_2 x7000003_2 (F7000003_2 k j) v
theorem lk7000003_2_ (k : Nat) : LinksOK false Try.prog 39 (L7000003_2 k) b7000003_2 := (And.intro True.intro (And.intro (And.intro True.intro True.intro) (And.intro (And.intro True.intro (And.intro True.intro (And.intro (And.intro True.intro True.intro) True.intro))) True.intro)))
noncomputable def L7000003 (k : Nat) : LOrc := fun R lk s K => match lk with
  | .loop r => bif Nat.beq r 2 then link m7000003_2 x7000003_2 (F7000003_2 k k) s K else none
  | .label l => none
theorem lk_L7000003_2 (k : Nat) : LoopOK false Try.prog 39 (L7000003 k) b7000003_2 := loopOK_of hm hT (ok_O7000002 k) (fun _ _ _ h => h) rfl (lk7000003_2_ k) rfl rfl (F := F7000003_2 k) (fun _ => rfl) (fun _ _ => rfl) (n := k) fun _ _ _ => rfl
noncomputable def F7000003 (k : Nat) (v : mi7000003.den) : Option (denA mo7000003) := runA TI (O7000002 k) (L7000003 k) c7000003 mi7000003 mo7000003 v
theorem lk7000003 (k : Nat) : LinksOK false Try.prog 39 (L7000003 k) c7000003 := (And.intro True.intro (And.intro (And.intro True.intro (lk_L7000003_2 k)) (And.intro True.intro True.intro)))
theorem fn7000003 (k : Nat) (vs cs : List AV) (x : mi7000003.den) (r : denA mo7000003) (h1 : vs.length = 2) (h2 : mi7000003.dec (startL vs cs) = some x) (h3 : F7000003 k x = some r) : CallOK false Try.prog 32 (vs ++ [.lent cs]) (valB 1 mo7000003 r) :=
  call_ofL hm hT (ok_O7000002 k) (fn := Try.f32) (c := c7000003) Try.func32 rfl rfl rfl (lk7000003 k) rfl (by decide) (by decide) rfl h1 h2 h3
noncomputable def O7000003 (k : Nat) : Orc := fun R f args K => bif (bif Nat.beq f 32 then isAt 1 66 args else false) then callB mi7000003 2 1 mo7000003 (F7000003 k) args K else O7000002 k R f args K
theorem ok_O7000003 (k : Nat) : OrcOK (O7000003 k) (CallOK false Try.prog) := orc_addLP (fn7000003 k) (ok_O7000002 k)
noncomputable def c17 : Code := Try.f17.body.getD .skip
noncomputable def mi17 : Msk := ⟨[(.tmp 0, .val (.st (.cons (.int .u64) (.cons (.int .i64) (.cons (.arr 64 (.st (.cons (.st (.cons (.int .u32) (.cons .str .nil))) (.cons (.int .u64) .nil)))) (.cons (.arr 64 (.st (.cons (.st (.cons (.int .u32) (.cons .str .nil))) (.cons (.int .u64) .nil)))) .nil))))))], []⟩
noncomputable def mo17 : Msk := ⟨[(.tmp 2, .val .bool)], []⟩
noncomputable def L17_5 (k : Nat) : LOrc := fun _ _ _ _ => none
noncomputable def b17_5 : Code := (findLoop 5 c17).getD .skip
noncomputable def m17_5 : Msk := ⟨[(.tmp 1, .ptr 1 0), (.tmp 3, .row false (.st (.cons (.st (.cons (.int .u32) (.cons .str .nil))) (.cons (.int .u64) .nil)))), (.tmp 25, .val (.int .i64)), (.cell 1 0, .val (.int .u64)), (.cell 1 1, .val (.int .i64)), (.seg 1 2 64, .val (.arr 64 (.st (.cons (.st (.cons (.int .u32) (.cons .str .nil))) (.cons (.int .u64) .nil))))), (.seg 1 66 64, .val (.arr 64 (.st (.cons (.st (.cons (.int .u32) (.cons .str .nil))) (.cons (.int .u64) .nil)))))], [(1, 130)]⟩
noncomputable def x17_5 : List (X × Msk) := [(.exit 0, ⟨[(.tmp 3, .row false (.st (.cons (.st (.cons (.int .u32) (.cons .str .nil))) (.cons (.int .u64) .nil))))], []⟩), (.ret, ⟨[(.tmp 2, .val .bool)], []⟩)]
noncomputable def F17_5 (k : Nat) : Nat → m17_5.den → Option (denE x17_5)
  | 0, _ => none
  | j + 1, v => round TI (O7000003 k) (L17_5 k) b17_5 m17_5 x17_5 (F17_5 k j) v
theorem lk17_5_ (k : Nat) : LinksOK false Try.prog 56 (L17_5 k) b17_5 := (And.intro True.intro (And.intro (And.intro True.intro True.intro) (And.intro (And.intro True.intro (And.intro True.intro (And.intro (And.intro True.intro True.intro) True.intro))) True.intro)))
noncomputable def L17_12 (k : Nat) : LOrc := fun _ _ _ _ => none
noncomputable def b17_12 : Code := (findLoop 12 c17).getD .skip
noncomputable def m17_12 : Msk := ⟨[(.tmp 5, .map (.st (.cons (.int .u32) (.cons .str .nil)))), (.tmp 42, .row false (.st (.cons (.st (.cons (.int .u32) (.cons .str .nil))) (.cons (.int .u64) .nil)))), (.tmp 43, .val (.int .i64)), (.tmp 44, .val (.int .i64))], []⟩
noncomputable def x17_12 : List (X × Msk) := [(.exit 2, ⟨[], []⟩), (.ret, ⟨[(.tmp 2, .val .bool)], []⟩)]
noncomputable def F17_12 (k : Nat) : Nat → m17_12.den → Option (denE x17_12)
  | 0, _ => none
  | j + 1, v => round TI (O7000003 k) (L17_12 k) b17_12 m17_12 x17_12 (F17_12 k j) v
theorem lk17_12_ (k : Nat) : LinksOK false Try.prog 56 (L17_12 k) b17_12 := (And.intro True.intro (And.intro (And.intro True.intro True.intro) (And.intro (And.intro True.intro (And.intro (And.intro True.intro (And.intro (And.intro True.intro True.intro) True.intro)) True.intro)) True.intro)))
noncomputable def L17 (k : Nat) : LOrc := fun R lk s K => match lk with
  | .loop r => bif Nat.beq r 5 then link m17_5 x17_5 (F17_5 k k) s K else bif Nat.beq r 12 then link m17_12 x17_12 (F17_12 k k) s K else none
  | .label l => none
theorem lk_L17_5 (k : Nat) : LoopOK false Try.prog 56 (L17 k) b17_5 := loopOK_of hm hT (ok_O7000003 k) (fun _ _ _ h => h) rfl (lk17_5_ k) rfl rfl (F := F17_5 k) (fun _ => rfl) (fun _ _ => rfl) (n := k) fun _ _ _ => rfl
theorem lk_L17_12 (k : Nat) : LoopOK false Try.prog 56 (L17 k) b17_12 := loopOK_of hm hT (ok_O7000003 k) (fun _ _ _ h => h) rfl (lk17_12_ k) rfl rfl (F := F17_12 k) (fun _ => rfl) (fun _ _ => rfl) (n := k) fun _ _ _ => rfl
noncomputable def F17 (k : Nat) (v : mi17.den) : Option mo17.den := runF TI (O7000003 k) (L17 k) c17 mi17 mo17 v
theorem lk17 (k : Nat) : LinksOK false Try.prog 56 (L17 k) c17 := (And.intro True.intro (And.intro True.intro (And.intro (And.intro True.intro (And.intro (And.intro True.intro True.intro) True.intro)) (And.intro (And.intro True.intro (lk_L17_5 k)) (And.intro True.intro (And.intro (And.intro True.intro (lk_L17_12 k)) (And.intro True.intro True.intro)))))))
theorem fn17 (k : Nat) (args : List AV) (x : mi17.den) (r : mo17.den) (h1 : args.length = mi17.items.length) (h2 : mi17.dec (Th.start args) = some x) (h3 : F17 k x = some r) : CallOK false Try.prog 17 args (ansOf (outL mo17.items r)) :=
  call_of hm hT (ok_O7000003 k) (fn := Try.f17) (c := c17) Try.func17 rfl rfl rfl (lk17 k) rfl (by decide) rfl h1 h2 h3
noncomputable def O17 (k : Nat) : Orc := fun R f args K => bif Nat.beq f 17 then callF mi17 mo17 (F17 k) args K else O7000003 k R f args K
theorem ok_O17 (k : Nat) : OrcOK (O17 k) (CallOK false Try.prog) := orc_add (fn17 k) (ok_O7000003 k)
noncomputable def c12 : Code := Try.f12.body.getD .skip
noncomputable def mi12 : Msk := ⟨[(.tmp 0, .val (.int .u64)), (.tmp 1, .val (.int .i64))], []⟩
noncomputable def mo12 : Msk := ⟨[(.res 4, .val (.st (.cons (.int .u64) (.cons (.int .i64) (.cons (.arr 64 (.st (.cons (.st (.cons (.int .u32) (.cons .str .nil))) (.cons (.int .u64) .nil)))) (.cons (.arr 64 (.st (.cons (.st (.cons (.int .u32) (.cons .str .nil))) (.cons (.int .u64) .nil)))) .nil)))))), (.tmp 5, .val (.int .i64))], []⟩
noncomputable def L12 (k : Nat) : LOrc := fun _ _ _ _ => none
noncomputable def F12 (k : Nat) (v : mi12.den) : Option mo12.den := runF TI (O17 k) (L12 k) c12 mi12 mo12 v
theorem lk12 (k : Nat) : LinksOK false Try.prog 14 (L12 k) c12 := (And.intro True.intro (And.intro (And.intro True.intro (And.intro True.intro (And.intro (And.intro True.intro True.intro) True.intro))) (And.intro True.intro True.intro)))
theorem fn12 (k : Nat) (args : List AV) (x : mi12.den) (r : mo12.den) (h1 : args.length = mi12.items.length) (h2 : mi12.dec (Th.start args) = some x) (h3 : F12 k x = some r) : CallOK false Try.prog 12 args (ansOf (outL mo12.items r)) :=
  call_of hm hT (ok_O17 k) (fn := Try.f12) (c := c12) Try.func12 rfl rfl rfl (lk12 k) rfl (by decide) rfl h1 h2 h3
noncomputable def O12 (k : Nat) : Orc := fun R f args K => bif Nat.beq f 12 then callF mi12 mo12 (F12 k) args K else O17 k R f args K
theorem ok_O12 (k : Nat) : OrcOK (O12 k) (CallOK false Try.prog) := orc_add (fn12 k) (ok_O17 k)
noncomputable def c14 : Code := Try.f14.body.getD .skip
noncomputable def mi14 : Msk := ⟨[(.tmp 0, .val (.st (.cons (.int .u64) (.cons (.int .i64) (.cons (.arr 64 (.st (.cons (.st (.cons (.int .u32) (.cons .str .nil))) (.cons (.int .u64) .nil)))) (.cons (.arr 64 (.st (.cons (.st (.cons (.int .u32) (.cons .str .nil))) (.cons (.int .u64) .nil)))) .nil)))))), (.tmp 1, .val (.st (.cons (.int .u32) (.cons .str .nil))))], []⟩
noncomputable def mo14 : Msk := ⟨[(.tmp 4, .val (.int .u64)), (.tmp 5, .val .bool)], []⟩
noncomputable def L14_4 (k : Nat) : LOrc := fun _ _ _ _ => none
noncomputable def b14_4 : Code := (findLoop 4 c14).getD .skip
noncomputable def m14_4 : Msk := ⟨[(.tmp 3, .val (.ref (.st (.cons (.int .u32) (.cons .str .nil))))), (.tmp 12, .row false (.st (.cons (.st (.cons (.int .u32) (.cons .str .nil))) (.cons (.int .u64) .nil)))), (.tmp 13, .val (.int .i64)), (.tmp 14, .val (.int .i64))], []⟩
noncomputable def x14_4 : List (X × Msk) := [(.exit 0, ⟨[], []⟩), (.ret, ⟨[(.tmp 4, .val (.int .u64)), (.tmp 5, .val .bool)], []⟩)]
noncomputable def F14_4 (k : Nat) : Nat → m14_4.den → Option (denE x14_4)
  | 0, _ => none
  | j + 1, v => round TI (O12 k) (L14_4 k) b14_4 m14_4 x14_4 (F14_4 k j) v
theorem lk14_4_ (k : Nat) : LinksOK false Try.prog 25 (L14_4 k) b14_4 := (And.intro True.intro (And.intro (And.intro True.intro True.intro) (And.intro (And.intro True.intro (And.intro True.intro (And.intro (And.intro True.intro True.intro) True.intro))) True.intro)))
noncomputable def L14 (k : Nat) : LOrc := fun R lk s K => match lk with
  | .loop r => bif Nat.beq r 4 then link m14_4 x14_4 (F14_4 k k) s K else none
  | .label l => none
theorem lk_L14_4 (k : Nat) : LoopOK false Try.prog 25 (L14 k) b14_4 := loopOK_of hm hT (ok_O12 k) (fun _ _ _ h => h) rfl (lk14_4_ k) rfl rfl (F := F14_4 k) (fun _ => rfl) (fun _ _ => rfl) (n := k) fun _ _ _ => rfl
noncomputable def F14 (k : Nat) (v : mi14.den) : Option mo14.den := runF TI (O12 k) (L14 k) c14 mi14 mo14 v
theorem lk14 (k : Nat) : LinksOK false Try.prog 25 (L14 k) c14 := (And.intro True.intro (And.intro (And.intro True.intro (And.intro (And.intro True.intro True.intro) True.intro)) (And.intro (And.intro True.intro (lk_L14_4 k)) (And.intro True.intro True.intro))))
theorem fn14 (k : Nat) (args : List AV) (x : mi14.den) (r : mo14.den) (h1 : args.length = mi14.items.length) (h2 : mi14.dec (Th.start args) = some x) (h3 : F14 k x = some r) : CallOK false Try.prog 14 args (ansOf (outL mo14.items r)) :=
  call_of hm hT (ok_O12 k) (fn := Try.f14) (c := c14) Try.func14 rfl rfl rfl (lk14 k) rfl (by decide) rfl h1 h2 h3
noncomputable def O14 (k : Nat) : Orc := fun R f args K => bif Nat.beq f 14 then callF mi14 mo14 (F14 k) args K else O12 k R f args K
theorem ok_O14 (k : Nat) : OrcOK (O14 k) (CallOK false Try.prog) := orc_add (fn14 k) (ok_O12 k)
noncomputable def c35 : Code := Try.f35.body.getD .skip
noncomputable def mo35 : Msk := ⟨[(.tmp 2, .row false (.st (.cons (.st (.cons (.int .u32) (.cons .str .nil))) (.cons (.int .u64) .nil))))], []⟩
noncomputable def L35 : LOrc := fun _ _ _ _ => none
noncomputable def F35 (k : Nat) (l : List (Ty.den (.st (.cons (.st (.cons (.int .u32) (.cons .str .nil))) (.cons (.int .u64) .nil))))) : Option mo35.den := run TI (O14 k) L35 c35 (Th.start [.nsl (.st (.cons (.st (.cons (.int .u32) (.cons .str .nil))) (.cons (.int .u64) .nil))) l]) (endF mo35)
theorem fn35 (k : Nat) (l : List (Ty.den (.st (.cons (.st (.cons (.int .u32) (.cons .str .nil))) (.cons (.int .u64) .nil))))) (r : mo35.den) (h : F35 k l = some r) : CallOK false Try.prog 35 [.sl (.st (.cons (.st (.cons (.int .u32) (.cons .str .nil))) (.cons (.int .u64) .nil))) l] (ansOf (outL mo35.items r)) :=
  call_nil hm hT (ok_O14 k) (fn := Try.f35) (c := c35) Try.func35 rfl rfl rfl ((And.intro True.intro (And.intro (And.intro True.intro (And.intro (And.intro True.intro True.intro) True.intro)) (And.intro True.intro True.intro))) : LinksOK false Try.prog 8 L35 c35) (by decide) rfl (fun e => by subst e; exact h) h
noncomputable def O35 (k : Nat) : Orc := fun R f args K => bif Nat.beq f 35 then callN (.st (.cons (.st (.cons (.int .u32) (.cons .str .nil))) (.cons (.int .u64) .nil))) mo35 (F35 k) args K else O14 k R f args K
theorem ok_O35 (k : Nat) : OrcOK (O35 k) (CallOK false Try.prog) := orc_addN (fn35 k) (ok_O14 k)
noncomputable def F44 (k : Nat) (v : List (Ty.den (.st (.cons (.st (.cons (.int .u32) (.cons .str .nil))) (.cons (.int .u64) .nil)))) × Int × List (Ty.den (.st (.cons (.st (.cons (.int .u32) (.cons .str .nil))) (.cons (.int .u64) .nil)))) × Unit) : Option (List (Ty.den (.st (.cons (.st (.cons (.int .u32) (.cons .str .nil))) (.cons (.int .u64) .nil)))) × Unit) := sel (decide (0 ≤ v.2.1)) (sel (decide (v.2.1 ≤ Int.ofNat v.1.length)) (sel (decide (v.1.length ≤ 1000000)) (sel (decide (v.2.2.1.length = 1)) (some (v.1.take v.2.1.toNat ++ v.2.2.1 ++ v.1.drop v.2.1.toNat, ())) none) none) none) none
noncomputable def O44 (k : Nat) : Orc := fun R f args K => bif Nat.beq f 44 then (match args with | [.own T' l, .int .i64 i, .sl T'' q] => (match T'.dec (.st (.cons (.st (.cons (.int .u32) (.cons .str .nil))) (.cons (.int .u64) .nil))) with | some h => (match T''.dec (.st (.cons (.st (.cons (.int .u32) (.cons .str .nil))) (.cons (.int .u64) .nil))) with | some h2 => ocall (F44 k (h.down ▸ l, i, h2.down ▸ q, ())) fun r => K (.back (.own (.st (.cons (.st (.cons (.int .u32) (.cons .str .nil))) (.cons (.int .u64) .nil))) r.1) [.lent []]) | none => none) | none => none) | _ => none) else O35 k R f args K
theorem ok_O44 (k : Nat) : OrcOK (O44 k) (CallOK false Try.prog) := by
  intro R f args K r h
  unfold O44 at h
  cases hb : Nat.beq f 44 with
  | false => rw [hb] at h; exact ok_O35 k R f args K r h
  | true =>
    rw [hb] at h
    rw [Nat.eq_of_beq_eq_true hb]
    simp only [cond_true] at h
    split at h
    · rename_i T' l i T'' q
      cases hd : T'.dec (.st (.cons (.st (.cons (.int .u32) (.cons .str .nil))) (.cons (.int .u64) .nil))) with
      | none => rw [hd] at h; cases h
      | some hh =>
        obtain ⟨rfl⟩ := hh
        rw [hd] at h
        simp only [] at h
        cases hd2 : T''.dec (.st (.cons (.st (.cons (.int .u32) (.cons .str .nil))) (.cons (.int .u64) .nil))) with
        | none => rw [hd2] at h; cases h
        | some hh2 =>
        obtain ⟨rfl⟩ := hh2
        rw [hd2] at h
        obtain ⟨y, hy, h⟩ := obind_some h
        unfold F44 at hy
        by_cases c1 : 0 ≤ i
        · rw [sel_pos c1] at hy
          by_cases c2 : i ≤ Int.ofNat (l : List (Ty.den (.st (.cons (.st (.cons (.int .u32) (.cons .str .nil))) (.cons (.int .u64) .nil))))).length
          · rw [sel_pos c2] at hy
            by_cases c3 : (l : List (Ty.den (.st (.cons (.st (.cons (.int .u32) (.cons .str .nil))) (.cons (.int .u64) .nil))))).length ≤ 1000000
            · rw [sel_pos c3] at hy
              by_cases c4 : (q : List (Ty.den (.st (.cons (.st (.cons (.int .u32) (.cons .str .nil))) (.cons (.int .u64) .nil))))).length = 1
              · rw [sel_pos c4] at hy
                cases hy
                obtain ⟨x, rfl⟩ : ∃ x, q = [x] := List.length_eq_one_iff.1 c4
                obtain ⟨ti, d, z, E⟩ := hT.get (t := 58) (i := ⟨.struct, 3, 32, (.st (.cons (.st (.cons (.int .u32) (.cons .str .nil))) (.cons (.int .u64) .nil))), [.int .u32 0, .str [], .int .u64 0], [(0, 44), (2, 22)], [2, 1], true, true, [], []⟩) rfl
                exact ⟨_, Ins44.calls E rfl (fun e => by cases e) (by decide) (by decide) l i x c1 c2 c3, h⟩
              · rw [sel_neg c4] at hy; cases hy
            · rw [sel_neg c3] at hy; cases hy
          · rw [sel_neg c2] at hy; cases hy
        · rw [sel_neg c1] at hy; cases hy
    · cases h
noncomputable def c7000004 : Code := Try.f43.body.getD .skip
noncomputable def mi7000004 : Msk := ⟨[(.tmp 0, .val (.slice (.st (.cons (.st (.cons (.int .u32) (.cons .str .nil))) (.cons (.int .u64) .nil))))), (.tmp 1, .val (.st (.cons (.st (.cons (.int .u32) (.cons .str .nil))) (.cons (.int .u64) .nil)))), (.tmp 2, .val (.clo 31 .nil))], []⟩
noncomputable def mo7000004 : Msk := ⟨[(.tmp 6, .val (.int .i64)), (.tmp 7, .val .bool)], []⟩
noncomputable def L7000004_3 (k : Nat) : LOrc := fun _ _ _ _ => none
noncomputable def b7000004_3 : Code := (findLoop 3 c7000004).getD .skip
noncomputable def m7000004_3 : Msk := ⟨[(.tmp 0, .val (.slice (.st (.cons (.st (.cons (.int .u32) (.cons .str .nil))) (.cons (.int .u64) .nil))))), (.tmp 2, .val (.clo 31 .nil)), (.tmp 4, .ptr 4 0), (.tmp 8, .val (.int .i64)), (.tmp 9, .val (.int .i64)), (.tmp 10, .val (.int .i64)), (.cell 4 0, .val (.int .u32)), (.cell 4 1, .val .str), (.cell 4 2, .val (.int .u64))], [(4, 3)]⟩
noncomputable def x7000004_3 : List (X × Msk) := [(.exit 0, ⟨[(.tmp 0, .val (.slice (.st (.cons (.st (.cons (.int .u32) (.cons .str .nil))) (.cons (.int .u64) .nil))))), (.tmp 2, .val (.clo 31 .nil)), (.tmp 4, .ptr 4 0), (.tmp 8, .val (.int .i64)), (.tmp 9, .val (.int .i64)), (.cell 4 0, .val (.int .u32)), (.cell 4 1, .val .str), (.cell 4 2, .val (.int .u64))], [(4, 3)]⟩)]
noncomputable def F7000004_3 (k : Nat) : Nat → m7000004_3.den → Option (denE x7000004_3)
  | 0, _ => none
  | j + 1, v => round TI (O44 k) (L7000004_3 k) b7000004_3 m7000004_3 x7000004_3 (F7000004_3 k j) v
theorem lk7000004_3_ (k : Nat) : LinksOK false Try.prog 49 (L7000004_3 k) b7000004_3 := (And.intro (And.intro True.intro (And.intro True.intro True.intro)) (And.intro True.intro (And.intro True.intro (And.intro True.intro True.intro))))
noncomputable def L7000004 (k : Nat) : LOrc := fun R lk s K => match lk with
  | .loop r => bif Nat.beq r 3 then link m7000004_3 x7000004_3 (F7000004_3 k k) s K else none
  | .label l => none
theorem lk_L7000004_3 (k : Nat) : LoopOK false Try.prog 49 (L7000004 k) b7000004_3 := loopOK_of hm hT (ok_O44 k) (fun _ _ _ h => h) rfl (lk7000004_3_ k) rfl rfl (F := F7000004_3 k) (fun _ => rfl) (fun _ _ => rfl) (n := k) fun _ _ _ => rfl
noncomputable def F7000004 (k : Nat) (v : mi7000004.den) : Option mo7000004.den := runF TI (O44 k) (L7000004 k) c7000004 mi7000004 mo7000004 v
theorem lk7000004 (k : Nat) : LinksOK false Try.prog 49 (L7000004 k) c7000004 := (And.intro True.intro (And.intro True.intro (And.intro True.intro (And.intro (lk_L7000004_3 k) (And.intro True.intro True.intro)))))
theorem fn7000004 (k : Nat) (args : List AV) (x : mi7000004.den) (r : mo7000004.den) (h1 : args.length = mi7000004.items.length) (h2 : mi7000004.dec (Th.start args) = some x) (h3 : F7000004 k x = some r) : CallOK false Try.prog 43 args (ansOf (outL mo7000004.items r)) :=
  call_of hm hT (ok_O44 k) (fn := Try.f43) (c := c7000004) Try.func43 rfl rfl rfl (lk7000004 k) rfl (by decide) rfl h1 h2 h3
noncomputable def O7000004 (k : Nat) : Orc := fun R f args K => bif (bif Nat.beq f 43 then isClo 2 31 args else false) then callF mi7000004 mo7000004 (F7000004 k) args K else O44 k R f args K
theorem ok_O7000004 (k : Nat) : OrcOK (O7000004 k) (CallOK false Try.prog) := orc_addP (fn7000004 k) (ok_O44 k)
noncomputable def c29 : Code := Try.f29.body.getD .skip
noncomputable def mi29 : Msk := ⟨[(.tmp 0, .ptr 900 0), (.tmp 1, .val (.st (.cons (.st (.cons (.int .u32) (.cons .str .nil))) (.cons (.int .u64) .nil)))), (.cell 900 0, .val (.int .u64)), (.cell 900 1, .val (.int .i64)), (.seg 900 2 64, .val (.arr 64 (.st (.cons (.st (.cons (.int .u32) (.cons .str .nil))) (.cons (.int .u64) .nil))))), (.seg 900 66 64, .val (.arr 64 (.st (.cons (.st (.cons (.int .u32) (.cons .str .nil))) (.cons (.int .u64) .nil)))))], [(900, 130)]⟩
noncomputable def mo29 : List Msk := [⟨[(.cell 900 0, .val (.int .u64)), (.cell 900 1, .val (.int .i64)), (.seg 900 2 64, .val (.arr 64 (.st (.cons (.st (.cons (.int .u32) (.cons .str .nil))) (.cons (.int .u64) .nil))))), (.seg 900 66 64, .val (.arr 64 (.st (.cons (.st (.cons (.int .u32) (.cons .str .nil))) (.cons (.int .u64) .nil)))))], [(900, 130)]⟩]
noncomputable def L29 (k : Nat) : LOrc := fun _ _ _ _ => none
noncomputable def F29 (k : Nat) (v : mi29.den) : Option (denA mo29) := runA TI (O7000004 k) (L29 k) c29 mi29 mo29 v
theorem lk29 (k : Nat) : LinksOK false Try.prog 29 (L29 k) c29 := (And.intro True.intro (And.intro True.intro (And.intro True.intro True.intro)))
theorem fn29 (k : Nat) (vs cs : List AV) (x : mi29.den) (r : denA mo29) (h1 : vs.length = 2) (h2 : mi29.dec (startL vs cs) = some x) (h3 : F29 k x = some r) : CallOK false Try.prog 29 (vs ++ [.lent cs]) (valB 0 mo29 r) :=
  call_ofL hm hT (ok_O7000004 k) (fn := Try.f29) (c := c29) Try.func29 rfl rfl rfl (lk29 k) rfl (by decide) (by decide) rfl h1 h2 h3
noncomputable def O29 (k : Nat) : Orc := fun R f args K => bif Nat.beq f 29 then callB mi29 2 0 mo29 (F29 k) args K else O7000004 k R f args K
theorem ok_O29 (k : Nat) : OrcOK (O29 k) (CallOK false Try.prog) := orc_addL (fn29 k) (ok_O7000004 k)
noncomputable def c15 : Code := Try.f15.body.getD .skip
noncomputable def mi15 : Msk := ⟨[(.tmp 0, .val (.st (.cons (.int .u64) (.cons (.int .i64) (.cons (.arr 64 (.st (.cons (.st (.cons (.int .u32) (.cons .str .nil))) (.cons (.int .u64) .nil)))) (.cons (.arr 64 (.st (.cons (.st (.cons (.int .u32) (.cons .str .nil))) (.cons (.int .u64) .nil)))) .nil)))))), (.tmp 1, .val (.st (.cons (.int .u32) (.cons .str .nil)))), (.tmp 2, .val (.int .u64))], []⟩
noncomputable def mo15 : Msk := ⟨[(.res 6, .val (.st (.cons (.int .u64) (.cons (.int .i64) (.cons (.arr 64 (.st (.cons (.st (.cons (.int .u32) (.cons .str .nil))) (.cons (.int .u64) .nil)))) (.cons (.arr 64 (.st (.cons (.st (.cons (.int .u32) (.cons .str .nil))) (.cons (.int .u64) .nil)))) .nil)))))), (.tmp 7, .val (.int .i64))], []⟩
noncomputable def L15 (k : Nat) : LOrc := fun _ _ _ _ => none
noncomputable def F15 (k : Nat) (v : mi15.den) : Option mo15.den := runF TI (O29 k) (L15 k) c15 mi15 mo15 v
theorem lk15 (k : Nat) : LinksOK false Try.prog 47 (L15 k) c15 := (And.intro True.intro (And.intro (And.intro True.intro (And.intro (And.intro True.intro True.intro) True.intro)) (And.intro True.intro (And.intro (And.intro True.intro (And.intro (And.intro True.intro True.intro) (And.intro True.intro (And.intro (And.intro True.intro True.intro) (And.intro True.intro (And.intro (And.intro True.intro True.intro) (And.intro True.intro (And.intro (And.intro True.intro True.intro) True.intro)))))))) (And.intro True.intro (And.intro True.intro True.intro))))))
theorem fn15 (k : Nat) (args : List AV) (x : mi15.den) (r : mo15.den) (h1 : args.length = mi15.items.length) (h2 : mi15.dec (Th.start args) = some x) (h3 : F15 k x = some r) : CallOK false Try.prog 15 args (ansOf (outL mo15.items r)) :=
  call_of hm hT (ok_O29 k) (fn := Try.f15) (c := c15) Try.func15 rfl rfl rfl (lk15 k) rfl (by decide) rfl h1 h2 h3
noncomputable def O15 (k : Nat) : Orc := fun R f args K => bif Nat.beq f 15 then callF mi15 mo15 (F15 k) args K else O29 k R f args K
theorem ok_O15 (k : Nat) : OrcOK (O15 k) (CallOK false Try.prog) := orc_add (fn15 k) (ok_O29 k)
noncomputable def c25 : Code := Try.f25.body.getD .skip
noncomputable def mi25 : Msk := ⟨[(.tmp 0, .ptr 900 0), (.cell 900 0, .val (.int .u64)), (.cell 900 1, .val (.int .i64)), (.seg 900 2 64, .val (.arr 64 (.st (.cons (.st (.cons (.int .u32) (.cons .str .nil))) (.cons (.int .u64) .nil))))), (.seg 900 66 64, .val (.arr 64 (.st (.cons (.st (.cons (.int .u32) (.cons .str .nil))) (.cons (.int .u64) .nil)))))], [(900, 130)]⟩
noncomputable def mo25 : List Msk := [⟨[(.tmp 2, .val (.slice (.st (.cons (.st (.cons (.int .u32) (.cons .str .nil))) (.cons (.int .u64) .nil))))), (.cell 900 0, .val (.int .u64)), (.cell 900 1, .val (.int .i64)), (.seg 900 2 64, .val (.arr 64 (.st (.cons (.st (.cons (.int .u32) (.cons .str .nil))) (.cons (.int .u64) .nil))))), (.seg 900 66 64, .val (.arr 64 (.st (.cons (.st (.cons (.int .u32) (.cons .str .nil))) (.cons (.int .u64) .nil)))))], [(900, 130)]⟩]
noncomputable def L25_5 (k : Nat) : LOrc := fun _ _ _ _ => none
noncomputable def b25_5 : Code := (findLoop 5 c25).getD .skip
noncomputable def m25_5 : Msk := ⟨[(.tmp 0, .ptr 900 0), (.tmp 3, .parr 900 66 64 (.st (.cons (.st (.cons (.int .u32) (.cons .str .nil))) (.cons (.int .u64) .nil)))), (.tmp 32, .val (.slice (.st (.cons (.st (.cons (.int .u32) (.cons .str .nil))) (.cons (.int .u64) .nil))))), (.tmp 33, .val (.int .i64)), (.tmp 34, .val (.int .i64)), (.cell 900 0, .val (.int .u64)), (.cell 900 1, .val (.int .i64)), (.seg 900 2 64, .val (.arr 64 (.st (.cons (.st (.cons (.int .u32) (.cons .str .nil))) (.cons (.int .u64) .nil))))), (.seg 900 66 64, .val (.arr 64 (.st (.cons (.st (.cons (.int .u32) (.cons .str .nil))) (.cons (.int .u64) .nil)))))], [(900, 130)]⟩
noncomputable def x25_5 : List (X × Msk) := [(.exit 0, ⟨[(.tmp 0, .ptr 900 0), (.tmp 3, .parr 900 66 64 (.st (.cons (.st (.cons (.int .u32) (.cons .str .nil))) (.cons (.int .u64) .nil)))), (.cell 900 0, .val (.int .u64)), (.cell 900 1, .val (.int .i64)), (.seg 900 2 64, .val (.arr 64 (.st (.cons (.st (.cons (.int .u32) (.cons .str .nil))) (.cons (.int .u64) .nil))))), (.seg 900 66 64, .val (.arr 64 (.st (.cons (.st (.cons (.int .u32) (.cons .str .nil))) (.cons (.int .u64) .nil)))))], [(900, 130)]⟩)]
noncomputable def F25_5 (k : Nat) : Nat → m25_5.den → Option (denE x25_5)
  | 0, _ => none
  | j + 1, v => round TI (O15 k) (L25_5 k) b25_5 m25_5 x25_5 (F25_5 k j) v
theorem lk25_5_ (k : Nat) : LinksOK false Try.prog 68 (L25_5 k) b25_5 := (And.intro True.intro (And.intro (And.intro True.intro True.intro) (And.intro (And.intro True.intro (And.intro True.intro True.intro)) True.intro)))
noncomputable def L25 (k : Nat) : LOrc := fun R lk s K => match lk with
  | .loop r => bif Nat.beq r 5 then link m25_5 x25_5 (F25_5 k k) s K else none
  | .label l => none
theorem lk_L25_5 (k : Nat) : LoopOK false Try.prog 68 (L25 k) b25_5 := loopOK_of hm hT (ok_O15 k) (fun _ _ _ h => h) rfl (lk25_5_ k) rfl rfl (F := F25_5 k) (fun _ => rfl) (fun _ _ => rfl) (n := k) fun _ _ _ => rfl
noncomputable def F25 (k : Nat) (v : mi25.den) : Option (denA mo25) := runA TI (O15 k) (L25 k) c25 mi25 mo25 v
theorem lk25 (k : Nat) : LinksOK false Try.prog 68 (L25 k) c25 := (And.intro True.intro (And.intro True.intro (And.intro (And.intro True.intro (And.intro (And.intro True.intro (And.intro (And.intro True.intro (lk_L25_5 k)) True.intro)) True.intro)) (And.intro True.intro (And.intro True.intro (And.intro True.intro (And.intro True.intro True.intro)))))))
theorem fn25 (k : Nat) (vs cs : List AV) (x : mi25.den) (r : denA mo25) (h1 : vs.length = 1) (h2 : mi25.dec (startL vs cs) = some x) (h3 : F25 k x = some r) : CallOK false Try.prog 25 (vs ++ [.lent cs]) (valB 1 mo25 r) :=
  call_ofL hm hT (ok_O15 k) (fn := Try.f25) (c := c25) Try.func25 rfl rfl rfl (lk25 k) rfl (by decide) (by decide) rfl h1 h2 h3
noncomputable def O25 (k : Nat) : Orc := fun R f args K => bif Nat.beq f 25 then callB mi25 1 1 mo25 (F25 k) args K else O15 k R f args K
theorem ok_O25 (k : Nat) : OrcOK (O25 k) (CallOK false Try.prog) := orc_addL (fn25 k) (ok_O15 k)
noncomputable def c8 : Code := Try.f8.body.getD .skip
noncomputable def mi8 : Msk := ⟨[(.tmp 0, .val (.st (.cons (.int .u64) (.cons (.int .i64) (.cons (.arr 64 (.st (.cons (.st (.cons (.int .u32) (.cons .str .nil))) (.cons (.int .u64) .nil)))) (.cons (.arr 64 (.st (.cons (.st (.cons (.int .u32) (.cons .str .nil))) (.cons (.int .u64) .nil)))) .nil)))))), (.tmp 1, .val (.int .u64))], []⟩
noncomputable def mo8 : Msk := ⟨[(.res 4, .val (.st (.cons (.int .u64) (.cons (.int .i64) (.cons (.arr 64 (.st (.cons (.st (.cons (.int .u32) (.cons .str .nil))) (.cons (.int .u64) .nil)))) (.cons (.arr 64 (.st (.cons (.st (.cons (.int .u32) (.cons .str .nil))) (.cons (.int .u64) .nil)))) .nil)))))), (.tmp 5, .row false (.st (.cons (.st (.cons (.int .u32) (.cons .str .nil))) (.cons (.int .u64) .nil)))), (.tmp 6, .val (.int .i64))], []⟩
noncomputable def L8_g0 (k : Nat) : LOrc := fun _ _ _ _ => none
noncomputable def b8_g0 : Code := (findScope 0 c8).getD .skip
noncomputable def l8_g0 : List (X × Msk) := [(.goto 0, ⟨[(.tmp 2, .ptr 2 0), (.tmp 4, .ptr 4 0), (.tmp 7, .row false (.st (.cons (.st (.cons (.int .u32) (.cons .str .nil))) (.cons (.int .u64) .nil)))), (.tmp 8, .val (.int .u64)), (.tmp 9, .val (.int .i64)), (.cell 2 0, .val (.int .u64)), (.cell 2 1, .val (.int .i64)), (.seg 2 2 64, .val (.arr 64 (.st (.cons (.st (.cons (.int .u32) (.cons .str .nil))) (.cons (.int .u64) .nil))))), (.seg 2 66 64, .val (.arr 64 (.st (.cons (.st (.cons (.int .u32) (.cons .str .nil))) (.cons (.int .u64) .nil))))), (.cell 4 0, .val (.int .u64)), (.cell 4 1, .val (.int .i64)), (.seg 4 2 64, .val (.arr 64 (.st (.cons (.st (.cons (.int .u32) (.cons .str .nil))) (.cons (.int .u64) .nil))))), (.seg 4 66 64, .val (.arr 64 (.st (.cons (.st (.cons (.int .u32) (.cons .str .nil))) (.cons (.int .u64) .nil)))))], [(2, 130), (4, 130)]⟩)]
noncomputable def x8_g0 : List (X × Msk) := [(.ret, ⟨[(.tmp 4, .ptr 4 0), (.tmp 5, .row false (.st (.cons (.st (.cons (.int .u32) (.cons .str .nil))) (.cons (.int .u64) .nil)))), (.tmp 6, .val (.int .i64)), (.cell 4 0, .val (.int .u64)), (.cell 4 1, .val (.int .i64)), (.seg 4 2 64, .val (.arr 64 (.st (.cons (.st (.cons (.int .u32) (.cons .str .nil))) (.cons (.int .u64) .nil))))), (.seg 4 66 64, .val (.arr 64 (.st (.cons (.st (.cons (.int .u32) (.cons .str .nil))) (.cons (.int .u64) .nil)))))], [(4, 130)]⟩)]
noncomputable def F8_g0 (k : Nat) : Nat → denE l8_g0 → Option (denE x8_g0)
  | 0, _ => none
  | j + 1, v => pass TI (O25 k) (L8_g0 k) b8_g0 l8_g0 x8_g0 (F8_g0 k j) v
theorem lk8_g0_ (k : Nat) : LinksOK false Try.prog 50 (L8_g0 k) b8_g0 := (And.intro (And.intro True.intro (And.intro (And.intro True.intro True.intro) (And.intro True.intro (And.intro (And.intro True.intro True.intro) True.intro)))) (And.intro True.intro (And.intro True.intro (And.intro True.intro (And.intro (And.intro True.intro (And.intro (And.intro True.intro (And.intro True.intro (And.intro True.intro True.intro))) True.intro)) (And.intro True.intro (And.intro True.intro True.intro)))))))
noncomputable def L8 (k : Nat) : LOrc := fun R lk s K => match lk with
  | .loop r => none
  | .label l => (match findLabel b8_g0 l with | some _ => linkJ l8_g0 x8_g0 (F8_g0 k k) l s K | none => none)
theorem lk_L8_g0 (k : Nat) : JumpsOK false Try.prog 50 (L8 k) b8_g0 := jumpsOK_of hm hT (ok_O25 k) (fun _ _ _ h => h) rfl (lk8_g0_ k) rfl rfl (F := F8_g0 k) (fun _ => rfl) (fun _ _ => rfl) (n := k) fun R l s K rest hf => by
  show (match findLabel b8_g0 l with | some _ => linkJ l8_g0 x8_g0 (F8_g0 k k) l s K | none => none) = _
  rw [hf]
noncomputable def F8 (k : Nat) (v : mi8.den) : Option mo8.den := runF TI (O25 k) (L8 k) c8 mi8 mo8 v
theorem lk8 (k : Nat) : LinksOK false Try.prog 50 (L8 k) c8 := (And.intro True.intro (And.intro (lk_L8_g0 k) (And.intro (And.intro True.intro (And.intro (And.intro True.intro True.intro) (And.intro True.intro (And.intro (And.intro True.intro True.intro) True.intro)))) (And.intro True.intro (And.intro True.intro (And.intro True.intro (And.intro (And.intro True.intro (And.intro (And.intro True.intro (And.intro True.intro (And.intro True.intro True.intro))) True.intro)) (And.intro True.intro (And.intro True.intro True.intro)))))))))
theorem fn8 (k : Nat) (args : List AV) (x : mi8.den) (r : mo8.den) (h1 : args.length = mi8.items.length) (h2 : mi8.dec (Th.start args) = some x) (h3 : F8 k x = some r) : CallOK false Try.prog 8 args (ansOf (outL mo8.items r)) :=
  call_of hm hT (ok_O25 k) (fn := Try.f8) (c := c8) Try.func8 rfl rfl rfl (lk8 k) rfl (by decide) rfl h1 h2 h3
noncomputable def O8 (k : Nat) : Orc := fun R f args K => bif Nat.beq f 8 then callF mi8 mo8 (F8 k) args K else O25 k R f args K
theorem ok_O8 (k : Nat) : OrcOK (O8 k) (CallOK false Try.prog) := orc_add (fn8 k) (ok_O25 k)
noncomputable def c6 : Code := Try.f6.body.getD .skip
noncomputable def mi6 : Msk := ⟨[], []⟩
noncomputable def mo6 : Msk := ⟨[(.tmp 0, .val .bool)], []⟩
noncomputable def L6 (k : Nat) : LOrc := fun _ _ _ _ => none
noncomputable def F6 (k : Nat) (v : mi6.den) : Option mo6.den := runF TI (O8 k) (L6 k) c6 mi6 mo6 v
theorem lk6 (k : Nat) : LinksOK false Try.prog 125 (L6 k) c6 := (And.intro True.intro (And.intro True.intro (And.intro True.intro (And.intro True.intro (And.intro True.intro (And.intro True.intro (And.intro True.intro (And.intro True.intro (And.intro True.intro True.intro)))))))))
theorem fn6 (k : Nat) (args : List AV) (x : mi6.den) (r : mo6.den) (h1 : args.length = mi6.items.length) (h2 : mi6.dec (Th.start args) = some x) (h3 : F6 k x = some r) : CallOK false Try.prog 6 args (ansOf (outL mo6.items r)) :=
  call_of hm hT (ok_O8 k) (fn := Try.f6) (c := c6) Try.func6 rfl rfl rfl (lk6 k) rfl (by decide) rfl h1 h2 h3
noncomputable def O6 (k : Nat) : Orc := fun R f args K => bif Nat.beq f 6 then callF mi6 mo6 (F6 k) args K else O8 k R f args K
theorem ok_O6 (k : Nat) : OrcOK (O6 k) (CallOK false Try.prog) := orc_add (fn6 k) (ok_O8 k)
noncomputable def c13 : Code := Try.f13.body.getD .skip
noncomputable def mi13 : Msk := ⟨[(.tmp 0, .val (.st (.cons (.int .u32) (.cons .str .nil))))], []⟩
noncomputable def mo13 : Msk := ⟨[(.tmp 2, .val .bool)], []⟩
noncomputable def L13 (k : Nat) : LOrc := fun _ _ _ _ => none
noncomputable def F13 (k : Nat) (v : mi13.den) : Option mo13.den := runF TI (O6 k) (L13 k) c13 mi13 mo13 v
theorem lk13 (k : Nat) : LinksOK false Try.prog 7 (L13 k) c13 := (And.intro True.intro (And.intro True.intro True.intro))
theorem fn13 (k : Nat) (args : List AV) (x : mi13.den) (r : mo13.den) (h1 : args.length = mi13.items.length) (h2 : mi13.dec (Th.start args) = some x) (h3 : F13 k x = some r) : CallOK false Try.prog 13 args (ansOf (outL mo13.items r)) :=
  call_of hm hT (ok_O6 k) (fn := Try.f13) (c := c13) Try.func13 rfl rfl rfl (lk13 k) rfl (by decide) rfl h1 h2 h3
noncomputable def O13 (k : Nat) : Orc := fun R f args K => bif Nat.beq f 13 then callF mi13 mo13 (F13 k) args K else O6 k R f args K
theorem ok_O13 (k : Nat) : OrcOK (O13 k) (CallOK false Try.prog) := orc_add (fn13 k) (ok_O6 k)
noncomputable def c7 : Code := Try.f7.body.getD .skip
noncomputable def mi7 : Msk := ⟨[(.tmp 0, .val (.st (.cons (.int .u64) (.cons (.int .i64) (.cons (.arr 64 (.st (.cons (.st (.cons (.int .u32) (.cons .str .nil))) (.cons (.int .u64) .nil)))) (.cons (.arr 64 (.st (.cons (.st (.cons (.int .u32) (.cons .str .nil))) (.cons (.int .u64) .nil)))) .nil))))))], []⟩
noncomputable def mo7 : Msk := ⟨[(.tmp 2, .val .bool)], []⟩
noncomputable def L7_9 (k : Nat) : LOrc := fun _ _ _ _ => none
noncomputable def b7_9 : Code := (findLoop 9 c7).getD .skip
noncomputable def m7_9 : Msk := ⟨[(.tmp 1, .val (.ref (.st (.cons (.int .u64) (.cons (.int .i64) (.cons (.arr 64 (.st (.cons (.st (.cons (.int .u32) (.cons .str .nil))) (.cons (.int .u64) .nil)))) (.cons (.arr 64 (.st (.cons (.st (.cons (.int .u32) (.cons .str .nil))) (.cons (.int .u64) .nil)))) .nil))))))), (.tmp 3, .val (.int .i64)), (.tmp 4, .val (.int .i64)), (.tmp 5, .val (.int .i64))], []⟩
noncomputable def x7_9 : List (X × Msk) := [(.exit 2, ⟨[(.tmp 1, .val (.ref (.st (.cons (.int .u64) (.cons (.int .i64) (.cons (.arr 64 (.st (.cons (.st (.cons (.int .u32) (.cons .str .nil))) (.cons (.int .u64) .nil)))) (.cons (.arr 64 (.st (.cons (.st (.cons (.int .u32) (.cons .str .nil))) (.cons (.int .u64) .nil)))) .nil))))))), (.tmp 3, .val (.int .i64)), (.tmp 4, .val (.int .i64))], []⟩), (.ret, ⟨[(.tmp 2, .val .bool)], []⟩)]
noncomputable def F7_9 (k : Nat) : Nat → m7_9.den → Option (denE x7_9)
  | 0, _ => none
  | j + 1, v => round TI (O13 k) (L7_9 k) b7_9 m7_9 x7_9 (F7_9 k j) v
theorem lk7_9_ (k : Nat) : LinksOK false Try.prog 78 (L7_9 k) b7_9 := (And.intro (And.intro True.intro (And.intro True.intro True.intro)) (And.intro (And.intro True.intro (And.intro (And.intro True.intro True.intro) True.intro)) True.intro))
noncomputable def L7_14 (k : Nat) : LOrc := fun _ _ _ _ => none
noncomputable def b7_14 : Code := (findLoop 14 c7).getD .skip
noncomputable def m7_14 : Msk := ⟨[(.tmp 1, .val (.ref (.st (.cons (.int .u64) (.cons (.int .i64) (.cons (.arr 64 (.st (.cons (.st (.cons (.int .u32) (.cons .str .nil))) (.cons (.int .u64) .nil)))) (.cons (.arr 64 (.st (.cons (.st (.cons (.int .u32) (.cons .str .nil))) (.cons (.int .u64) .nil)))) .nil))))))), (.tmp 3, .val (.int .i64)), (.tmp 4, .val (.int .i64)), (.tmp 6, .val (.int .i64))], []⟩
noncomputable def x7_14 : List (X × Msk) := [(.exit 4, ⟨[(.tmp 1, .val (.ref (.st (.cons (.int .u64) (.cons (.int .i64) (.cons (.arr 64 (.st (.cons (.st (.cons (.int .u32) (.cons .str .nil))) (.cons (.int .u64) .nil)))) (.cons (.arr 64 (.st (.cons (.st (.cons (.int .u32) (.cons .str .nil))) (.cons (.int .u64) .nil)))) .nil))))))), (.tmp 3, .val (.int .i64)), (.tmp 4, .val (.int .i64))], []⟩), (.ret, ⟨[(.tmp 2, .val .bool)], []⟩)]
noncomputable def F7_14 (k : Nat) : Nat → m7_14.den → Option (denE x7_14)
  | 0, _ => none
  | j + 1, v => round TI (O13 k) (L7_14 k) b7_14 m7_14 x7_14 (F7_14 k j) v
theorem lk7_14_ (k : Nat) : LinksOK false Try.prog 78 (L7_14 k) b7_14 := (And.intro (And.intro True.intro (And.intro True.intro True.intro)) (And.intro (And.intro True.intro (And.intro (And.intro True.intro True.intro) True.intro)) True.intro))
noncomputable def L7_3 (k : Nat) : LOrc := fun R lk s K => match lk with
  | .loop r => bif Nat.beq r 9 then link m7_9 x7_9 (F7_9 k k) s K else bif Nat.beq r 14 then link m7_14 x7_14 (F7_14 k k) s K else none
  | .label l => none
theorem lk_L7_3_9 (k : Nat) : LoopOK false Try.prog 78 (L7_3 k) b7_9 := loopOK_of hm hT (ok_O13 k) (fun _ _ _ h => h) rfl (lk7_9_ k) rfl rfl (F := F7_9 k) (fun _ => rfl) (fun _ _ => rfl) (n := k) fun _ _ _ => rfl
theorem lk_L7_3_14 (k : Nat) : LoopOK false Try.prog 78 (L7_3 k) b7_14 := loopOK_of hm hT (ok_O13 k) (fun _ _ _ h => h) rfl (lk7_14_ k) rfl rfl (F := F7_14 k) (fun _ => rfl) (fun _ _ => rfl) (n := k) fun _ _ _ => rfl
noncomputable def b7_3 : Code := (findLoop 3 c7).getD .skip
noncomputable def m7_3 : Msk := ⟨[(.tmp 1, .val (.ref (.st (.cons (.int .u64) (.cons (.int .i64) (.cons (.arr 64 (.st (.cons (.st (.cons (.int .u32) (.cons .str .nil))) (.cons (.int .u64) .nil)))) (.cons (.arr 64 (.st (.cons (.st (.cons (.int .u32) (.cons .str .nil))) (.cons (.int .u64) .nil)))) .nil))))))), (.tmp 3, .val (.int .i64)), (.tmp 4, .val (.int .i64))], []⟩
noncomputable def x7_3 : List (X × Msk) := [(.exit 0, ⟨[(.tmp 3, .val (.int .i64))], []⟩), (.ret, ⟨[(.tmp 2, .val .bool)], []⟩)]
noncomputable def F7_3 (k : Nat) : Nat → m7_3.den → Option (denE x7_3)
  | 0, _ => none
  | j + 1, v => round TI (O13 k) (L7_3 k) b7_3 m7_3 x7_3 (F7_3 k j) v
theorem lk7_3_ (k : Nat) : LinksOK false Try.prog 78 (L7_3 k) b7_3 := (And.intro (And.intro True.intro (And.intro True.intro True.intro)) (And.intro (And.intro (And.intro True.intro (And.intro (And.intro True.intro True.intro) True.intro)) (And.intro True.intro (And.intro (And.intro True.intro (lk_L7_3_9 k)) (And.intro True.intro (lk_L7_3_14 k))))) True.intro))
noncomputable def L7 (k : Nat) : LOrc := fun R lk s K => match lk with
  | .loop r => bif Nat.beq r 3 then link m7_3 x7_3 (F7_3 k k) s K else none
  | .label l => none
theorem lk_L7_3 (k : Nat) : LoopOK false Try.prog 78 (L7 k) b7_3 := loopOK_of hm hT (ok_O13 k) (fun _ _ _ h => h) rfl (lk7_3_ k) rfl rfl (F := F7_3 k) (fun _ => rfl) (fun _ _ => rfl) (n := k) fun _ _ _ => rfl
noncomputable def F7 (k : Nat) (v : mi7.den) : Option mo7.den := runF TI (O13 k) (L7 k) c7 mi7 mo7 v
theorem lk7 (k : Nat) : LinksOK false Try.prog 78 (L7 k) c7 := (And.intro True.intro (And.intro True.intro (And.intro (And.intro True.intro (lk_L7_3 k)) (And.intro True.intro True.intro))))
theorem fn7 (k : Nat) (args : List AV) (x : mi7.den) (r : mo7.den) (h1 : args.length = mi7.items.length) (h2 : mi7.dec (Th.start args) = some x) (h3 : F7 k x = some r) : CallOK false Try.prog 7 args (ansOf (outL mo7.items r)) :=
  call_of hm hT (ok_O13 k) (fn := Try.f7) (c := c7) Try.func7 rfl rfl rfl (lk7 k) rfl (by decide) rfl h1 h2 h3
noncomputable def O7 (k : Nat) : Orc := fun R f args K => bif Nat.beq f 7 then callF mi7 mo7 (F7 k) args K else O13 k R f args K
theorem ok_O7 (k : Nat) : OrcOK (O7 k) (CallOK false Try.prog) := orc_add (fn7 k) (ok_O13 k)
noncomputable def c70 : Code := Try.f70.body.getD .skip
noncomputable def mi70 : Msk := ⟨[(.tmp 0, .val (.st (.cons (.int .u32) (.cons .str .nil)))), (.tmp 1, .val (.st (.cons (.int .u32) (.cons .str .nil))))], []⟩
noncomputable def mo70 : Msk := ⟨[(.tmp 4, .val (.int .i64))], []⟩
noncomputable def L70 (k : Nat) : LOrc := fun _ _ _ _ => none
noncomputable def F70 (k : Nat) (v : mi70.den) : Option mo70.den := runF TI (O7 k) (L70 k) c70 mi70 mo70 v
theorem lk70 (k : Nat) : LinksOK false Try.prog 27 (L70 k) c70 := (And.intro True.intro (And.intro (And.intro True.intro (And.intro (And.intro True.intro True.intro) True.intro)) (And.intro (And.intro True.intro (And.intro (And.intro True.intro True.intro) True.intro)) (And.intro True.intro True.intro))))
theorem fn70 (k : Nat) (args : List AV) (x : mi70.den) (r : mo70.den) (h1 : args.length = mi70.items.length) (h2 : mi70.dec (Th.start args) = some x) (h3 : F70 k x = some r) : CallOK false Try.prog 70 args (ansOf (outL mo70.items r)) :=
  call_of hm hT (ok_O7 k) (fn := Try.f70) (c := c70) Try.func70 rfl rfl rfl (lk70 k) rfl (by decide) rfl h1 h2 h3
noncomputable def O70 (k : Nat) : Orc := fun R f args K => bif Nat.beq f 70 then callF mi70 mo70 (F70 k) args K else O7 k R f args K
theorem ok_O70 (k : Nat) : OrcOK (O70 k) (CallOK false Try.prog) := orc_add (fn70 k) (ok_O7 k)
noncomputable def c50 : Code := Try.f50.body.getD .skip
noncomputable def mi50 : Msk := ⟨[(.tmp 0, .val (.st (.cons (.st (.cons (.int .u32) (.cons .str .nil))) (.cons (.int .u64) .nil)))), (.tmp 1, .val (.st (.cons (.st (.cons (.int .u32) (.cons .str .nil))) (.cons (.int .u64) .nil))))], []⟩
noncomputable def mo50 : Msk := ⟨[(.tmp 4, .val .bool)], []⟩
noncomputable def L50 (k : Nat) : LOrc := fun _ _ _ _ => none
noncomputable def F50 (k : Nat) (v : mi50.den) : Option mo50.den := runF TI (O70 k) (L50 k) c50 mi50 mo50 v
theorem lk50 (k : Nat) : LinksOK false Try.prog 25 (L50 k) c50 := (And.intro True.intro (And.intro True.intro True.intro))
theorem fn50 (k : Nat) (args : List AV) (x : mi50.den) (r : mo50.den) (h1 : args.length = mi50.items.length) (h2 : mi50.dec (Th.start args) = some x) (h3 : F50 k x = some r) : CallOK false Try.prog 50 args (ansOf (outL mo50.items r)) :=
  call_of hm hT (ok_O70 k) (fn := Try.f50) (c := c50) Try.func50 rfl rfl rfl (lk50 k) rfl (by decide) rfl h1 h2 h3
noncomputable def O50 (k : Nat) : Orc := fun R f args K => bif Nat.beq f 50 then callF mi50 mo50 (F50 k) args K else O70 k R f args K
theorem ok_O50 (k : Nat) : OrcOK (O50 k) (CallOK false Try.prog) := orc_add (fn50 k) (ok_O70 k)
noncomputable def c33 : Code := Try.f33.body.getD .skip
noncomputable def mi33 : Msk := ⟨[(.tmp 0, .val (.slice (.st (.cons (.st (.cons (.int .u32) (.cons .str .nil))) (.cons (.int .u64) .nil))))), (.tmp 1, .val (.st (.cons (.st (.cons (.int .u32) (.cons .str .nil))) (.cons (.int .u64) .nil))))], []⟩
noncomputable def mo33 : Msk := ⟨[(.tmp 4, .row false (.st (.cons (.st (.cons (.int .u32) (.cons .str .nil))) (.cons (.int .u64) .nil))))], []⟩
noncomputable def L33_3 (k : Nat) : LOrc := fun _ _ _ _ => none
noncomputable def b33_3 : Code := (findLoop 3 c33).getD .skip
noncomputable def m33_3 : Msk := ⟨[(.tmp 0, .val (.slice (.st (.cons (.st (.cons (.int .u32) (.cons .str .nil))) (.cons (.int .u64) .nil))))), (.tmp 3, .ptr 3 0), (.tmp 5, .row false (.st (.cons (.st (.cons (.int .u32) (.cons .str .nil))) (.cons (.int .u64) .nil)))), (.tmp 6, .val (.int .i64)), (.cell 3 0, .val (.int .u32)), (.cell 3 1, .val .str), (.cell 3 2, .val (.int .u64))], [(3, 3)]⟩
noncomputable def x33_3 : List (X × Msk) := [(.exit 0, ⟨[(.tmp 0, .val (.slice (.st (.cons (.st (.cons (.int .u32) (.cons .str .nil))) (.cons (.int .u64) .nil))))), (.tmp 3, .ptr 3 0), (.tmp 5, .row false (.st (.cons (.st (.cons (.int .u32) (.cons .str .nil))) (.cons (.int .u64) .nil)))), (.tmp 6, .val (.int .i64)), (.cell 3 0, .val (.int .u32)), (.cell 3 1, .val .str), (.cell 3 2, .val (.int .u64))], [(3, 3)]⟩)]
noncomputable def F33_3 (k : Nat) : Nat → m33_3.den → Option (denE x33_3)
  | 0, _ => none
  | j + 1, v => round TI (O50 k) (L33_3 k) b33_3 m33_3 x33_3 (F33_3 k j) v
theorem lk33_3_ (k : Nat) : LinksOK false Try.prog 38 (L33_3 k) b33_3 := (And.intro (And.intro True.intro (And.intro True.intro True.intro)) (And.intro True.intro True.intro))
noncomputable def L33 (k : Nat) : LOrc := fun R lk s K => match lk with
  | .loop r => bif Nat.beq r 3 then link m33_3 x33_3 (F33_3 k k) s K else none
  | .label l => none
theorem lk_L33_3 (k : Nat) : LoopOK false Try.prog 38 (L33 k) b33_3 := loopOK_of hm hT (ok_O50 k) (fun _ _ _ h => h) rfl (lk33_3_ k) rfl rfl (F := F33_3 k) (fun _ => rfl) (fun _ _ => rfl) (n := k) fun _ _ _ => rfl
noncomputable def F33 (k : Nat) (v : mi33.den) : Option mo33.den := runF TI (O50 k) (L33 k) c33 mi33 mo33 v
theorem lk33 (k : Nat) : LinksOK false Try.prog 38 (L33 k) c33 := (And.intro True.intro (And.intro True.intro (And.intro True.intro (And.intro (lk_L33_3 k) (And.intro True.intro (And.intro True.intro True.intro))))))
theorem fn33 (k : Nat) (args : List AV) (x : mi33.den) (r : mo33.den) (h1 : args.length = mi33.items.length) (h2 : mi33.dec (Th.start args) = some x) (h3 : F33 k x = some r) : CallOK false Try.prog 33 args (ansOf (outL mo33.items r)) :=
  call_of hm hT (ok_O50 k) (fn := Try.f33) (c := c33) Try.func33 rfl rfl rfl (lk33 k) rfl (by decide) rfl h1 h2 h3
noncomputable def O33 (k : Nat) : Orc := fun R f args K => bif Nat.beq f 33 then callF mi33 mo33 (F33 k) args K else O50 k R f args K
theorem ok_O33 (k : Nat) : OrcOK (O33 k) (CallOK false Try.prog) := orc_add (fn33 k) (ok_O50 k)
noncomputable def c19 : Code := Try.f19.body.getD .skip
noncomputable def mi19 : Msk := ⟨[(.tmp 0, .val (.st (.cons (.int .u64) (.cons (.int .i64) (.cons (.arr 64 (.st (.cons (.st (.cons (.int .u32) (.cons .str .nil))) (.cons (.int .u64) .nil)))) (.cons (.arr 64 (.st (.cons (.st (.cons (.int .u32) (.cons .str .nil))) (.cons (.int .u64) .nil)))) .nil))))))], []⟩
noncomputable def mo19 : Msk := ⟨[(.tmp 2, .val (.slice (.st (.cons (.st (.cons (.int .u32) (.cons .str .nil))) (.cons (.int .u64) .nil)))))], []⟩
noncomputable def L19_6 (k : Nat) : LOrc := fun _ _ _ _ => none
noncomputable def b19_6 : Code := (findLoop 6 c19).getD .skip
noncomputable def m19_6 : Msk := ⟨[(.tmp 1, .val (.ref (.st (.cons (.int .u64) (.cons (.int .i64) (.cons (.arr 64 (.st (.cons (.st (.cons (.int .u32) (.cons .str .nil))) (.cons (.int .u64) .nil)))) (.cons (.arr 64 (.st (.cons (.st (.cons (.int .u32) (.cons .str .nil))) (.cons (.int .u64) .nil)))) .nil))))))), (.tmp 3, .row false (.st (.cons (.st (.cons (.int .u32) (.cons .str .nil))) (.cons (.int .u64) .nil)))), (.tmp 4, .val (.int .i64)), (.tmp 5, .val (.int .i64))], []⟩
noncomputable def x19_6 : List (X × Msk) := [(.exit 2, ⟨[(.tmp 1, .val (.ref (.st (.cons (.int .u64) (.cons (.int .i64) (.cons (.arr 64 (.st (.cons (.st (.cons (.int .u32) (.cons .str .nil))) (.cons (.int .u64) .nil)))) (.cons (.arr 64 (.st (.cons (.st (.cons (.int .u32) (.cons .str .nil))) (.cons (.int .u64) .nil)))) .nil))))))), (.tmp 3, .row false (.st (.cons (.st (.cons (.int .u32) (.cons .str .nil))) (.cons (.int .u64) .nil)))), (.tmp 4, .val (.int .i64))], []⟩)]
noncomputable def F19_6 (k : Nat) : Nat → m19_6.den → Option (denE x19_6)
  | 0, _ => none
  | j + 1, v => round TI (O33 k) (L19_6 k) b19_6 m19_6 x19_6 (F19_6 k j) v
theorem lk19_6_ (k : Nat) : LinksOK false Try.prog 48 (L19_6 k) b19_6 := (And.intro (And.intro True.intro (And.intro True.intro True.intro)) (And.intro True.intro True.intro))
noncomputable def L19_10 (k : Nat) : LOrc := fun _ _ _ _ => none
noncomputable def b19_10 : Code := (findLoop 10 c19).getD .skip
noncomputable def m19_10 : Msk := ⟨[(.tmp 1, .val (.ref (.st (.cons (.int .u64) (.cons (.int .i64) (.cons (.arr 64 (.st (.cons (.st (.cons (.int .u32) (.cons .str .nil))) (.cons (.int .u64) .nil)))) (.cons (.arr 64 (.st (.cons (.st (.cons (.int .u32) (.cons .str .nil))) (.cons (.int .u64) .nil)))) .nil))))))), (.tmp 3, .row false (.st (.cons (.st (.cons (.int .u32) (.cons .str .nil))) (.cons (.int .u64) .nil)))), (.tmp 4, .val (.int .i64)), (.tmp 6, .val (.int .i64))], []⟩
noncomputable def x19_10 : List (X × Msk) := [(.exit 4, ⟨[(.tmp 1, .val (.ref (.st (.cons (.int .u64) (.cons (.int .i64) (.cons (.arr 64 (.st (.cons (.st (.cons (.int .u32) (.cons .str .nil))) (.cons (.int .u64) .nil)))) (.cons (.arr 64 (.st (.cons (.st (.cons (.int .u32) (.cons .str .nil))) (.cons (.int .u64) .nil)))) .nil))))))), (.tmp 3, .row false (.st (.cons (.st (.cons (.int .u32) (.cons .str .nil))) (.cons (.int .u64) .nil)))), (.tmp 4, .val (.int .i64))], []⟩)]
noncomputable def F19_10 (k : Nat) : Nat → m19_10.den → Option (denE x19_10)
  | 0, _ => none
  | j + 1, v => round TI (O33 k) (L19_10 k) b19_10 m19_10 x19_10 (F19_10 k j) v
theorem lk19_10_ (k : Nat) : LinksOK false Try.prog 48 (L19_10 k) b19_10 := (And.intro (And.intro True.intro (And.intro True.intro True.intro)) (And.intro True.intro True.intro))
noncomputable def L19_3 (k : Nat) : LOrc := fun R lk s K => match lk with
  | .loop r => bif Nat.beq r 6 then link m19_6 x19_6 (F19_6 k k) s K else bif Nat.beq r 10 then link m19_10 x19_10 (F19_10 k k) s K else none
  | .label l => none
theorem lk_L19_3_6 (k : Nat) : LoopOK false Try.prog 48 (L19_3 k) b19_6 := loopOK_of hm hT (ok_O33 k) (fun _ _ _ h => h) rfl (lk19_6_ k) rfl rfl (F := F19_6 k) (fun _ => rfl) (fun _ _ => rfl) (n := k) fun _ _ _ => rfl
theorem lk_L19_3_10 (k : Nat) : LoopOK false Try.prog 48 (L19_3 k) b19_10 := loopOK_of hm hT (ok_O33 k) (fun _ _ _ h => h) rfl (lk19_10_ k) rfl rfl (F := F19_10 k) (fun _ => rfl) (fun _ _ => rfl) (n := k) fun _ _ _ => rfl
noncomputable def b19_3 : Code := (findLoop 3 c19).getD .skip
noncomputable def m19_3 : Msk := ⟨[(.tmp 1, .val (.ref (.st (.cons (.int .u64) (.cons (.int .i64) (.cons (.arr 64 (.st (.cons (.st (.cons (.int .u32) (.cons .str .nil))) (.cons (.int .u64) .nil)))) (.cons (.arr 64 (.st (.cons (.st (.cons (.int .u32) (.cons .str .nil))) (.cons (.int .u64) .nil)))) .nil))))))), (.tmp 3, .row false (.st (.cons (.st (.cons (.int .u32) (.cons .str .nil))) (.cons (.int .u64) .nil)))), (.tmp 4, .val (.int .i64))], []⟩
noncomputable def x19_3 : List (X × Msk) := [(.exit 0, ⟨[(.tmp 3, .row false (.st (.cons (.st (.cons (.int .u32) (.cons .str .nil))) (.cons (.int .u64) .nil))))], []⟩)]
noncomputable def F19_3 (k : Nat) : Nat → m19_3.den → Option (denE x19_3)
  | 0, _ => none
  | j + 1, v => round TI (O33 k) (L19_3 k) b19_3 m19_3 x19_3 (F19_3 k j) v
theorem lk19_3_ (k : Nat) : LinksOK false Try.prog 48 (L19_3 k) b19_3 := (And.intro (And.intro True.intro (And.intro True.intro True.intro)) (And.intro (And.intro (And.intro True.intro (lk_L19_3_6 k)) (And.intro True.intro (lk_L19_3_10 k))) True.intro))
noncomputable def L19 (k : Nat) : LOrc := fun R lk s K => match lk with
  | .loop r => bif Nat.beq r 3 then link m19_3 x19_3 (F19_3 k k) s K else none
  | .label l => none
theorem lk_L19_3 (k : Nat) : LoopOK false Try.prog 48 (L19 k) b19_3 := loopOK_of hm hT (ok_O33 k) (fun _ _ _ h => h) rfl (lk19_3_ k) rfl rfl (F := F19_3 k) (fun _ => rfl) (fun _ _ => rfl) (n := k) fun _ _ _ => rfl
noncomputable def F19 (k : Nat) (v : mi19.den) : Option mo19.den := runF TI (O33 k) (L19 k) c19 mi19 mo19 v
theorem lk19 (k : Nat) : LinksOK false Try.prog 48 (L19 k) c19 := (And.intro True.intro (And.intro True.intro (And.intro (And.intro True.intro (lk_L19_3 k)) (And.intro True.intro True.intro))))
theorem fn19 (k : Nat) (args : List AV) (x : mi19.den) (r : mo19.den) (h1 : args.length = mi19.items.length) (h2 : mi19.dec (Th.start args) = some x) (h3 : F19 k x = some r) : CallOK false Try.prog 19 args (ansOf (outL mo19.items r)) :=
  call_of hm hT (ok_O33 k) (fn := Try.f19) (c := c19) Try.func19 rfl rfl rfl (lk19 k) rfl (by decide) rfl h1 h2 h3
noncomputable def O19 (k : Nat) : Orc := fun R f args K => bif Nat.beq f 19 then callF mi19 mo19 (F19 k) args K else O33 k R f args K
theorem ok_O19 (k : Nat) : OrcOK (O19 k) (CallOK false Try.prog) := orc_add (fn19 k) (ok_O33 k)
noncomputable def c26 : Code := Try.f26.body.getD .skip
noncomputable def mi26 : Msk := ⟨[(.tmp 0, .val (.int .u64)), (.tmp 1, .val (.int .i64)), (.tmp 2, .val (.slice (.st (.cons (.st (.cons (.int .u32) (.cons .str .nil))) (.cons (.int .u64) .nil)))))], []⟩
noncomputable def mo26 : Msk := ⟨[(.res 6, .val (.st (.cons (.int .u64) (.cons (.int .i64) (.cons (.arr 64 (.st (.cons (.st (.cons (.int .u32) (.cons .str .nil))) (.cons (.int .u64) .nil)))) (.cons (.arr 64 (.st (.cons (.st (.cons (.int .u32) (.cons .str .nil))) (.cons (.int .u64) .nil)))) .nil))))))], []⟩
noncomputable def b26_3 : Code := (findLoop 3 c26).getD .skip
noncomputable def L26 (k : Nat) : LOrc := fun R lk s K => match lk with
  | .loop r => bif Nat.beq r 3 then Bld26.loopO s K else none
  | .label l => none
theorem lk_L26_3 (k : Nat) : LoopOK false Try.prog 62 (L26 k) b26_3 := Bld26.loopOK (L26 k) fun _ _ _ => rfl
noncomputable def F26 (k : Nat) (v : mi26.den) : Option mo26.den := runF TI (O19 k) (L26 k) c26 mi26 mo26 v
theorem lk26 (k : Nat) : LinksOK false Try.prog 62 (L26 k) c26 := (And.intro True.intro (And.intro True.intro (And.intro (And.intro True.intro (lk_L26_3 k)) (And.intro True.intro True.intro))))
theorem fn26 (k : Nat) (args : List AV) (x : mi26.den) (r : mo26.den) (h1 : args.length = mi26.items.length) (h2 : mi26.dec (Th.start args) = some x) (h3 : F26 k x = some r) : CallOK false Try.prog 26 args (ansOf (outL mo26.items r)) :=
  call_of hm hT (ok_O19 k) (fn := Try.f26) (c := c26) Try.func26 rfl rfl rfl (lk26 k) rfl (by decide) rfl h1 h2 h3
noncomputable def O26 (k : Nat) : Orc := fun R f args K => bif Nat.beq f 26 then callF mi26 mo26 (F26 k) args K else O19 k R f args K
theorem ok_O26 (k : Nat) : OrcOK (O26 k) (CallOK false Try.prog) := orc_add (fn26 k) (ok_O19 k)
noncomputable def c27 : Code := Try.f27.body.getD .skip
noncomputable def mi27 : Msk := ⟨[(.tmp 0, .val (.slice (.st (.cons (.st (.cons (.int .u32) (.cons .str .nil))) (.cons (.int .u64) .nil))))), (.tmp 1, .val (.slice (.st (.cons (.st (.cons (.int .u32) (.cons .str .nil))) (.cons (.int .u64) .nil)))))], []⟩
noncomputable def mo27 : Msk := ⟨[(.tmp 4, .val .bool)], []⟩
noncomputable def L27_4 (k : Nat) : LOrc := fun _ _ _ _ => none
noncomputable def b27_4 : Code := (findLoop 4 c27).getD .skip
noncomputable def m27_4 : Msk := ⟨[(.tmp 0, .val (.slice (.st (.cons (.st (.cons (.int .u32) (.cons .str .nil))) (.cons (.int .u64) .nil))))), (.tmp 1, .val (.slice (.st (.cons (.st (.cons (.int .u32) (.cons .str .nil))) (.cons (.int .u64) .nil))))), (.tmp 5, .val (.int .i64))], []⟩
noncomputable def x27_4 : List (X × Msk) := [(.exit 0, ⟨[], []⟩), (.ret, ⟨[(.tmp 4, .val .bool)], []⟩)]
noncomputable def F27_4 (k : Nat) : Nat → m27_4.den → Option (denE x27_4)
  | 0, _ => none
  | j + 1, v => round TI (O26 k) (L27_4 k) b27_4 m27_4 x27_4 (F27_4 k j) v
theorem lk27_4_ (k : Nat) : LinksOK false Try.prog 26 (L27_4 k) b27_4 := (And.intro (And.intro True.intro (And.intro True.intro True.intro)) (And.intro (And.intro True.intro (And.intro (And.intro True.intro True.intro) True.intro)) True.intro))
noncomputable def L27 (k : Nat) : LOrc := fun R lk s K => match lk with
  | .loop r => bif Nat.beq r 4 then link m27_4 x27_4 (F27_4 k k) s K else none
  | .label l => none
theorem lk_L27_4 (k : Nat) : LoopOK false Try.prog 26 (L27 k) b27_4 := loopOK_of hm hT (ok_O26 k) (fun _ _ _ h => h) rfl (lk27_4_ k) rfl rfl (F := F27_4 k) (fun _ => rfl) (fun _ _ => rfl) (n := k) fun _ _ _ => rfl
noncomputable def F27 (k : Nat) (v : mi27.den) : Option mo27.den := runF TI (O26 k) (L27 k) c27 mi27 mo27 v
theorem lk27 (k : Nat) : LinksOK false Try.prog 26 (L27 k) c27 := (And.intro True.intro (And.intro (And.intro True.intro (And.intro (And.intro True.intro True.intro) True.intro)) (And.intro (And.intro True.intro (lk_L27_4 k)) (And.intro True.intro True.intro))))
theorem fn27 (k : Nat) (args : List AV) (x : mi27.den) (r : mo27.den) (h1 : args.length = mi27.items.length) (h2 : mi27.dec (Th.start args) = some x) (h3 : F27 k x = some r) : CallOK false Try.prog 27 args (ansOf (outL mo27.items r)) :=
  call_of hm hT (ok_O26 k) (fn := Try.f27) (c := c27) Try.func27 rfl rfl rfl (lk27 k) rfl (by decide) rfl h1 h2 h3
noncomputable def O27 (k : Nat) : Orc := fun R f args K => bif Nat.beq f 27 then callF mi27 mo27 (F27 k) args K else O26 k R f args K
theorem ok_O27 (k : Nat) : OrcOK (O27 k) (CallOK false Try.prog) := orc_add (fn27 k) (ok_O26 k)
noncomputable def c10 : Code := Try.f10.body.getD .skip
noncomputable def mi10 : Msk := ⟨[(.tmp 0, .val (.st (.cons (.int .u64) (.cons (.int .i64) (.cons (.arr 64 (.st (.cons (.st (.cons (.int .u32) (.cons .str .nil))) (.cons (.int .u64) .nil)))) (.cons (.arr 64 (.st (.cons (.st (.cons (.int .u32) (.cons .str .nil))) (.cons (.int .u64) .nil)))) .nil)))))), (.tmp 1, .val (.st (.cons (.int .u64) (.cons (.int .i64) (.cons (.arr 64 (.st (.cons (.st (.cons (.int .u32) (.cons .str .nil))) (.cons (.int .u64) .nil)))) (.cons (.arr 64 (.st (.cons (.st (.cons (.int .u32) (.cons .str .nil))) (.cons (.int .u64) .nil)))) .nil))))))], []⟩
noncomputable def mo10 : Msk := ⟨[(.tmp 4, .val .bool)], []⟩
noncomputable def L10_2 (k : Nat) : LOrc := fun _ _ _ _ => none
noncomputable def b10_2 : Code := (findLoop 2 c10).getD .skip
noncomputable def m10_2 : Msk := ⟨[(.tmp 2, .val (.ref (.st (.cons (.int .u64) (.cons (.int .i64) (.cons (.arr 64 (.st (.cons (.st (.cons (.int .u32) (.cons .str .nil))) (.cons (.int .u64) .nil)))) (.cons (.arr 64 (.st (.cons (.st (.cons (.int .u32) (.cons .str .nil))) (.cons (.int .u64) .nil)))) .nil))))))), (.tmp 3, .val (.ref (.st (.cons (.int .u64) (.cons (.int .i64) (.cons (.arr 64 (.st (.cons (.st (.cons (.int .u32) (.cons .str .nil))) (.cons (.int .u64) .nil)))) (.cons (.arr 64 (.st (.cons (.st (.cons (.int .u32) (.cons .str .nil))) (.cons (.int .u64) .nil)))) .nil))))))), (.tmp 5, .val (.int .i64))], []⟩
noncomputable def x10_2 : List (X × Msk) := [(.exit 0, ⟨[(.tmp 2, .val (.ref (.st (.cons (.int .u64) (.cons (.int .i64) (.cons (.arr 64 (.st (.cons (.st (.cons (.int .u32) (.cons .str .nil))) (.cons (.int .u64) .nil)))) (.cons (.arr 64 (.st (.cons (.st (.cons (.int .u32) (.cons .str .nil))) (.cons (.int .u64) .nil)))) .nil))))))), (.tmp 3, .val (.ref (.st (.cons (.int .u64) (.cons (.int .i64) (.cons (.arr 64 (.st (.cons (.st (.cons (.int .u32) (.cons .str .nil))) (.cons (.int .u64) .nil)))) (.cons (.arr 64 (.st (.cons (.st (.cons (.int .u32) (.cons .str .nil))) (.cons (.int .u64) .nil)))) .nil)))))))], []⟩), (.ret, ⟨[(.tmp 4, .val .bool)], []⟩)]
noncomputable def F10_2 (k : Nat) : Nat → m10_2.den → Option (denE x10_2)
  | 0, _ => none
  | j + 1, v => round TI (O27 k) (L10_2 k) b10_2 m10_2 x10_2 (F10_2 k j) v
theorem lk10_2_ (k : Nat) : LinksOK false Try.prog 44 (L10_2 k) b10_2 := (And.intro (And.intro True.intro (And.intro True.intro True.intro)) (And.intro (And.intro True.intro (And.intro (And.intro True.intro True.intro) True.intro)) True.intro))
noncomputable def L10 (k : Nat) : LOrc := fun R lk s K => match lk with
  | .loop r => bif Nat.beq r 2 then link m10_2 x10_2 (F10_2 k k) s K else none
  | .label l => none
theorem lk_L10_2 (k : Nat) : LoopOK false Try.prog 44 (L10 k) b10_2 := loopOK_of hm hT (ok_O27 k) (fun _ _ _ h => h) rfl (lk10_2_ k) rfl rfl (F := F10_2 k) (fun _ => rfl) (fun _ _ => rfl) (n := k) fun _ _ _ => rfl
noncomputable def F10 (k : Nat) (v : mi10.den) : Option mo10.den := runF TI (O27 k) (L10 k) c10 mi10 mo10 v
theorem lk10 (k : Nat) : LinksOK false Try.prog 44 (L10 k) c10 := (And.intro True.intro (And.intro (And.intro True.intro (lk_L10_2 k)) (And.intro True.intro True.intro)))
theorem fn10 (k : Nat) (args : List AV) (x : mi10.den) (r : mo10.den) (h1 : args.length = mi10.items.length) (h2 : mi10.dec (Th.start args) = some x) (h3 : F10 k x = some r) : CallOK false Try.prog 10 args (ansOf (outL mo10.items r)) :=
  call_of hm hT (ok_O27 k) (fn := Try.f10) (c := c10) Try.func10 rfl rfl rfl (lk10 k) rfl (by decide) rfl h1 h2 h3
noncomputable def O10 (k : Nat) : Orc := fun R f args K => bif Nat.beq f 10 then callF mi10 mo10 (F10 k) args K else O27 k R f args K
theorem ok_O10 (k : Nat) : OrcOK (O10 k) (CallOK false Try.prog) := orc_add (fn10 k) (ok_O27 k)
noncomputable def c18 : Code := Try.f18.body.getD .skip
noncomputable def mi18 : Msk := ⟨[(.tmp 0, .val (.st (.cons (.int .u64) (.cons (.int .i64) (.cons (.arr 64 (.st (.cons (.st (.cons (.int .u32) (.cons .str .nil))) (.cons (.int .u64) .nil)))) (.cons (.arr 64 (.st (.cons (.st (.cons (.int .u32) (.cons .str .nil))) (.cons (.int .u64) .nil)))) .nil))))))], []⟩
noncomputable def mo18 : Msk := ⟨[(.tmp 2, .val .bool)], []⟩
noncomputable def L18_10 (k : Nat) : LOrc := fun _ _ _ _ => none
noncomputable def b18_10 : Code := (findLoop 10 c18).getD .skip
noncomputable def m18_10 : Msk := ⟨[(.tmp 1, .val (.ref (.st (.cons (.int .u64) (.cons (.int .i64) (.cons (.arr 64 (.st (.cons (.st (.cons (.int .u32) (.cons .str .nil))) (.cons (.int .u64) .nil)))) (.cons (.arr 64 (.st (.cons (.st (.cons (.int .u32) (.cons .str .nil))) (.cons (.int .u64) .nil)))) .nil))))))), (.tmp 3, .val (.slice (.st (.cons (.st (.cons (.int .u32) (.cons .str .nil))) (.cons (.int .u64) .nil))))), (.tmp 4, .val (.int .i64)), (.tmp 5, .val (.int .i64))], []⟩
noncomputable def x18_10 : List (X × Msk) := [(.exit 2, ⟨[(.tmp 1, .val (.ref (.st (.cons (.int .u64) (.cons (.int .i64) (.cons (.arr 64 (.st (.cons (.st (.cons (.int .u32) (.cons .str .nil))) (.cons (.int .u64) .nil)))) (.cons (.arr 64 (.st (.cons (.st (.cons (.int .u32) (.cons .str .nil))) (.cons (.int .u64) .nil)))) .nil))))))), (.tmp 3, .val (.slice (.st (.cons (.st (.cons (.int .u32) (.cons .str .nil))) (.cons (.int .u64) .nil))))), (.tmp 4, .val (.int .i64))], []⟩), (.ret, ⟨[(.tmp 2, .val .bool)], []⟩)]
noncomputable def F18_10 (k : Nat) : Nat → m18_10.den → Option (denE x18_10)
  | 0, _ => none
  | j + 1, v => round TI (O10 k) (L18_10 k) b18_10 m18_10 x18_10 (F18_10 k j) v
theorem lk18_10_ (k : Nat) : LinksOK false Try.prog 74 (L18_10 k) b18_10 := (And.intro (And.intro True.intro (And.intro True.intro True.intro)) (And.intro (And.intro True.intro (And.intro (And.intro True.intro True.intro) True.intro)) True.intro))
noncomputable def L18_5 (k : Nat) : LOrc := fun R lk s K => match lk with
  | .loop r => bif Nat.beq r 10 then link m18_10 x18_10 (F18_10 k k) s K else none
  | .label l => none
theorem lk_L18_5_10 (k : Nat) : LoopOK false Try.prog 74 (L18_5 k) b18_10 := loopOK_of hm hT (ok_O10 k) (fun _ _ _ h => h) rfl (lk18_10_ k) rfl rfl (F := F18_10 k) (fun _ => rfl) (fun _ _ => rfl) (n := k) fun _ _ _ => rfl
noncomputable def b18_5 : Code := (findLoop 5 c18).getD .skip
noncomputable def m18_5 : Msk := ⟨[(.tmp 1, .val (.ref (.st (.cons (.int .u64) (.cons (.int .i64) (.cons (.arr 64 (.st (.cons (.st (.cons (.int .u32) (.cons .str .nil))) (.cons (.int .u64) .nil)))) (.cons (.arr 64 (.st (.cons (.st (.cons (.int .u32) (.cons .str .nil))) (.cons (.int .u64) .nil)))) .nil))))))), (.tmp 3, .val (.slice (.st (.cons (.st (.cons (.int .u32) (.cons .str .nil))) (.cons (.int .u64) .nil))))), (.tmp 4, .val (.int .i64))], []⟩
noncomputable def x18_5 : List (X × Msk) := [(.exit 0, ⟨[(.tmp 1, .val (.ref (.st (.cons (.int .u64) (.cons (.int .i64) (.cons (.arr 64 (.st (.cons (.st (.cons (.int .u32) (.cons .str .nil))) (.cons (.int .u64) .nil)))) (.cons (.arr 64 (.st (.cons (.st (.cons (.int .u32) (.cons .str .nil))) (.cons (.int .u64) .nil)))) .nil))))))), (.tmp 3, .val (.slice (.st (.cons (.st (.cons (.int .u32) (.cons .str .nil))) (.cons (.int .u64) .nil)))))], []⟩), (.ret, ⟨[(.tmp 2, .val .bool)], []⟩)]
noncomputable def F18_5 (k : Nat) : Nat → m18_5.den → Option (denE x18_5)
  | 0, _ => none
  | j + 1, v => round TI (O10 k) (L18_5 k) b18_5 m18_5 x18_5 (F18_5 k j) v
theorem lk18_5_ (k : Nat) : LinksOK false Try.prog 74 (L18_5 k) b18_5 := (And.intro (And.intro True.intro (And.intro True.intro True.intro)) (And.intro (And.intro (And.intro True.intro (And.intro (And.intro True.intro True.intro) True.intro)) (And.intro True.intro (lk_L18_5_10 k))) True.intro))
noncomputable def L18 (k : Nat) : LOrc := fun R lk s K => match lk with
  | .loop r => bif Nat.beq r 5 then link m18_5 x18_5 (F18_5 k k) s K else none
  | .label l => none
theorem lk_L18_5 (k : Nat) : LoopOK false Try.prog 74 (L18 k) b18_5 := loopOK_of hm hT (ok_O10 k) (fun _ _ _ h => h) rfl (lk18_5_ k) rfl rfl (F := F18_5 k) (fun _ => rfl) (fun _ _ => rfl) (n := k) fun _ _ _ => rfl
noncomputable def F18 (k : Nat) (v : mi18.den) : Option mo18.den := runF TI (O10 k) (L18 k) c18 mi18 mo18 v
theorem lk18 (k : Nat) : LinksOK false Try.prog 74 (L18 k) c18 := (And.intro True.intro (And.intro True.intro (And.intro (And.intro True.intro (And.intro (And.intro True.intro True.intro) True.intro)) (And.intro (And.intro True.intro (lk_L18_5 k)) (And.intro True.intro True.intro)))))
theorem fn18 (k : Nat) (args : List AV) (x : mi18.den) (r : mo18.den) (h1 : args.length = mi18.items.length) (h2 : mi18.dec (Th.start args) = some x) (h3 : F18 k x = some r) : CallOK false Try.prog 18 args (ansOf (outL mo18.items r)) :=
  call_of hm hT (ok_O10 k) (fn := Try.f18) (c := c18) Try.func18 rfl rfl rfl (lk18 k) rfl (by decide) rfl h1 h2 h3
noncomputable def O18 (k : Nat) : Orc := fun R f args K => bif Nat.beq f 18 then callF mi18 mo18 (F18 k) args K else O10 k R f args K
theorem ok_O18 (k : Nat) : OrcOK (O18 k) (CallOK false Try.prog) := orc_add (fn18 k) (ok_O10 k)
noncomputable def c9 : Code := Try.f9.body.getD .skip
noncomputable def mi9 : Msk := ⟨[(.tmp 0, .val (.st (.cons (.int .u64) (.cons (.int .i64) (.cons (.arr 64 (.st (.cons (.st (.cons (.int .u32) (.cons .str .nil))) (.cons (.int .u64) .nil)))) (.cons (.arr 64 (.st (.cons (.st (.cons (.int .u32) (.cons .str .nil))) (.cons (.int .u64) .nil)))) .nil)))))), (.tmp 1, .val (.int .u64))], []⟩
noncomputable def mo9 : Msk := ⟨[(.res 4, .val (.st (.cons (.int .u64) (.cons (.int .i64) (.cons (.arr 64 (.st (.cons (.st (.cons (.int .u32) (.cons .str .nil))) (.cons (.int .u64) .nil)))) (.cons (.arr 64 (.st (.cons (.st (.cons (.int .u32) (.cons .str .nil))) (.cons (.int .u64) .nil)))) .nil)))))), (.tmp 5, .val (.slice (.st (.cons (.st (.cons (.int .u32) (.cons .str .nil))) (.cons (.int .u64) .nil))))), (.tmp 6, .val (.int .i64))], []⟩
noncomputable def L9_7 (k : Nat) : LOrc := fun _ _ _ _ => none
noncomputable def b9_7 : Code := (findLoop 7 c9).getD .skip
noncomputable def m9_7 : Msk := ⟨[(.tmp 1, .val (.int .u64)), (.tmp 2, .val (.ref (.st (.cons (.int .u64) (.cons (.int .i64) (.cons (.arr 64 (.st (.cons (.st (.cons (.int .u32) (.cons .str .nil))) (.cons (.int .u64) .nil)))) (.cons (.arr 64 (.st (.cons (.st (.cons (.int .u32) (.cons .str .nil))) (.cons (.int .u64) .nil)))) .nil))))))), (.tmp 4, .ptr 4 0), (.tmp 7, .val (.slice (.st (.cons (.st (.cons (.int .u32) (.cons .str .nil))) (.cons (.int .u64) .nil))))), (.tmp 8, .val (.int .i64)), (.cell 4 0, .val (.int .u64)), (.cell 4 1, .val (.int .i64)), (.seg 4 2 64, .val (.arr 64 (.st (.cons (.st (.cons (.int .u32) (.cons .str .nil))) (.cons (.int .u64) .nil))))), (.seg 4 66 64, .val (.arr 64 (.st (.cons (.st (.cons (.int .u32) (.cons .str .nil))) (.cons (.int .u64) .nil)))))], [(4, 130)]⟩
noncomputable def x9_7 : List (X × Msk) := [(.exit 0, ⟨[(.tmp 1, .val (.int .u64)), (.tmp 2, .val (.ref (.st (.cons (.int .u64) (.cons (.int .i64) (.cons (.arr 64 (.st (.cons (.st (.cons (.int .u32) (.cons .str .nil))) (.cons (.int .u64) .nil)))) (.cons (.arr 64 (.st (.cons (.st (.cons (.int .u32) (.cons .str .nil))) (.cons (.int .u64) .nil)))) .nil))))))), (.tmp 4, .ptr 4 0), (.tmp 7, .val (.slice (.st (.cons (.st (.cons (.int .u32) (.cons .str .nil))) (.cons (.int .u64) .nil))))), (.tmp 8, .val (.int .i64)), (.cell 4 0, .val (.int .u64)), (.cell 4 1, .val (.int .i64)), (.seg 4 2 64, .val (.arr 64 (.st (.cons (.st (.cons (.int .u32) (.cons .str .nil))) (.cons (.int .u64) .nil))))), (.seg 4 66 64, .val (.arr 64 (.st (.cons (.st (.cons (.int .u32) (.cons .str .nil))) (.cons (.int .u64) .nil)))))], [(4, 130)]⟩)]
noncomputable def F9_7 (k : Nat) : Nat → m9_7.den → Option (denE x9_7)
  | 0, _ => none
  | j + 1, v => round TI (O18 k) (L9_7 k) b9_7 m9_7 x9_7 (F9_7 k j) v
theorem lk9_7_ (k : Nat) : LinksOK false Try.prog 54 (L9_7 k) b9_7 := (And.intro (And.intro True.intro (And.intro True.intro True.intro)) True.intro)
noncomputable def L9 (k : Nat) : LOrc := fun R lk s K => match lk with
  | .loop r => bif Nat.beq r 7 then link m9_7 x9_7 (F9_7 k k) s K else none
  | .label l => none
theorem lk_L9_7 (k : Nat) : LoopOK false Try.prog 54 (L9 k) b9_7 := loopOK_of hm hT (ok_O18 k) (fun _ _ _ h => h) rfl (lk9_7_ k) rfl rfl (F := F9_7 k) (fun _ => rfl) (fun _ _ => rfl) (n := k) fun _ _ _ => rfl
noncomputable def F9 (k : Nat) (v : mi9.den) : Option mo9.den := runF TI (O18 k) (L9 k) c9 mi9 mo9 v
theorem lk9 (k : Nat) : LinksOK false Try.prog 54 (L9 k) c9 := (And.intro True.intro (And.intro (And.intro True.intro (And.intro (And.intro True.intro True.intro) True.intro)) (And.intro (And.intro True.intro (And.intro (And.intro True.intro True.intro) True.intro)) (And.intro True.intro (And.intro True.intro (And.intro (lk_L9_7 k) (And.intro True.intro True.intro)))))))
theorem fn9 (k : Nat) (args : List AV) (x : mi9.den) (r : mo9.den) (h1 : args.length = mi9.items.length) (h2 : mi9.dec (Th.start args) = some x) (h3 : F9 k x = some r) : CallOK false Try.prog 9 args (ansOf (outL mo9.items r)) :=
  call_of hm hT (ok_O18 k) (fn := Try.f9) (c := c9) Try.func9 rfl rfl rfl (lk9 k) rfl (by decide) rfl h1 h2 h3
noncomputable def O9 (k : Nat) : Orc := fun R f args K => bif Nat.beq f 9 then callF mi9 mo9 (F9 k) args K else O18 k R f args K
theorem ok_O9 (k : Nat) : OrcOK (O9 k) (CallOK false Try.prog) := orc_add (fn9 k) (ok_O18 k)
noncomputable def c11 : Code := Try.f11.body.getD .skip
noncomputable def mi11 : Msk := ⟨[(.tmp 0, .val (.slice (.st (.cons (.st (.cons (.int .u32) (.cons .str .nil))) (.cons (.int .u64) .nil))))), (.tmp 1, .val (.slice (.st (.cons (.st (.cons (.int .u32) (.cons .str .nil))) (.cons (.int .u64) .nil)))))], []⟩
noncomputable def mo11 : Msk := ⟨[(.tmp 4, .val .bool)], []⟩
noncomputable def L11 (k : Nat) : LOrc := fun _ _ _ _ => none
noncomputable def F11 (k : Nat) (v : mi11.den) : Option mo11.den := runF TI (O9 k) (L11 k) c11 mi11 mo11 v
theorem lk11 (k : Nat) : LinksOK false Try.prog 8 (L11 k) c11 := (And.intro True.intro (And.intro True.intro True.intro))
theorem fn11 (k : Nat) (args : List AV) (x : mi11.den) (r : mo11.den) (h1 : args.length = mi11.items.length) (h2 : mi11.dec (Th.start args) = some x) (h3 : F11 k x = some r) : CallOK false Try.prog 11 args (ansOf (outL mo11.items r)) :=
  call_of hm hT (ok_O9 k) (fn := Try.f11) (c := c11) Try.func11 rfl rfl rfl (lk11 k) rfl (by decide) rfl h1 h2 h3
noncomputable def O11 (k : Nat) : Orc := fun R f args K => bif Nat.beq f 11 then callF mi11 mo11 (F11 k) args K else O9 k R f args K
theorem ok_O11 (k : Nat) : OrcOK (O11 k) (CallOK false Try.prog) := orc_add (fn11 k) (ok_O9 k)
noncomputable def c3 : Code := Try.f3.body.getD .skip
noncomputable def mi3 : Msk := ⟨[(.tmp 0, .val (.st (.cons (.int .u64) (.cons (.int .i64) (.cons (.arr 64 (.st (.cons (.st (.cons (.int .u32) (.cons .str .nil))) (.cons (.int .u64) .nil)))) (.cons (.arr 64 (.st (.cons (.st (.cons (.int .u32) (.cons .str .nil))) (.cons (.int .u64) .nil)))) .nil)))))), (.tmp 1, .val (.int .u64))], []⟩
noncomputable def mo3 : Msk := ⟨[(.tmp 4, .val .bool)], []⟩
noncomputable def L3 (k : Nat) : LOrc := fun _ _ _ _ => none
noncomputable def F3 (k : Nat) (v : mi3.den) : Option mo3.den := runF TI (O11 k) (L3 k) c3 mi3 mo3 v
theorem lk3 (k : Nat) : LinksOK false Try.prog 43 (L3 k) c3 := (And.intro True.intro (And.intro (And.intro True.intro (And.intro (And.intro True.intro True.intro) True.intro)) (And.intro (And.intro True.intro (And.intro (And.intro True.intro True.intro) True.intro)) (And.intro True.intro (And.intro True.intro (And.intro True.intro True.intro))))))
theorem fn3 (k : Nat) (args : List AV) (x : mi3.den) (r : mo3.den) (h1 : args.length = mi3.items.length) (h2 : mi3.dec (Th.start args) = some x) (h3 : F3 k x = some r) : CallOK false Try.prog 3 args (ansOf (outL mo3.items r)) :=
  call_of hm hT (ok_O11 k) (fn := Try.f3) (c := c3) Try.func3 rfl rfl rfl (lk3 k) rfl (by decide) rfl h1 h2 h3
noncomputable def O3 (k : Nat) : Orc := fun R f args K => bif Nat.beq f 3 then callF mi3 mo3 (F3 k) args K else O11 k R f args K
theorem ok_O3 (k : Nat) : OrcOK (O3 k) (CallOK false Try.prog) := orc_add (fn3 k) (ok_O11 k)
noncomputable def c4 : Code := Try.f4.body.getD .skip
noncomputable def mi4 : Msk := ⟨[(.tmp 0, .val (.int .u32)), (.tmp 1, .val (.slice (.st (.cons (.int .u32) (.cons .str .nil))))), (.tmp 2, .val (.slice (.int .u16))), (.tmp 3, .val (.int .u8))], []⟩
noncomputable def mo4 : Msk := ⟨[(.tmp 8, .val .bool)], []⟩
noncomputable def L4_10 (k : Nat) : LOrc := fun _ _ _ _ => none
noncomputable def b4_10 : Code := (findLoop 10 c4).getD .skip
noncomputable def m4_10 : Msk := ⟨[(.tmp 0, .val (.int .u32)), (.tmp 1, .val (.slice (.st (.cons (.int .u32) (.cons .str .nil))))), (.tmp 2, .val (.slice (.int .u16))), (.tmp 3, .val (.int .u8)), (.tmp 9, .ptr 9 0), (.tmp 11, .val (.int .i64)), (.tmp 12, .val (.int .i64)), (.cell 9 0, .val (.int .u64)), (.cell 9 1, .val (.int .i64)), (.seg 9 2 64, .val (.arr 64 (.st (.cons (.st (.cons (.int .u32) (.cons .str .nil))) (.cons (.int .u64) .nil))))), (.seg 9 66 64, .val (.arr 64 (.st (.cons (.st (.cons (.int .u32) (.cons .str .nil))) (.cons (.int .u64) .nil)))))], [(9, 130)]⟩
noncomputable def x4_10 : List (X × Msk) := [(.exit 0, ⟨[(.tmp 9, .ptr 9 0), (.tmp 11, .val (.int .i64)), (.cell 9 0, .val (.int .u64)), (.cell 9 1, .val (.int .i64)), (.seg 9 2 64, .val (.arr 64 (.st (.cons (.st (.cons (.int .u32) (.cons .str .nil))) (.cons (.int .u64) .nil))))), (.seg 9 66 64, .val (.arr 64 (.st (.cons (.st (.cons (.int .u32) (.cons .str .nil))) (.cons (.int .u64) .nil)))))], [(9, 130)]⟩), (.ret, ⟨[(.tmp 8, .val .bool)], []⟩)]
noncomputable def F4_10 (k : Nat) : Nat → m4_10.den → Option (denE x4_10)
  | 0, _ => none
  | j + 1, v => round TI (O3 k) (L4_10 k) b4_10 m4_10 x4_10 (F4_10 k j) v
theorem lk4_10_ (k : Nat) : LinksOK false Try.prog 140 (L4_10 k) b4_10 := (And.intro (And.intro True.intro (And.intro True.intro True.intro)) (And.intro (And.intro (And.intro True.intro (And.intro (And.intro True.intro True.intro) True.intro)) (And.intro True.intro (And.intro True.intro (And.intro (And.intro True.intro (And.intro (And.intro True.intro True.intro) True.intro)) (And.intro True.intro (And.intro (And.intro True.intro True.intro) True.intro)))))) True.intro))
noncomputable def L4 (k : Nat) : LOrc := fun R lk s K => match lk with
  | .loop r => bif Nat.beq r 10 then link m4_10 x4_10 (F4_10 k k) s K else none
  | .label l => none
theorem lk_L4_10 (k : Nat) : LoopOK false Try.prog 140 (L4 k) b4_10 := loopOK_of hm hT (ok_O3 k) (fun _ _ _ h => h) rfl (lk4_10_ k) rfl rfl (F := F4_10 k) (fun _ => rfl) (fun _ _ => rfl) (n := k) fun _ _ _ => rfl
noncomputable def F4 (k : Nat) (v : mi4.den) : Option mo4.den := runF TI (O3 k) (L4 k) c4 mi4 mo4 v
theorem lk4 (k : Nat) : LinksOK false Try.prog 140 (L4 k) c4 := (And.intro True.intro (And.intro (And.intro True.intro (And.intro (And.intro True.intro True.intro) True.intro)) (And.intro (And.intro True.intro (And.intro (And.intro True.intro True.intro) True.intro)) (And.intro True.intro (And.intro (And.intro True.intro (And.intro (And.intro True.intro True.intro) True.intro)) (And.intro True.intro (And.intro (And.intro True.intro (lk_L4_10 k)) (And.intro True.intro (And.intro True.intro True.intro)))))))))
theorem fn4 (k : Nat) (args : List AV) (x : mi4.den) (r : mo4.den) (h1 : args.length = mi4.items.length) (h2 : mi4.dec (Th.start args) = some x) (h3 : F4 k x = some r) : CallOK false Try.prog 4 args (ansOf (outL mo4.items r)) :=
  call_of hm hT (ok_O3 k) (fn := Try.f4) (c := c4) Try.func4 rfl rfl rfl (lk4 k) rfl (by decide) rfl h1 h2 h3
noncomputable def O4 (k : Nat) : Orc := fun R f args K => bif Nat.beq f 4 then callF mi4 mo4 (F4 k) args K else O3 k R f args K
theorem ok_O4 (k : Nat) : OrcOK (O4 k) (CallOK false Try.prog) := orc_add (fn4 k) (ok_O3 k)
noncomputable def c5 : Code := Try.f5.body.getD .skip
noncomputable def mi5 : Msk := ⟨[(.tmp 0, .val (.st (.cons (.int .u64) (.cons (.int .i64) (.cons (.arr 64 (.st (.cons (.st (.cons (.int .u32) (.cons .str .nil))) (.cons (.int .u64) .nil)))) (.cons (.arr 64 (.st (.cons (.st (.cons (.int .u32) (.cons .str .nil))) (.cons (.int .u64) .nil)))) .nil)))))), (.tmp 1, .val (.st (.cons (.int .u32) (.cons .str .nil)))), (.tmp 2, .val (.int .u64)), (.tmp 3, .val (.int .i64))], []⟩
noncomputable def mo5 : Msk := ⟨[(.tmp 8, .val .bool)], []⟩
noncomputable def L5 (k : Nat) : LOrc := fun _ _ _ _ => none
noncomputable def F5 (k : Nat) (v : mi5.den) : Option mo5.den := runF TI (O4 k) (L5 k) c5 mi5 mo5 v
theorem lk5 (k : Nat) : LinksOK false Try.prog 152 (L5 k) c5 := (And.intro True.intro (And.intro (And.intro True.intro (And.intro (And.intro True.intro True.intro) True.intro)) (And.intro (And.intro True.intro (And.intro (And.intro True.intro True.intro) True.intro)) (And.intro True.intro (And.intro True.intro (And.intro (And.intro True.intro (And.intro (And.intro True.intro (And.intro (And.intro True.intro True.intro) True.intro)) (And.intro True.intro (And.intro (And.intro True.intro True.intro) True.intro)))) (And.intro True.intro (And.intro True.intro (And.intro (And.intro True.intro (And.intro (And.intro True.intro (And.intro (And.intro True.intro True.intro) True.intro)) (And.intro True.intro (And.intro (And.intro True.intro True.intro) True.intro)))) (And.intro True.intro (And.intro True.intro (And.intro True.intro (And.intro True.intro (And.intro True.intro True.intro))))))))))))))
theorem fn5 (k : Nat) (args : List AV) (x : mi5.den) (r : mo5.den) (h1 : args.length = mi5.items.length) (h2 : mi5.dec (Th.start args) = some x) (h3 : F5 k x = some r) : CallOK false Try.prog 5 args (ansOf (outL mo5.items r)) :=
  call_of hm hT (ok_O4 k) (fn := Try.f5) (c := c5) Try.func5 rfl rfl rfl (lk5 k) rfl (by decide) rfl h1 h2 h3
noncomputable def O5 (k : Nat) : Orc := fun R f args K => bif Nat.beq f 5 then callF mi5 mo5 (F5 k) args K else O4 k R f args K
theorem ok_O5 (k : Nat) : OrcOK (O5 k) (CallOK false Try.prog) := orc_add (fn5 k) (ok_O4 k)
end Go.Proofs.Ytjonpmckkmnemaa.G
end
section
set_option maxRecDepth 1000000
set_option linter.unusedVariables false
set_option linter.unusedSimpArgs false
namespace Go.Proofs.Ytjonpmckkmnemaa.G
open Go Go.Proofs.Ytjonpmckkmnemaa Th
noncomputable def G67 (k : Nat) (v : Int × Unit) : Option (Bool × Unit) := F67 k v
theorem G67_eq (k : Nat) (v0 : Int) : G67 k (v0, ()) = some (!decide (v0 = v0), ()) := by kernel_rfl
noncomputable def G48 (k : Nat) (v : Int × Int × Unit) : Option (Int × Unit) := F48 k v
theorem G48_eq (k : Nat) (v0 v1 : Int) : G48 k (v0, v1, ()) = ocall (G67 k (v0, ())) fun r => ocall (G67 k (v1, ())) fun r_1 => sel r.1 (sel r_1.1 (some (0, ())) (some ((-1 : Int), ()))) (sel r_1.1 (some (1, ())) (sel (decide (v0 < v1)) (some ((-1 :
 Int), ())) (sel (decide (v1 < v0)) (some (1, ())) (some (0, ()))))) := by kernel_rfl
noncomputable def G77 (k : Nat) (v : Int × Unit) : Option (Bool × Unit) := F77 k v
theorem G77_eq (k : Nat) (v0 : Int) : G77 k (v0, ()) = some (!decide (v0 = v0), ()) := by kernel_rfl
noncomputable def G68 (k : Nat) (v : Int × Int × Unit) : Option (Int × Unit) := F68 k v
theorem G68_eq (k : Nat) (v0 v1 : Int) : G68 k (v0, v1, ()) = ocall (G77 k (v0, ())) fun r => ocall (G77 k (v1, ())) fun r_1 => sel r.1 (sel r_1.1 (some (0, ())) (some ((-1 : Int), ()))) (sel r_1.1 (some (1, ())) (sel (decide (v0 < v1)) (some ((-1 :
 Int), ())) (sel (decide (v1 < v0)) (some (1, ())) (some (0, ()))))) := by kernel_rfl
noncomputable def G78 (k : Nat) (v : List UInt8 × Unit) : Option (Bool × Unit) := F78 k v
theorem G78_eq (k : Nat) (v0 : List UInt8) : G78 k (v0, ()) = some (!decide (v0 = v0), ()) := by kernel_rfl
noncomputable def G69 (k : Nat) (v : List UInt8 × List UInt8 × Unit) : Option (Int × Unit) := F69 k v
theorem G69_eq (k : Nat) (v0 v1 : List UInt8) : G69 k (v0, v1, ()) = ocall (G78 k (v0, ())) fun r => ocall (G78 k (v1, ())) fun r_1 => sel r.1 (sel r_1.1 (some (0, ())) (some ((-1 : Int), ()))) (sel r_1.1 (some (1, ())) (sel (Go.Op.bytesLess v0 v1)
 (some ((-1 : Int), ())) (sel (!(Go.Op.bytesLess v0 v1 || decide (v0 = v1))) (some (1, ())) (some (0, ()))))) := by kernel_rfl
noncomputable def G47_3 (k : Nat) (j : Nat) (v : Int × List Int × Int × Int × Unit) : Option (Int × Unit ⊕ Int × Unit) := F47_3 k j v
theorem G47_3_eq (k : Nat) (j : Nat) (v0 : Int) (v1 : List Int) (v2 v3 : Int) : G47_3 k (j + 1) (v0, v1, v2, v3, ()) = sel (decide (v3 < v2)) (sel (decide (0 ≤ v3)) (sel (decide (v3 < Int.ofNat v1.length)) (sel (!decide (v1.getD v3.toNat 0 = v0)) (some (Sum.inr (v1.getD v3.toNat 0,
 ()))) (G47_3 k j (v0, v1, v2, IntKind.i64.wrap (v3 + 1), ()))) none) none) (some (Sum.inl (v0, ()))) := by kernel_rfl
noncomputable def G47 (k : Nat) (v : List Int × Unit) : Option (Int × Unit) := F47 k v
theorem G47_eq (k : Nat) (v0 : List Int) : G47 k (v0, ()) = ocall (G47_3 k k (0, v0, Int.ofNat v0.length, 0, ())) fun e => esel e (fun v => some (v.1, ())) fun e => some (e.1, ()) := by kernel_rfl
noncomputable def G49 (k : Nat) (v : (Int × List UInt8 × Unit) × (Int × List UInt8 × Unit) × Unit) : Option (Int × Unit) := F49 k v
theorem G49_eq (k : Nat) (v0 : Int) (v1 : List UInt8) (v2 : Int) (v3 : List UInt8) : G49 k ((v0, v1, ()), (v2, v3, ()), ()) = ocall (G68 k (v0, v2, ())) fun r => ocall (G69 k (v1, v3, ())) fun r_1 => ocall (G47 k ([r.1, r_1.1], ())) fun r => some (r.1,
 ()) := by kernel_rfl
noncomputable def G31 (k : Nat) (v : ((Int × List UInt8 × Unit) × Int × Unit) × ((Int × List UInt8 × Unit) × Int × Unit) × Unit) : Option (Int × Unit) := F31 k v
theorem G31_eq (k : Nat) (v0 : Int) (v1 : List UInt8) (v2 v3 : Int) (v4 : List UInt8) (v5 : Int) : G31 k (((v0, v1, ()), v2, ()), ((v3, v4, ()), v5, ()), ()) = ocall (G48 k (v2, v5, ())) fun r => ocall (G49 k ((v0, v1, ()), (v3, v4,
 ()), ())) fun r_1 => ocall (G47 k ([r.1, r_1.1], ())) fun r => some (r.1, ()) := by kernel_rfl
noncomputable def G52 (k : Nat) (v : Int × Unit) : Option (List ((Int × List UInt8 × Unit) × Int × Unit) × Unit) := F52 k v
theorem G52_eq (k : Nat) (v0 : Int) : G52 k (v0, ()) = sel (decide (0 ≤ v0)) (sel (decide (v0 * 32 ≤ 140737488355328)) (some ([], ())) none) none := by kernel_rfl
noncomputable def G37_3 (k : Nat) (j : Nat) (v : List (List ((Int × List UInt8 × Unit) × Int × Unit)) × Int × List (List ((Int × List UInt8 × Unit) × Int × Unit)) × Int × Int × Unit) : Option (List (List ((Int × List UInt8 × Unit) × Int × Unit)) × Int × Unit) := F37_3 k j v
theorem G37_3_eq (k : Nat) (j : Nat) (v0 : List (List ((Int × List UInt8 × Unit) × Int × Unit))) (v1 : Int) (v2 : List (List ((Int × List UInt8 × Unit) × Int × Unit))) (v3 v4 : Int) : G37_3 k (j + 1) (v0, v1, v2, v3, v4, ()) = sel (decide (v4 < v3)) (sel (decide (0 ≤ v4)) (sel (decide
 (v4 < Int.ofNat v2.length)) (sel (decide (IntKind.i64.wrap (v1 + Int.ofNat (List.length (v2.getD v4.toNat []))) < 0)) none (G37_3 k j (v0, IntKind.i64.wrap (v1 + Int.ofNat (List.length (v2.getD v4.toNat []))), v2, v3, IntKind.i64.wrap (v4 + 1), ()))) none) none) (some (v0, v1, ()))
 := by kernel_rfl
noncomputable def G37_11 (k : Nat) (j : Nat) (v : List ((Int × List UInt8 × Unit) × Int × Unit) × List (List ((Int × List UInt8 × Unit) × Int × Unit)) × Int × Int × Unit) : Option (List ((Int × List UInt8 × Unit) × Int × Unit) × Unit) := F37_11 k j v
theorem G37_11_eq (k : Nat) (j : Nat) (v0 : List ((Int × List UInt8 × Unit) × Int × Unit)) (v1 : List (List ((Int × List UInt8 × Unit) × Int × Unit))) (v2 v3 : Int) : G37_11 k (j + 1) (v0, v1, v2, v3, ()) = sel (decide (v3 < v2)) (sel (decide (0 ≤ v3)) (sel (decide (v3 < Int.ofNat
 v1.length)) (sel (decide ((v0.length + List.length (v1.getD v3.toNat [])) * 32 ≤ 140737488355328)) (G37_11 k j (v0 ++ v1.getD v3.toNat [], v1, v2, IntKind.i64.wrap (v3 + 1), ())) none) none) none) (some (v0, ())) := by kernel_rfl
noncomputable def G37 (k : Nat) (v : List (List ((Int × List UInt8 × Unit) × Int × Unit)) × Unit) : Option (List ((Int × List UInt8 × Unit) × Int × Unit) × Unit) := F37 k v
theorem G37_eq (k : Nat) (v0 : List (List ((Int × List UInt8 × Unit) × Int × Unit))) : G37 k (v0, ()) = ocall (G37_3 k k (v0, 0, v0, Int.ofNat v0.length, 0, ())) fun e => ocall (G52 k (e.2.1, ())) fun r => ocall (G37_11 k k (r.1, e.1, Int.ofNat e.1.length, 0, ()))
 fun e => some (e.1, ()) := by kernel_rfl
noncomputable def G24 (k : Nat) (v : (Int × Int × List (List ((Int × List UInt8 × Unit) × Int × Unit)) × List (List ((Int × List UInt8 × Unit) × Int × Unit)) × Unit) × Unit) : Option (List ((Int × List UInt8 × Unit) × Int × Unit) × Unit) := F24 k v
theorem G24_eq (k : Nat) (v0 v1 : Int) (v2 v3 : List (List ((Int × List UInt8 × Unit) × Int × Unit))) : G24 k ((v0, v1, v2, v3, ()), ()) = ocall (G37 k (pad 64 v2, ())) fun r => ocall (G37 k (pad 64 v3, ())) fun r_1 => ocall (G37 k ([r.1, r_1.1], ())) fun r
 => some (r.1, ()) := by kernel_rfl
noncomputable def G42 (k : Nat) (v : Int × Unit) : Option (Int × Unit) := F42 k v
theorem G42_eq (k : Nat) (v0 : Int) : G42 k (v0, ()) = some (IntKind.u64.wrap (v0.tdiv 64), ()) := by kernel_rfl
noncomputable def G54 (k : Nat) (v : (Nat × Nat) × Unit) : Option (Nat × Unit) := F54 k v
theorem G54_eq (k : Nat) (v0 v1 : Nat) : G54 k ((v0, v1), ()) = some (v1, ()) := by kernel_rfl
noncomputable def G38 (k : Nat) (v : Int × Unit) : Option ((Nat × Nat) × Unit) := F38 k v
theorem G38_eq (k : Nat) (v0 : Int) : G38 k (v0, ()) = some ((fltOf ((IntKind.u64.wrap (v0.tdiv 64)).tmod 64), fltOf (v0.tmod 64)), ()) := by kernel_rfl
noncomputable def G53 (k : Nat) (v : (Nat × Nat) × Unit) : Option (Nat × Unit) := F53 k v
theorem G53_eq (k : Nat) (v0 v1 : Nat) : G53 k ((v0, v1), ()) = some (v0, ()) := by kernel_rfl
noncomputable def G7000000 (k : Nat) (v : Int × Int × Int × List (List ((Int × List UInt8 × Unit) × Int × Unit)) × List (List ((Int × List UInt8 × Unit) × Int × Unit)) × Unit) : Option (Nat × Int × Int × List (List ((Int × List UInt8 × Unit) × Int × Unit)) × List (List ((Int × List UInt8 ×
 Unit) × Int × Unit)) × Unit) := F7000000 k v
theorem G7000000_eq (k : Nat) (v0 v1 v2 : Int) (v3 v4 : List (List ((Int × List UInt8 × Unit) × Int × Unit))) : G7000000 k (v0, v1, v2, v3, v4, ()) = ocall (G38 k (v0, ())) fun r => ocall (G54 k ((r.1.1, r.1.2), ())) fun r => sel (iOK IntKind.i64 r.1) (sel (decide (0 ≤ iVal
 IntKind.i64 r.1)) (sel (decide (iVal IntKind.i64 r.1 < Int.ofNat 64)) (some ((iVal IntKind.i64 r.1).toNat, v1, v2, pad 64 v3, pad 64 v4, ())) none) none) none := by kernel_rfl
noncomputable def G7000001 (k : Nat) (v : Int × Int × Int × List (List ((Int × List UInt8 × Unit) × Int × Unit)) × List (List ((Int × List UInt8 × Unit) × Int × Unit)) × Unit) : Option (Nat × Int × Int × List (List ((Int × List UInt8 × Unit) × Int × Unit)) × List (List ((Int × List UInt8 ×
 Unit) × Int × Unit)) × Unit) := F7000001 k v
theorem G7000001_eq (k : Nat) (v0 v1 v2 : Int) (v3 v4 : List (List ((Int × List UInt8 × Unit) × Int × Unit))) : G7000001 k (v0, v1, v2, v3, v4, ()) = ocall (G38 k (v0, ())) fun r => ocall (G53 k ((r.1.1, r.1.2), ())) fun r => sel (iOK IntKind.i64 r.1) (sel (decide (0 ≤ iVal
 IntKind.i64 r.1)) (sel (decide (iVal IntKind.i64 r.1 < Int.ofNat 64)) (some ((iVal IntKind.i64 r.1).toNat, v1, v2, pad 64 v3, pad 64 v4, ())) none) none) none := by kernel_rfl
noncomputable def G28 (k : Nat) (v : Int × Int × Int × List (List ((Int × List UInt8 × Unit) × Int × Unit)) × List (List ((Int × List UInt8 × Unit) × Int × Unit)) × Unit) : Option (Int × Int × List (List ((Int × List UInt8 × Unit) × Int × Unit)) × List (List ((Int × List UInt8 × Unit) × Int
 × Unit)) × Unit ⊕ Nat × Int × Int × List (List ((Int × List UInt8 × Unit) × Int × Unit)) × List (List ((Int × List UInt8 × Unit) × Int × Unit)) × Unit ⊕ Nat × Int × Int × List (List ((Int × List UInt8 × Unit) × Int × Unit)) × List (List ((Int × List UInt8 × Unit) × Int × Unit)) × Unit)
 := F28 k v
theorem G28_eq (k : Nat) (v0 v1 v2 : Int) (v3 v4 : List (List ((Int × List UInt8 × Unit) × Int × Unit))) : G28 k (v0, v1, v2, v3, v4, ()) = sel (decide (v0 ≤ v1)) (some (Sum.inl (v1, v2, pad 64 v3, pad 64 v4, ()))) (ocall (G42 k (v0, ())) fun r => ocall (G42 k (v1,
 ())) fun r_1 => sel (decide (r.1 = r_1.1)) (ocall (G7000000 k (v0, v1, v2, pad 64 v3, pad 64 v4, ())) fun r => some (Sum.inr (Sum.inl (r.1, r.2.1, r.2.2.1, pad 64 r.2.2.2.1, pad 64 r.2.2.2.2.1, ())))) (ocall (G42 k (v0, ())) fun r => ocall (G42 k (v1, ())) fun
 r_2 => sel (decide (IntKind.u64.wrap (r.1 - r_2.1) < 64)) (ocall (G7000001 k (v0, v1, v2, pad 64 v3, pad 64 v4, ())) fun r => some (Sum.inr (Sum.inr (r.1, r.2.1, r.2.2.1, pad 64 r.2.2.2.1, pad 64 r.2.2.2.2.1, ())))) (some (Sum.inl (v1, v2, pad 64 v3, pad 64 v4, ()))))) := by
 kernel_rfl
noncomputable def G7000002_2 (k : Nat) (j : Nat) (v : Nat × List ((Int × List UInt8 × Unit) × Int × Unit) × Int × Int × Int × Int × List (List ((Int × List UInt8 × Unit) × Int × Unit)) × List (List ((Int × List UInt8 × Unit) × Int × Unit)) × Unit) : Option (Int × Int × List (List ((Int × List
 UInt8 × Unit) × Int × Unit)) × List (List ((Int × List UInt8 × Unit) × Int × Unit)) × Unit ⊕ Bool × Int × Int × List (List ((Int × List UInt8 × Unit) × Int × Unit)) × List (List ((Int × List UInt8 × Unit) × Int × Unit)) × Unit) := F7000002_2 k j v
theorem G7000002_2_eq (k : Nat) (j : Nat) (v0 : Nat) (v1 : List ((Int × List UInt8 × Unit) × Int × Unit)) (v2 v3 v4 v5 : Int) (v6 v7 : List (List ((Int × List UInt8 × Unit) × Int × Unit))) : G7000002_2 k (j + 1) (v0, v1, v2, v3, v4, v5, v6, v7, ()) = sel (decide (v3 < v2)) (sel (decide
 (0 ≤ v3)) (sel (decide (v3 < Int.ofNat v1.length)) (ocall (G28 k ((v1.getD v3.toNat ((0, [], ()), 0, ())).2.1, v4, v5, pad 64 v6, pad 64 v7, ())) fun r => esel r (fun v => some (Sum.inr (false, v.1, v.2.1, pad 64 v.2.2.1, pad 64 v.2.2.2.1, ()))) fun e => esel e (fun v
 => sel (!decide (2 + v.1 = 2 + v0)) (some (Sum.inr (false, v.2.1, v.2.2.1, pad 64 v.2.2.2.1, pad 64 v.2.2.2.2.1, ()))) (sel (decide (0 < v3)) (sel (decide (0 ≤ IntKind.i64.wrap (v3 - 1))) (sel (decide (IntKind.i64.wrap (v3 - 1) < Int.ofNat ((pad 64 v.2.2.2.1).getD v0 []).length)) (ocall (G31
 k ((((((pad 64 v.2.2.2.1).getD v0 []).getD (IntKind.i64.wrap (v3 - 1)).toNat ((0, [], ()), 0, ())).1.1, (((pad 64 v.2.2.2.1).getD v0 []).getD (IntKind.i64.wrap (v3 - 1)).toNat ((0, [], ()), 0, ())).1.2.1, ()), (((pad 64 v.2.2.2.1).getD v0 []).getD
 (IntKind.i64.wrap (v3 - 1)).toNat ((0, [], ()), 0, ())).2.1, ()), (((v1.getD v3.toNat ((0, [], ()), 0, ())).1.1, (v1.getD v3.toNat ((0, [], ()), 0, ())).1.2.1, ()), (v1.getD v3.toNat ((0, [], ()), 0, ())).2.1,
 ()), ())) fun r => sel (decide (0 ≤ r.1)) (some (Sum.inr (false, v.2.1, v.2.2.1, pad 64 v.2.2.2.1, pad 64 v.2.2.2.2.1, ()))) (G7000002_2 k j (v0, v1, v2, IntKind.i64.wrap (v3 + 1), v.2.1, v.2.2.1, pad 64 v.2.2.2.1, pad 64 v.2.2.2.2.1, ()))) none) none) (G7000002_2 k j
 (v0, v1, v2, IntKind.i64.wrap (v3 + 1), v.2.1, v.2.2.1, pad 64 v.2.2.2.1, pad 64 v.2.2.2.2.1, ())))) fun e => sel (!decide (66 + e.1 = 2 + v0)) (some (Sum.inr (false, e.2.1, e.2.2.1, pad 64 e.2.2.2.1, pad 64 e.2.2.2.2.1, ()))) (sel (decide (0 < v3)) (sel (decide (0 ≤ IntKind.i64.wrap
 (v3 - 1))) (sel (decide (IntKind.i64.wrap (v3 - 1) < Int.ofNat ((pad 64 e.2.2.2.1).getD v0 []).length)) (ocall (G31 k ((((((pad 64 e.2.2.2.1).getD v0 []).getD (IntKind.i64.wrap (v3 - 1)).toNat ((0, [], ()), 0, ())).1.1, (((pad 64 e.2.2.2.1).getD v0 []).getD (IntKind.i64.wrap (v3 -
 1)).toNat ((0, [], ()), 0, ())).1.2.1, ()), (((pad 64 e.2.2.2.1).getD v0 []).getD (IntKind.i64.wrap (v3 - 1)).toNat ((0, [], ()), 0, ())).2.1, ()), (((v1.getD v3.toNat ((0, [], ()), 0, ())).1.1, (v1.getD v3.toNat ((0, [], ()),
 0, ())).1.2.1, ()), (v1.getD v3.toNat ((0, [], ()), 0, ())).2.1, ()), ())) fun r => sel (decide (0 ≤ r.1)) (some (Sum.inr (false, e.2.1, e.2.2.1, pad 64 e.2.2.2.1, pad 64 e.2.2.2.2.1, ()))) (G7000002_2 k j (v0, v1, v2, IntKind.i64.wrap (v3 +
 1), e.2.1, e.2.2.1, pad 64 e.2.2.2.1, pad 64 e.2.2.2.2.1, ()))) none) none) (G7000002_2 k j (v0, v1, v2, IntKind.i64.wrap (v3 + 1), e.2.1, e.2.2.1, pad 64 e.2.2.2.1, pad 64 e.2.2.2.2.1, ())))) none) none) (some (Sum.inl (v4, v5, pad 64 v6, pad 64 v7, ()))) := by kernel_rfl
noncomputable def G7000002 (k : Nat) (v : Nat × Int × Int × List (List ((Int × List UInt8 × Unit) × Int × Unit)) × List (List ((Int × List UInt8 × Unit) × Int × Unit)) × Unit) : Option (Bool × Int × Int × List (List ((Int × List UInt8 × Unit) × Int × Unit)) × List (List ((Int × List UInt8 ×
 Unit) × Int × Unit)) × Unit) := F7000002 k v
theorem G7000002_eq (k : Nat) (v0 : Nat) (v1 v2 : Int) (v3 v4 : List (List ((Int × List UInt8 × Unit) × Int × Unit))) : G7000002 k (v0, v1, v2, v3, v4, ()) = ocall (G7000002_2 k k (v0, (pad 64 v3).getD v0 [], Int.ofNat ((pad 64 v3).getD v0 []).length, 0, v1, v2, pad 64 v3, pad 64 v4,
 ())) fun e => esel e (fun v => some (true, v.1, v.2.1, pad 64 v.2.2.1, pad 64 v.2.2.2.1, ())) fun e => some (e.1, e.2.1, e.2.2.1, pad 64 e.2.2.2.1, pad 64 e.2.2.2.2.1, ()) := by kernel_rfl
noncomputable def G7000003_2 (k : Nat) (j : Nat) (v : Nat × List ((Int × List UInt8 × Unit) × Int × Unit) × Int × Int × Int × Int × List (List ((Int × List UInt8 × Unit) × Int × Unit)) × List (List ((Int × List UInt8 × Unit) × Int × Unit)) × Unit) : Option (Int × Int × List (List ((Int × List
 UInt8 × Unit) × Int × Unit)) × List (List ((Int × List UInt8 × Unit) × Int × Unit)) × Unit ⊕ Bool × Int × Int × List (List ((Int × List UInt8 × Unit) × Int × Unit)) × List (List ((Int × List UInt8 × Unit) × Int × Unit)) × Unit) := F7000003_2 k j v
theorem G7000003_2_eq (k : Nat) (j : Nat) (v0 : Nat) (v1 : List ((Int × List UInt8 × Unit) × Int × Unit)) (v2 v3 v4 v5 : Int) (v6 v7 : List (List ((Int × List UInt8 × Unit) × Int × Unit))) : G7000003_2 k (j + 1) (v0, v1, v2, v3, v4, v5, v6, v7, ()) = sel (decide (v3 < v2)) (sel (decide
 (0 ≤ v3)) (sel (decide (v3 < Int.ofNat v1.length)) (ocall (G28 k ((v1.getD v3.toNat ((0, [], ()), 0, ())).2.1, v4, v5, pad 64 v6, pad 64 v7, ())) fun r => esel r (fun v => some (Sum.inr (false, v.1, v.2.1, pad 64 v.2.2.1, pad 64 v.2.2.2.1, ()))) fun e => esel e (fun v
 => sel (!decide (2 + v.1 = 66 + v0)) (some (Sum.inr (false, v.2.1, v.2.2.1, pad 64 v.2.2.2.1, pad 64 v.2.2.2.2.1, ()))) (sel (decide (0 < v3)) (sel (decide (0 ≤ IntKind.i64.wrap (v3 - 1))) (sel (decide (IntKind.i64.wrap (v3 - 1) < Int.ofNat ((pad 64 v.2.2.2.2.1).getD v0 []).length)) (ocall
 (G31 k ((((((pad 64 v.2.2.2.2.1).getD v0 []).getD (IntKind.i64.wrap (v3 - 1)).toNat ((0, [], ()), 0, ())).1.1, (((pad 64 v.2.2.2.2.1).getD v0 []).getD (IntKind.i64.wrap (v3 - 1)).toNat ((0, [], ()), 0, ())).1.2.1, ()), (((pad 64 v.2.2.2.2.1).getD v0 []).getD
 (IntKind.i64.wrap (v3 - 1)).toNat ((0, [], ()), 0, ())).2.1, ()), (((v1.getD v3.toNat ((0, [], ()), 0, ())).1.1, (v1.getD v3.toNat ((0, [], ()), 0, ())).1.2.1, ()), (v1.getD v3.toNat ((0, [], ()), 0, ())).2.1,
 ()), ())) fun r => sel (decide (0 ≤ r.1)) (some (Sum.inr (false, v.2.1, v.2.2.1, pad 64 v.2.2.2.1, pad 64 v.2.2.2.2.1, ()))) (G7000003_2 k j (v0, v1, v2, IntKind.i64.wrap (v3 + 1), v.2.1, v.2.2.1, pad 64 v.2.2.2.1, pad 64 v.2.2.2.2.1, ()))) none) none) (G7000003_2 k j
 (v0, v1, v2, IntKind.i64.wrap (v3 + 1), v.2.1, v.2.2.1, pad 64 v.2.2.2.1, pad 64 v.2.2.2.2.1, ())))) fun e => sel (!decide (66 + e.1 = 66 + v0)) (some (Sum.inr (false, e.2.1, e.2.2.1, pad 64 e.2.2.2.1, pad 64 e.2.2.2.2.1, ()))) (sel (decide (0 < v3)) (sel (decide (0 ≤
 IntKind.i64.wrap (v3 - 1))) (sel (decide (IntKind.i64.wrap (v3 - 1) < Int.ofNat ((pad 64 e.2.2.2.2.1).getD v0 []).length)) (ocall (G31 k ((((((pad 64 e.2.2.2.2.1).getD v0 []).getD (IntKind.i64.wrap (v3 - 1)).toNat ((0, [], ()), 0, ())).1.1, (((pad 64 e.2.2.2.2.1).getD v0 []).getD
 (IntKind.i64.wrap (v3 - 1)).toNat ((0, [], ()), 0, ())).1.2.1, ()), (((pad 64 e.2.2.2.2.1).getD v0 []).getD (IntKind.i64.wrap (v3 - 1)).toNat ((0, [], ()), 0, ())).2.1, ()), (((v1.getD v3.toNat ((0, [], ()), 0, ())).1.1, (v1.getD
 v3.toNat ((0, [], ()), 0, ())).1.2.1, ()), (v1.getD v3.toNat ((0, [], ()), 0, ())).2.1, ()), ())) fun r => sel (decide (0 ≤ r.1)) (some (Sum.inr (false, e.2.1, e.2.2.1, pad 64 e.2.2.2.1, pad 64 e.2.2.2.2.1, ()))) (G7000003_2 k j (v0,
 v1, v2, IntKind.i64.wrap (v3 + 1), e.2.1, e.2.2.1, pad 64 e.2.2.2.1, pad 64 e.2.2.2.2.1, ()))) none) none) (G7000003_2 k j (v0, v1, v2, IntKind.i64.wrap (v3 + 1), e.2.1, e.2.2.1, pad 64 e.2.2.2.1, pad 64 e.2.2.2.2.1, ())))) none) none) (some (Sum.inl (v4, v5, pad 64 v6, pad 64 v7,
 ()))) := by kernel_rfl
noncomputable def G7000003 (k : Nat) (v : Nat × Int × Int × List (List ((Int × List UInt8 × Unit) × Int × Unit)) × List (List ((Int × List UInt8 × Unit) × Int × Unit)) × Unit) : Option (Bool × Int × Int × List (List ((Int × List UInt8 × Unit) × Int × Unit)) × List (List ((Int × List UInt8 ×
 Unit) × Int × Unit)) × Unit) := F7000003 k v
theorem G7000003_eq (k : Nat) (v0 : Nat) (v1 v2 : Int) (v3 v4 : List (List ((Int × List UInt8 × Unit) × Int × Unit))) : G7000003 k (v0, v1, v2, v3, v4, ()) = ocall (G7000003_2 k k (v0, (pad 64 v4).getD v0 [], Int.ofNat ((pad 64 v4).getD v0 []).length, 0, v1, v2, pad 64 v3, pad 64 v4,
 ())) fun e => esel e (fun v => some (true, v.1, v.2.1, pad 64 v.2.2.1, pad 64 v.2.2.2.1, ())) fun e => some (e.1, e.2.1, e.2.2.1, pad 64 e.2.2.2.1, pad 64 e.2.2.2.2.1, ()) := by kernel_rfl
noncomputable def G17_5 (k : Nat) (j : Nat) (v : List ((Int × List UInt8 × Unit) × Int × Unit) × Int × Int × Int × List (List ((Int × List UInt8 × Unit) × Int × Unit)) × List (List ((Int × List UInt8 × Unit) × Int × Unit)) × Unit) : Option (List ((Int × List UInt8 × Unit) × Int × Unit) ×
 Unit ⊕ Bool × Unit) := F17_5 k j v
theorem G17_5_eq (k : Nat) (j : Nat) (v0 : List ((Int × List UInt8 × Unit) × Int × Unit)) (v1 v2 v3 : Int) (v4 v5 : List (List ((Int × List UInt8 × Unit) × Int × Unit))) : G17_5 k (j + 1) (v0, v1, v2, v3, v4, v5, ()) = sel (decide (v1 < 64)) (sel (decide (0 ≤ v1)) (sel (decide (v1 <
 Int.ofNat 64)) (ocall (G7000002 k (v1.toNat, v2, v3, pad 64 v4, pad 64 v5, ())) fun r => sel (!r.1) (some (Sum.inr (false, ()))) (sel (decide (0 ≤ v1)) (sel (decide (v1 < Int.ofNat 64)) (ocall (G7000003 k (v1.toNat, r.2.1, r.2.2.1, pad 64 r.2.2.2.1, pad 64 r.2.2.2.2.1, ()))
 fun r => sel (!r.1) (some (Sum.inr (false, ()))) (G17_5 k j (v0, IntKind.i64.wrap (v1 + 1), r.2.1, r.2.2.1, pad 64 r.2.2.2.1, pad 64 r.2.2.2.2.1, ()))) none) none)) none) none) (some (Sum.inl (v0, ()))) := by kernel_rfl
noncomputable def G17_12 (k : Nat) (j : Nat) (v : List (Int × List UInt8 × Unit) × List ((Int × List UInt8 × Unit) × Int × Unit) × Int × Int × Unit) : Option (Unit ⊕ Bool × Unit) := F17_12 k j v
theorem G17_12_eq (k : Nat) (j : Nat) (v0 : List (Int × List UInt8 × Unit)) (v1 : List ((Int × List UInt8 × Unit) × Int × Unit)) (v2 v3 : Int) : G17_12 k (j + 1) (v0, v1, v2, v3, ()) = sel (decide (v3 < v2)) (sel (decide (0 ≤ v3)) (sel (decide (v3 < Int.ofNat v1.length)) (sel (decide
 (v3.toNat < v1.length)) (sel (v0.any fun y => sameI (v1.getD v3.toNat ((0, [], ()), 0, ())).1.1 y.1 && (sameS (v1.getD v3.toNat ((0, [], ()), 0, ())).1.2.1 y.2.1 && true)) (some (Sum.inr (false, ()))) (sel (!v0.any fun y => sameI (v1.getD v3.toNat ((0, [],
 ()), 0, ())).1.1 y.1 && (sameS (v1.getD v3.toNat ((0, [], ()), 0, ())).1.2.1 y.2.1 && true)) (G17_12 k j (v0 ++ [((v1.getD v3.toNat ((0, [], ()), 0, ())).1.1, (v1.getD v3.toNat ((0, [], ()), 0, ())).1.2.1, ())], v1, v2,
 IntKind.i64.wrap (v3 + 1), ())) none)) none) none) none) (some (Sum.inl ())) := by kernel_rfl
noncomputable def G17 (k : Nat) (v : (Int × Int × List (List ((Int × List UInt8 × Unit) × Int × Unit)) × List (List ((Int × List UInt8 × Unit) × Int × Unit)) × Unit) × Unit) : Option (Bool × Unit) := F17 k v
theorem G17_eq (k : Nat) (v0 v1 : Int) (v2 v3 : List (List ((Int × List UInt8 × Unit) × Int × Unit))) : G17 k ((v0, v1, v2, v3, ()), ()) = ocall (G24 k ((v0, v1, pad 64 v2, pad 64 v3, ()), ())) fun r => sel (decide (v1 < 0)) (some (false, ())) (sel (decide
 (256 < v1)) (some (false, ())) (sel (decide (v1 < Int.ofNat r.1.length)) (some (false, ())) (ocall (G17_5 k k (r.1, 0, v0, v1, pad 64 v2, pad 64 v3, ())) fun e => esel e (fun v => ocall (G17_12 k k ([], v.1, Int.ofNat v.1.length, 0, ())) fun e => esel e (fun v => some
 (true, ())) fun e => some (e.1, ())) fun e => some (e.1, ())))) := by kernel_rfl
noncomputable def G12 (k : Nat) (v : Int × Int × Unit) : Option ((Int × Int × List (List ((Int × List UInt8 × Unit) × Int × Unit)) × List (List ((Int × List UInt8 × Unit) × Int × Unit)) × Unit) × Int × Unit) := F12 k v
theorem G12_eq (k : Nat) (v0 v1 : Int) : G12 k (v0, v1, ()) = ocall (G17 k ((v0, v1, [[], [], [], [], [], [], [], [], [], [], [], [], [], [], [], [], [], [], [], [], [], [], [], [], [], [], [], [], [], [], [], [], [], [], [], [], [], [], [], [], [], [], [], [], [], [], [], [], [], [], [],
 [], [], [], [], [], [], [], [], [], [], [], [], []], [[], [], [], [], [], [], [], [], [], [], [], [], [], [], [], [], [], [], [], [], [], [], [], [], [], [], [], [], [], [], [], [], [], [], [], [], [], [], [], [], [], [], [], [], [], [], [], [], [], [], [], [], [], [], [], [], [], [], [], [], [],
 [], [], []], ()), ())) fun r => sel r.1 (some ((v0, v1, [[], [], [], [], [], [], [], [], [], [], [], [], [], [], [], [], [], [], [], [], [], [], [], [], [], [], [], [], [], [], [], [], [], [], [], [], [], [], [], [], [], [], [], [], [], [], [], [], [], [], [], [], [], [], [], [], [],
 [], [], [], [], [], [], []], [[], [], [], [], [], [], [], [], [], [], [], [], [], [], [], [], [], [], [], [], [], [], [], [], [], [], [], [], [], [], [], [], [], [], [], [], [], [], [], [], [], [], [], [], [], [], [], [], [], [], [], [], [], [], [], [], [], [], [], [], [], [], [], []], ()),
 0, ())) (some ((0, 0, [[], [], [], [], [], [], [], [], [], [], [], [], [], [], [], [], [], [], [], [], [], [], [], [], [], [], [], [], [], [], [], [], [], [], [], [], [], [], [], [], [], [], [], [], [], [], [], [], [], [], [], [], [], [], [], [], [], [], [], [], [], [], [], []], [[], [], [],
 [], [], [], [], [], [], [], [], [], [], [], [], [], [], [], [], [], [], [], [], [], [], [], [], [], [], [], [], [], [], [], [], [], [], [], [], [], [], [], [], [], [], [], [], [], [], [], [], [], [], [], [], [], [], [], [], [], [], [], [], []], ()), 1, ())) := by kernel_rfl
noncomputable def G14_4 (k : Nat) (j : Nat) (v : (Int × List UInt8 × Unit) × List ((Int × List UInt8 × Unit) × Int × Unit) × Int × Int × Unit) : Option (Unit ⊕ Int × Bool × Unit) := F14_4 k j v
theorem G14_4_eq (k : Nat) (j : Nat) (v0 : Int) (v1 : List UInt8) (v2 : List ((Int × List UInt8 × Unit) × Int × Unit)) (v3 v4 : Int) : G14_4 k (j + 1) ((v0, v1, ()), v2, v3, v4, ()) = sel (decide (v4 < v3)) (sel (decide (0 ≤ v4)) (sel (decide (v4 < Int.ofNat v2.length)) (sel
 (decide (v4.toNat < v2.length)) (sel (sameI (v2.getD v4.toNat ((0, [], ()), 0, ())).1.1 v0 && (sameS (v2.getD v4.toNat ((0, [], ()), 0, ())).1.2.1 v1 && true)) (some (Sum.inr ((v2.getD v4.toNat ((0, [], ()), 0, ())).2.1, true, ()))) (G14_4 k j
 ((v0, v1, ()), v2, v3, IntKind.i64.wrap (v4 + 1), ()))) none) none) none) (some (Sum.inl ())) := by kernel_rfl
noncomputable def G14 (k : Nat) (v : (Int × Int × List (List ((Int × List UInt8 × Unit) × Int × Unit)) × List (List ((Int × List UInt8 × Unit) × Int × Unit)) × Unit) × (Int × List UInt8 × Unit) × Unit) : Option (Int × Bool × Unit) := F14 k v
theorem G14_eq (k : Nat) (v0 v1 : Int) (v2 v3 : List (List ((Int × List UInt8 × Unit) × Int × Unit))) (v4 : Int) (v5 : List UInt8) : G14 k ((v0, v1, v2, v3, ()), (v4, v5, ()), ()) = ocall (G17 k ((v0, v1, pad 64 v2, pad 64 v3, ()), ())) fun r => sel (!r.1)
 (some (0, false, ())) (ocall (G24 k ((v0, v1, pad 64 v2, pad 64 v3, ()), ())) fun r => ocall (G14_4 k k ((v4, v5, ()), r.1, Int.ofNat r.1.length, 0, ())) fun e => esel e (fun v => some (0, false, ())) fun e => some (e.1, e.2.1, ())) := by
 kernel_rfl
noncomputable def G35 (k : Nat) (v : List ((Int × List UInt8 × Unit) × Int × Unit)) : Option (List ((Int × List UInt8 × Unit) × Int × Unit) × Unit) := F35 k v
theorem G35_eq (k : Nat) (v0 : List ((Int × List UInt8 × Unit) × Int × Unit)) : G35 k v0 = sel (decide ((0 + v0.length) * 32 ≤ 140737488355328)) (some (v0, ())) none := by kernel_rfl
noncomputable def G44 (k : Nat) (v : List ((Int × List UInt8 × Unit) × Int × Unit) × Int × List ((Int × List UInt8 × Unit) × Int × Unit) × Unit) : Option (List ((Int × List UInt8 × Unit) × Int × Unit) × Unit) := F44 k v
theorem G44_eq (k : Nat) (v0 : List ((Int × List UInt8 × Unit) × Int × Unit)) (v1 : Int) (v2 : List ((Int × List UInt8 × Unit) × Int × Unit)) : G44 k (v0, v1, v2, ()) = sel (decide (0 ≤ v1)) (sel (decide (v1 ≤ Int.ofNat v0.length)) (sel (decide (v0.length ≤ 1000000)) (sel (decide
 (v2.length = 1)) (some (List.take v1.toNat v0 ++ v2 ++ List.drop v1.toNat v0, ())) none) none) none) none := by kernel_rfl
noncomputable def G7000004_3 (k : Nat) (j : Nat) (v : List ((Int × List UInt8 × Unit) × Int × Unit) × Unit × Int × Int × Int × Int × List UInt8 × Int × Unit) : Option (List ((Int × List UInt8 × Unit) × Int × Unit) × Unit × Int × Int × Int × List UInt8 × Int × Unit) := F7000004_3 k j v
theorem G7000004_3_eq (k : Nat) (j : Nat) (v0 : List ((Int × List UInt8 × Unit) × Int × Unit)) (v1 v2 v3 v4 : Int) (v5 : List UInt8) (v6 : Int) : G7000004_3 k (j + 1) (v0, (), v1, v2, v3, v4, v5, v6, ()) = sel (decide (v2 < v3)) (sel (decide (0 ≤ IntKind.i64.wrap ((IntKind.u64.wrap
 (IntKind.i64.wrap (v2 + v3))).fdiv (2 ^ min (Int.toNat 1) 64)))) (sel (decide (IntKind.i64.wrap ((IntKind.u64.wrap (IntKind.i64.wrap (v2 + v3))).fdiv (2 ^ min (Int.toNat 1) 64)) < Int.ofNat v0.length)) (ocall (G31 k ((((v0.getD (IntKind.i64.wrap ((IntKind.u64.wrap (IntKind.i64.wrap (v2 + v3))).fdiv
 (2 ^ min (Int.toNat 1) 64))).toNat ((0, [], ()), 0, ())).1.1, (v0.getD (IntKind.i64.wrap ((IntKind.u64.wrap (IntKind.i64.wrap (v2 + v3))).fdiv (2 ^ min (Int.toNat 1) 64))).toNat ((0, [], ()), 0, ())).1.2.1, ()), (v0.getD (IntKind.i64.wrap ((IntKind.u64.wrap
 (IntKind.i64.wrap (v2 + v3))).fdiv (2 ^ min (Int.toNat 1) 64))).toNat ((0, [], ()), 0, ())).2.1, ()), ((v4, v5, ()), v6, ()), ())) fun r => sel (decide (r.1 < 0)) (G7000004_3 k j (v0, (), v1, IntKind.i64.wrap (IntKind.i64.wrap
 ((IntKind.u64.wrap (IntKind.i64.wrap (v2 + v3))).fdiv (2 ^ min (Int.toNat 1) 64)) + 1), v3, v4, v5, v6, ())) (G7000004_3 k j (v0, (), v1, v2, IntKind.i64.wrap ((IntKind.u64.wrap (IntKind.i64.wrap (v2 + v3))).fdiv (2 ^ min (Int.toNat 1) 64)), v4, v5, v6, ()))) none) none)
 (some (v0, (), v1, v2, v4, v5, v6, ())) := by kernel_rfl
noncomputable def G7000004 (k : Nat) (v : List ((Int × List UInt8 × Unit) × Int × Unit) × ((Int × List UInt8 × Unit) × Int × Unit) × Unit × Unit) : Option (Int × Bool × Unit) := F7000004 k v
theorem G7000004_eq (k : Nat) (v0 : List ((Int × List UInt8 × Unit) × Int × Unit)) (v1 : Int) (v2 : List UInt8) (v3 : Int) : G7000004 k (v0, ((v1, v2, ()), v3, ()), (), ()) = ocall (G7000004_3 k k (v0, (), Int.ofNat v0.length, 0, Int.ofNat v0.length, v1, v2,
 v3, ())) fun e => sel (decide (e.2.2.2.1 < e.2.2.1)) (sel (decide (0 ≤ e.2.2.2.1)) (sel (decide (e.2.2.2.1 < Int.ofNat e.1.length)) (ocall (G31 k ((((e.1.getD e.2.2.2.1.toNat ((0, [], ()), 0, ())).1.1, (e.1.getD e.2.2.2.1.toNat ((0, [], ()), 0, ())).1.2.1,
 ()), (e.1.getD e.2.2.2.1.toNat ((0, [], ()), 0, ())).2.1, ()), ((e.2.2.2.2.1, e.2.2.2.2.2.1, ()), e.2.2.2.2.2.2.1, ()), ())) fun r => some (e.2.2.2.1, decide (r.1 = 0), ())) none) none) (some (e.2.2.2.1, false, ())) := by
 kernel_rfl
noncomputable def G29 (k : Nat) (v : ((Int × List UInt8 × Unit) × Int × Unit) × Int × Int × List (List ((Int × List UInt8 × Unit) × Int × Unit)) × List (List ((Int × List UInt8 × Unit) × Int × Unit)) × Unit) : Option (Int × Int × List (List ((Int × List UInt8 × Unit) × Int × Unit)) × List
 (List ((Int × List UInt8 × Unit) × Int × Unit)) × Unit) := F29 k v
theorem G29_eq (k : Nat) (v0 : Int) (v1 : List UInt8) (v2 v3 v4 : Int) (v5 v6 : List (List ((Int × List UInt8 × Unit) × Int × Unit))) : G29 k (((v0, v1, ()), v2, ()), v3, v4, v5, v6, ()) = ocall (G28 k (v2, v3, v4, pad 64 v5, pad 64 v6, ())) fun r => esel r (fun v
 => none) fun e => esel e (fun v => ocall (G7000004 k ((pad 64 v.2.2.2.1).getD v.1 [], ((v0, v1, ()), v2, ()), (), ())) fun r => ocall (G35 k ((pad 64 v.2.2.2.1).getD v.1 [])) fun r_1 => ocall (G44 k (r_1.1, r.1, [((v0, v1, ()), v2, ())], ()))
 fun r => some (v.2.1, v.2.2.1, pad 64 ((pad 64 v.2.2.2.1).set v.1 r.1), pad 64 v.2.2.2.2.1, ())) fun e => ocall (G7000004 k ((pad 64 e.2.2.2.2.1).getD e.1 [], ((v0, v1, ()), v2, ()), (), ())) fun r => ocall (G35 k ((pad 64 e.2.2.2.2.1).getD e.1 [])) fun r_1 =>
 ocall (G44 k (r_1.1, r.1, [((v0, v1, ()), v2, ())], ())) fun r => some (e.2.1, e.2.2.1, pad 64 e.2.2.2.1, pad 64 ((pad 64 e.2.2.2.2.1).set e.1 r.1), ()) := by kernel_rfl
noncomputable def G15 (k : Nat) (v : (Int × Int × List (List ((Int × List UInt8 × Unit) × Int × Unit)) × List (List ((Int × List UInt8 × Unit) × Int × Unit)) × Unit) × (Int × List UInt8 × Unit) × Int × Unit) : Option ((Int × Int × List (List ((Int × List UInt8 × Unit) × Int × Unit)) × List
 (List ((Int × List UInt8 × Unit) × Int × Unit)) × Unit) × Int × Unit) := F15 k v
theorem G15_eq (k : Nat) (v0 v1 : Int) (v2 v3 : List (List ((Int × List UInt8 × Unit) × Int × Unit))) (v4 : Int) (v5 : List UInt8) (v6 : Int) : G15 k ((v0, v1, v2, v3, ()), (v4, v5, ()), v6, ()) = ocall (G17 k ((v0, v1, pad 64 v2, pad 64 v3, ()), ())) fun r
 => sel (!r.1) (some ((v0, v1, pad 64 v2, pad 64 v3, ()), 1, ())) (ocall (G14 k ((v0, v1, pad 64 v2, pad 64 v3, ()), (v4, v5, ()), ())) fun r => sel r.2.1 (some ((v0, v1, pad 64 v2, pad 64 v3, ()), 6, ())) (sel (decide (v6 ≤ v0)) (some ((v0, v1,
 pad 64 v2, pad 64 v3, ()), 1, ())) (ocall (G28 k (v6, v0, v1, pad 64 v2, pad 64 v3, ())) fun r => esel r (fun v => some ((v.1, v.2.1, pad 64 v.2.2.1, pad 64 v.2.2.2.1, ()), 9, ())) fun e => esel e (fun v => ocall (G24 k ((v.2.1, v.2.2.1, pad 64 v.2.2.2.1, pad
 64 v.2.2.2.2.1, ()), ())) fun r => sel (decide (Int.ofNat r.1.length = v.2.2.1)) (some ((v.2.1, v.2.2.1, pad 64 v.2.2.2.1, pad 64 v.2.2.2.2.1, ()), 7, ())) (ocall (G29 k (((v4, v5, ()), v6, ()), v.2.1, v.2.2.1, pad 64 v.2.2.2.1, pad 64 v.2.2.2.2.1,
 ())) fun r => some ((r.1, r.2.1, pad 64 r.2.2.1, pad 64 r.2.2.2.1, ()), 0, ()))) fun e => ocall (G24 k ((e.2.1, e.2.2.1, pad 64 e.2.2.2.1, pad 64 e.2.2.2.2.1, ()), ())) fun r => sel (decide (Int.ofNat r.1.length = e.2.2.1)) (some ((e.2.1, e.2.2.1, pad 64
 e.2.2.2.1, pad 64 e.2.2.2.2.1, ()), 7, ())) (ocall (G29 k (((v4, v5, ()), v6, ()), e.2.1, e.2.2.1, pad 64 e.2.2.2.1, pad 64 e.2.2.2.2.1, ())) fun r => some ((r.1, r.2.1, pad 64 r.2.2.1, pad 64 r.2.2.2.1, ()), 0, ()))))) := by kernel_rfl
noncomputable def G25_5 (k : Nat) (j : Nat) (v : Nat × List ((Int × List UInt8 × Unit) × Int × Unit) × Int × Int × Int × Int × List (List ((Int × List UInt8 × Unit) × Int × Unit)) × List (List ((Int × List UInt8 × Unit) × Int × Unit)) × Unit) : Option (Nat × Int × Int × List (List ((Int ×
 List UInt8 × Unit) × Int × Unit)) × List (List ((Int × List UInt8 × Unit) × Int × Unit)) × Unit) := F25_5 k j v
theorem G25_5_eq (k : Nat) (j : Nat) (v0 : Nat) (v1 : List ((Int × List UInt8 × Unit) × Int × Unit)) (v2 v3 v4 v5 : Int) (v6 v7 : List (List ((Int × List UInt8 × Unit) × Int × Unit))) : G25_5 k (j + 1) (v0, v1, v2, v3, v4, v5, v6, v7, ()) = sel (decide (v3 < v2)) (sel (decide (0 ≤ v3))
 (sel (decide (v3 < Int.ofNat v1.length)) (ocall (G7000000 k ((v1.getD v3.toNat ((0, [], ()), 0, ())).2.1, v4, v5, pad 64 v6, pad 64 v7, ())) fun r => ocall (G35 k ((pad 64 r.2.2.2.1).getD r.1 [])) fun r_1 => sel (decide ((r_1.1.length + 1) * 32 ≤ 140737488355328)) (G25_5 k j
 (v0, v1, v2, IntKind.i64.wrap (v3 + 1), r.2.1, r.2.2.1, pad 64 ((pad 64 r.2.2.2.1).set r.1 (r_1.1 ++ [(((v1.getD v3.toNat ((0, [], ()), 0, ())).1.1, (v1.getD v3.toNat ((0, [], ()), 0, ())).1.2.1, ()), (v1.getD v3.toNat ((0, [], ()), 0,
 ())).2.1, ())])), pad 64 r.2.2.2.2.1, ())) none) none) none) (some (v0, v4, v5, pad 64 v6, pad 64 v7, ())) := by kernel_rfl
noncomputable def G25 (k : Nat) (v : Int × Int × List (List ((Int × List UInt8 × Unit) × Int × Unit)) × List (List ((Int × List UInt8 × Unit) × Int × Unit)) × Unit) : Option (List ((Int × List UInt8 × Unit) × Int × Unit) × Int × Int × List (List ((Int × List UInt8 × Unit) × Int × Unit)) ×
 List (List ((Int × List UInt8 × Unit) × Int × Unit)) × Unit) := F25 k v
theorem G25_eq (k : Nat) (v0 v1 : Int) (v2 v3 : List (List ((Int × List UInt8 × Unit) × Int × Unit))) : G25 k (v0, v1, v2, v3, ()) = ocall (G38 k (IntKind.u64.wrap (v0 + 1), ())) fun r => sel (fltEq r.1.2 0) (ocall (G7000001 k (IntKind.u64.wrap (v0 + 1), IntKind.u64.wrap (v0 + 1),
 v1, pad 64 v2, pad 64 v3, ())) fun r => ocall (G25_5 k k (r.1, (pad 64 r.2.2.2.2.1).getD r.1 [], Int.ofNat ((pad 64 r.2.2.2.2.1).getD r.1 []).length, 0, r.2.1, r.2.2.1, pad 64 r.2.2.2.1, pad 64 r.2.2.2.2.1, ())) fun e => ocall (G7000000 k (e.2.1, e.2.1, e.2.2.1, pad 64 e.2.2.2.1, pad
 64 ((pad 64 e.2.2.2.2.1).set e.1 []), ())) fun r => some ((pad 64 r.2.2.2.1).getD r.1 [], r.2.1, r.2.2.1, pad 64 ((pad 64 r.2.2.2.1).set r.1 []), pad 64 r.2.2.2.2.1, ())) (ocall (G7000000 k (IntKind.u64.wrap (v0 + 1), IntKind.u64.wrap (v0 + 1), v1, pad 64 v2, pad 64 v3, ()))
 fun r => some ((pad 64 r.2.2.2.1).getD r.1 [], r.2.1, r.2.2.1, pad 64 ((pad 64 r.2.2.2.1).set r.1 []), pad 64 r.2.2.2.2.1, ())) := by kernel_rfl
noncomputable def G8_g0 (k : Nat) (j : Nat) (v : List ((Int × List UInt8 × Unit) × Int × Unit) × Int × Int × Int × Int × List (List ((Int × List UInt8 × Unit) × Int × Unit)) × List (List ((Int × List UInt8 × Unit) × Int × Unit)) × Int × Int × List (List ((Int × List UInt8 × Unit) × Int ×
 Unit)) × List (List ((Int × List UInt8 × Unit) × Int × Unit)) × Unit) : Option (List ((Int × List UInt8 × Unit) × Int × Unit) × Int × Int × Int × List (List ((Int × List UInt8 × Unit) × Int × Unit)) × List (List ((Int × List UInt8 × Unit) × Int × Unit)) × Unit) := F8_g0 k j v
theorem G8_g0_eq (k : Nat) (j : Nat) (v0 : List ((Int × List UInt8 × Unit) × Int × Unit)) (v1 v2 v3 v4 : Int) (v5 v6 : List (List ((Int × List UInt8 × Unit) × Int × Unit))) (v7 v8 : Int) (v9 v10 : List (List ((Int × List UInt8 × Unit) × Int × Unit))) : G8_g0 k (j + 1) (v0, v1, v2, v3, v4, v5,
 v6, v7, v8, v9, v10, ()) = sel (decide (0 < v2)) (sel (decide (v3 < v1)) (ocall (G25 k (v3, v4, pad 64 v5, pad 64 v6, ())) fun r => sel (decide ((v0.length + r.1.length) * 32 ≤ 140737488355328)) (G8_g0 k j (v0 ++ r.1, v1, IntKind.i64.wrap (v2 - Int.ofNat r.1.length), r.2.1, r.2.2.1,
 pad 64 r.2.2.2.1, pad 64 r.2.2.2.2.1, v7, v8, pad 64 v9, pad 64 v10, ())) none) (some (v0, 0, v1, v4, pad 64 v5, pad 64 v6, ()))) (some (v0, 0, v1, v4, pad 64 v5, pad 64 v6, ())) := by kernel_rfl
noncomputable def G8 (k : Nat) (v : (Int × Int × List (List ((Int × List UInt8 × Unit) × Int × Unit)) × List (List ((Int × List UInt8 × Unit) × Int × Unit)) × Unit) × Int × Unit) : Option ((Int × Int × List (List ((Int × List UInt8 × Unit) × Int × Unit)) × List (List ((Int × List UInt8 ×
 Unit) × Int × Unit)) × Unit) × List ((Int × List UInt8 × Unit) × Int × Unit) × Int × Unit) := F8 k v
theorem G8_eq (k : Nat) (v0 v1 : Int) (v2 v3 : List (List ((Int × List UInt8 × Unit) × Int × Unit))) (v4 : Int) : G8 k ((v0, v1, v2, v3, ()), v4, ()) = ocall (G17 k ((v0, v1, pad 64 v2, pad 64 v3, ()), ())) fun r => sel (!r.1) (some ((v0, v1, pad 64 v2, pad 64 v3,
 ()), [], 1, ())) (sel (decide (IntKind.u64.wrap (18446744073709551615 - v0) < v4)) (some ((v0, v1, pad 64 v2, pad 64 v3, ()), [], 10, ())) (ocall (G24 k ((v0, v1, pad 64 v2, pad 64 v3, ()), ())) fun r => sel (decide (0 < Int.ofNat r.1.length)) (sel
 (decide (v0 < IntKind.u64.wrap (v0 + v4))) (ocall (G25 k (v0, v1, pad 64 v2, pad 64 v3, ())) fun r_1 => sel (decide (r_1.1.length * 32 ≤ 140737488355328)) (ocall (G8_g0 k k (r_1.1, IntKind.u64.wrap (v0 + v4), IntKind.i64.wrap (Int.ofNat r.1.length - Int.ofNat r_1.1.length), r_1.2.1,
 r_1.2.2.1, pad 64 r_1.2.2.2.1, pad 64 r_1.2.2.2.2.1, 0, 0, [[], [], [], [], [], [], [], [], [], [], [], [], [], [], [], [], [], [], [], [], [], [], [], [], [], [], [], [], [], [], [], [], [], [], [], [], [], [], [], [], [], [], [], [], [], [], [], [], [], [], [], [], [], [], [], [], [], [], [], [],
 [], [], [], []], [[], [], [], [], [], [], [], [], [], [], [], [], [], [], [], [], [], [], [], [], [], [], [], [], [], [], [], [], [], [], [], [], [], [], [], [], [], [], [], [], [], [], [], [], [], [], [], [], [], [], [], [], [], [], [], [], [], [], [], [], [], [], [], []], ())) fun e =>
 some ((e.2.2.1, e.2.2.2.1, pad 64 e.2.2.2.2.1, pad 64 e.2.2.2.2.2.1, ()), e.1, e.2.1, ())) none) (some ((IntKind.u64.wrap (v0 + v4), v1, pad 64 v2, pad 64 v3, ()), [], 0, ()))) (some ((IntKind.u64.wrap (v0 + v4), v1, pad 64 v2, pad 64 v3, ()), [], 0,
 ())))) := by kernel_rfl
noncomputable def G6 (k : Nat) (v : Unit) : Option (Bool × Unit) := F6 k v
theorem G6_eq (k : Nat) : G6 k () = ocall (G12 k (60, 2, ())) fun r => ocall (G15 k ((r.1.1, r.1.2.1, pad 64 r.1.2.2.1, pad 64 r.1.2.2.2.1, ()), (1, [], ()), 64, ())) fun r_1 => ocall (G8 k ((r_1.1.1, r_1.1.2.1, pad 64 r_1.1.2.2.1, pad 64 r_1.1.2.2.2.1,
 ()), 3, ())) fun r_2 => ocall (G8 k ((r_2.1.1, r_2.1.2.1, pad 64 r_2.1.2.2.1, pad 64 r_2.1.2.2.2.1, ()), 1, ())) fun r_3 => ocall (G15 k ((r_1.1.1, r_1.1.2.1, pad 64 r_1.1.2.2.1, pad 64 r_1.1.2.2.2.1, ()), (1, [], ()), 99, ())) fun r_4 => ocall
 (G15 k ((r_1.1.1, r_1.1.2.1, pad 64 r_1.1.2.2.1, pad 64 r_1.1.2.2.2.1, ()), (2, [], ()), 4096, ())) fun r_5 => sel (decide (r.2.1 = 0)) (sel (decide (r_1.2.1 = 0)) (sel (decide (r_2.2.2.1 = 0)) (sel (decide (r_3.2.2.1 = 0)) (sel (decide (r_4.2.1 = 6)) (sel (decide (r_5.2.1 =
 9)) (sel (decide (Int.ofNat ((pad 64 r_1.1.2.2.2.1).getD (Int.toNat 1) []).length = 1)) (sel (decide (Int.ofNat r_2.2.1.length = 0)) (sel (decide (r_2.1.1 = 63)) (sel (decide (Int.ofNat r_3.2.1.length = 1)) (sel (decide (0 < Int.ofNat r_3.2.1.length)) (sel (decide (Int.toNat 0 < r_3.2.1.length))
 (sel (sameI (r_3.2.1.getD (Int.toNat 0) ((0, [], ()), 0, ())).1.1 1 && (sameS (r_3.2.1.getD (Int.toNat 0) ((0, [], ()), 0, ())).1.2.1 [] && true)) (sel (decide (0 < Int.ofNat r_3.2.1.length)) (sel (decide (Int.toNat 0 < r_3.2.1.length)) (sel (decide ((r_3.2.1.getD
 (Int.toNat 0) ((0, [], ()), 0, ())).2.1 = 64)) (sel (decide (r_3.1.1 = 64)) (sel (decide (Int.ofNat ((pad 64 r_3.1.2.2.2.1).getD (Int.toNat 1) []).length = 0)) (ocall (G17 k ((r_3.1.1, r_3.1.2.1, pad 64 r_3.1.2.2.1, pad 64 r_3.1.2.2.2.1, ()), ())) fun r => some (r.1,
 ())) (some (false, ()))) (some (false, ()))) (some (false, ()))) none) none) (some (false, ()))) none) none) (some (false, ()))) (some (false, ()))) (some (false, ()))) (some (false, ()))) (some (false, ()))) (some
 (false, ()))) (some (false, ()))) (some (false, ()))) (some (false, ()))) (some (false, ())) := by kernel_rfl
noncomputable def G13 (k : Nat) (v : (Int × List UInt8 × Unit) × Unit) : Option (Bool × Unit) := F13 k v
theorem G13_eq (k : Nat) (v0 : Int) (v1 : List UInt8) : G13 k ((v0, v1, ()), ()) = some (decide (Int.ofNat v1.length ≤ 300), ()) := by kernel_rfl
noncomputable def G7_9 (k : Nat) (j : Nat) (v : (Int × Int × List (List ((Int × List UInt8 × Unit) × Int × Unit)) × List (List ((Int × List UInt8 × Unit) × Int × Unit)) × Unit) × Int × Int × Int × Unit) : Option ((Int × Int × List (List ((Int × List UInt8 × Unit) × Int × Unit)) × List (List
 ((Int × List UInt8 × Unit) × Int × Unit)) × Unit) × Int × Int × Unit ⊕ Bool × Unit) := F7_9 k j v
theorem G7_9_eq (k : Nat) (j : Nat) (v0 v1 : Int) (v2 v3 : List (List ((Int × List UInt8 × Unit) × Int × Unit))) (v4 v5 v6 : Int) : G7_9 k (j + 1) ((v0, v1, v2, v3, ()), v4, v5, v6, ()) = sel (decide (0 ≤ v5)) (sel (decide (v5 < Int.ofNat 64)) (sel (decide (v6 < Int.ofNat ((pad 64
 v2).getD v5.toNat []).length)) (sel (decide (0 ≤ v5)) (sel (decide (v5 < Int.ofNat 64)) (sel (decide (0 ≤ v6)) (sel (decide (v6 < Int.ofNat ((pad 64 v2).getD v5.toNat []).length)) (ocall (G13 k (((((pad 64 v2).getD v5.toNat []).getD v6.toNat ((0, [], ()), 0, ())).1.1, (((pad 64
 v2).getD v5.toNat []).getD v6.toNat ((0, [], ()), 0, ())).1.2.1, ()), ())) fun r => sel (!r.1) (some (Sum.inr (false, ()))) (G7_9 k j ((v0, v1, v2, v3, ()), v4, v5, IntKind.i64.wrap (v6 + 1), ()))) none) none) none) none) (some (Sum.inl ((v0,
 v1, v2, v3, ()), v4, v5, ())))) none) none := by kernel_rfl
noncomputable def G7_14 (k : Nat) (j : Nat) (v : (Int × Int × List (List ((Int × List UInt8 × Unit) × Int × Unit)) × List (List ((Int × List UInt8 × Unit) × Int × Unit)) × Unit) × Int × Int × Int × Unit) : Option ((Int × Int × List (List ((Int × List UInt8 × Unit) × Int × Unit)) × List (List
 ((Int × List UInt8 × Unit) × Int × Unit)) × Unit) × Int × Int × Unit ⊕ Bool × Unit) := F7_14 k j v
theorem G7_14_eq (k : Nat) (j : Nat) (v0 v1 : Int) (v2 v3 : List (List ((Int × List UInt8 × Unit) × Int × Unit))) (v4 v5 v6 : Int) : G7_14 k (j + 1) ((v0, v1, v2, v3, ()), v4, v5, v6, ()) = sel (decide (0 ≤ v5)) (sel (decide (v5 < Int.ofNat 64)) (sel (decide (v6 < Int.ofNat ((pad
 64 v3).getD v5.toNat []).length)) (sel (decide (0 ≤ v5)) (sel (decide (v5 < Int.ofNat 64)) (sel (decide (0 ≤ v6)) (sel (decide (v6 < Int.ofNat ((pad 64 v3).getD v5.toNat []).length)) (ocall (G13 k (((((pad 64 v3).getD v5.toNat []).getD v6.toNat ((0, [], ()), 0, ())).1.1, (((pad 64
 v3).getD v5.toNat []).getD v6.toNat ((0, [], ()), 0, ())).1.2.1, ()), ())) fun r => sel (!r.1) (some (Sum.inr (false, ()))) (G7_14 k j ((v0, v1, v2, v3, ()), v4, v5, IntKind.i64.wrap (v6 + 1), ()))) none) none) none) none) (some (Sum.inl ((v0,
 v1, v2, v3, ()), v4, v5, ())))) none) none := by kernel_rfl
noncomputable def G7_3 (k : Nat) (j : Nat) (v : (Int × Int × List (List ((Int × List UInt8 × Unit) × Int × Unit)) × List (List ((Int × List UInt8 × Unit) × Int × Unit)) × Unit) × Int × Int × Unit) : Option (Int × Unit ⊕ Bool × Unit) := F7_3 k j v
theorem G7_3_eq (k : Nat) (j : Nat) (v0 v1 : Int) (v2 v3 : List (List ((Int × List UInt8 × Unit) × Int × Unit))) (v4 v5 : Int) : G7_3 k (j + 1) ((v0, v1, v2, v3, ()), v4, v5, ()) = sel (decide (v5 < 64)) (sel (decide (0 ≤ v5)) (sel (decide (v5 < Int.ofNat 64)) (sel (decide (60 <
 Int.ofNat ((pad 64 v2).getD v5.toNat []).length)) (some (Sum.inr (false, ()))) (sel (decide (0 ≤ v5)) (sel (decide (v5 < Int.ofNat 64)) (sel (decide (60 < Int.ofNat ((pad 64 v3).getD v5.toNat []).length)) (some (Sum.inr (false, ()))) (sel (decide (0 ≤ v5)) (sel (decide (v5 <
 Int.ofNat 64)) (sel (decide (0 ≤ v5)) (sel (decide (v5 < Int.ofNat 64)) (ocall (G7_9 k k ((v0, v1, v2, v3, ()), IntKind.i64.wrap (IntKind.i64.wrap (v4 + Int.ofNat ((pad 64 v2).getD v5.toNat []).length) + Int.ofNat ((pad 64 v3).getD v5.toNat []).length), v5, 0, ())) fun e => esel e
 (fun v => ocall (G7_14 k k (v.1, v.2.1, v.2.2.1, 0, ())) fun e => esel e (fun v => G7_3 k j (v.1, v.2.1, IntKind.i64.wrap (v.2.2.1 + 1), ())) fun e => some (Sum.inr (e.1, ()))) fun e => some (Sum.inr (e.1, ()))) none) none) none) none)) none) none)) none) none) (some
 (Sum.inl (v4, ()))) := by kernel_rfl
noncomputable def G7 (k : Nat) (v : (Int × Int × List (List ((Int × List UInt8 × Unit) × Int × Unit)) × List (List ((Int × List UInt8 × Unit) × Int × Unit)) × Unit) × Unit) : Option (Bool × Unit) := F7 k v
theorem G7_eq (k : Nat) (v0 v1 : Int) (v2 v3 : List (List ((Int × List UInt8 × Unit) × Int × Unit))) : G7 k ((v0, v1, v2, v3, ()), ()) = ocall (G7_3 k k ((v0, v1, pad 64 v2, pad 64 v3, ()), 0, 0, ())) fun e => esel e (fun v => some (decide (v.1 ≤ 300), ()))
 fun e => some (e.1, ()) := by kernel_rfl
noncomputable def G70 (k : Nat) (v : (Int × List UInt8 × Unit) × (Int × List UInt8 × Unit) × Unit) : Option (Int × Unit) := F70 k v
theorem G70_eq (k : Nat) (v0 : Int) (v1 : List UInt8) (v2 : Int) (v3 : List UInt8) : G70 k ((v0, v1, ()), (v2, v3, ()), ()) = sel (sameI v0 v2 && (sameS v1 v3 && true)) (some (0, ())) (sel (decide (v0 < v2)) (some ((-1 : Int), ())) (sel (decide (v0 = v2)) (sel
 (Go.Op.bytesLess v1 v3) (some ((-1 : Int), ())) (some (1, ()))) (some (1, ())))) := by kernel_rfl
noncomputable def G50 (k : Nat) (v : ((Int × List UInt8 × Unit) × Int × Unit) × ((Int × List UInt8 × Unit) × Int × Unit) × Unit) : Option (Bool × Unit) := F50 k v
theorem G50_eq (k : Nat) (v0 : Int) (v1 : List UInt8) (v2 v3 : Int) (v4 : List UInt8) (v5 : Int) : G50 k (((v0, v1, ()), v2, ()), ((v3, v4, ()), v5, ()), ()) = sel (decide (v2 < v5)) (some (true, ())) (sel (decide (v2 = v5)) (ocall (G70 k ((v0, v1,
 ()), (v3, v4, ()), ())) fun r => some (decide (r.1 < 0), ())) (some (false, ()))) := by kernel_rfl
noncomputable def G33_3 (k : Nat) (j : Nat) (v : List ((Int × List UInt8 × Unit) × Int × Unit) × List ((Int × List UInt8 × Unit) × Int × Unit) × Int × Int × List UInt8 × Int × Unit) : Option (List ((Int × List UInt8 × Unit) × Int × Unit) × List ((Int × List UInt8 × Unit) × Int × Unit) × Int
 × Int × List UInt8 × Int × Unit) := F33_3 k j v
theorem G33_3_eq (k : Nat) (j : Nat) (v0 v1 : List ((Int × List UInt8 × Unit) × Int × Unit)) (v2 v3 : Int) (v4 : List UInt8) (v5 : Int) : G33_3 k (j + 1) (v0, v1, v2, v3, v4, v5, ()) = sel (decide (v2 < Int.ofNat v0.length)) (sel (decide (0 ≤ v2)) (sel (decide (v2 < Int.ofNat v0.length))
 (ocall (G50 k (((v3, v4, ()), v5, ()), (((v0.getD v2.toNat ((0, [], ()), 0, ())).1.1, (v0.getD v2.toNat ((0, [], ()), 0, ())).1.2.1, ()), (v0.getD v2.toNat ((0, [], ()), 0, ())).2.1, ()), ())) fun r => sel (!r.1)
 (sel (decide (0 ≤ v2)) (sel (decide (v2 < Int.ofNat v0.length)) (sel (decide ((v1.length + 1) * 32 ≤ 140737488355328)) (G33_3 k j (v0, v1 ++ [(((v0.getD v2.toNat ((0, [], ()), 0, ())).1.1, (v0.getD v2.toNat ((0, [], ()), 0, ())).1.2.1, ()), (v0.getD v2.toNat
 ((0, [], ()), 0, ())).2.1, ())], IntKind.i64.wrap (v2 + 1), v3, v4, v5, ())) none) none) none) (some (v0, v1, v2, v3, v4, v5, ()))) none) none) (some (v0, v1, v2, v3, v4, v5, ())) := by kernel_rfl
noncomputable def G33 (k : Nat) (v : List ((Int × List UInt8 × Unit) × Int × Unit) × ((Int × List UInt8 × Unit) × Int × Unit) × Unit) : Option (List ((Int × List UInt8 × Unit) × Int × Unit) × Unit) := F33 k v
theorem G33_eq (k : Nat) (v0 : List ((Int × List UInt8 × Unit) × Int × Unit)) (v1 : Int) (v2 : List UInt8) (v3 : Int) : G33 k (v0, ((v1, v2, ()), v3, ()), ()) = ocall (G33_3 k k (v0, [], 0, v1, v2, v3, ())) fun e => sel (decide ((e.2.1.length + 1) * 32 ≤
 140737488355328)) (sel (decide (0 ≤ e.2.2.1)) (sel (decide (e.2.2.1 ≤ Int.ofNat e.1.length)) (sel (decide (Int.ofNat e.1.length ≤ Int.ofNat e.1.length)) (sel (decide (Int.ofNat e.1.length ≤ Int.ofNat e.1.length)) (sel (decide (((e.2.1 ++ [((e.2.2.2.1, e.2.2.2.2.1, ()), e.2.2.2.2.2.1,
 ())]).length + (List.drop e.2.2.1.toNat (List.take (Int.ofNat e.1.length).toNat e.1)).length) * 32 ≤ 140737488355328)) (some (e.2.1 ++ [((e.2.2.2.1, e.2.2.2.2.1, ()), e.2.2.2.2.2.1, ())] ++ List.drop e.2.2.1.toNat (List.take (Int.ofNat e.1.length).toNat e.1), ()))
 none) none) none) none) none) none := by kernel_rfl
noncomputable def G19_6 (k : Nat) (j : Nat) (v : (Int × Int × List (List ((Int × List UInt8 × Unit) × Int × Unit)) × List (List ((Int × List UInt8 × Unit) × Int × Unit)) × Unit) × List ((Int × List UInt8 × Unit) × Int × Unit) × Int × Int × Unit) : Option ((Int × Int × List (List ((Int × List
 UInt8 × Unit) × Int × Unit)) × List (List ((Int × List UInt8 × Unit) × Int × Unit)) × Unit) × List ((Int × List UInt8 × Unit) × Int × Unit) × Int × Unit) := F19_6 k j v
theorem G19_6_eq (k : Nat) (j : Nat) (v0 v1 : Int) (v2 v3 : List (List ((Int × List UInt8 × Unit) × Int × Unit))) (v4 : List ((Int × List UInt8 × Unit) × Int × Unit)) (v5 v6 : Int) : G19_6 k (j + 1) ((v0, v1, v2, v3, ()), v4, v5, v6, ()) = sel (decide (0 ≤ v5)) (sel (decide (v5 <
 Int.ofNat 64)) (sel (decide (v6 < Int.ofNat ((pad 64 v2).getD v5.toNat []).length)) (sel (decide (0 ≤ v5)) (sel (decide (v5 < Int.ofNat 64)) (sel (decide (0 ≤ v6)) (sel (decide (v6 < Int.ofNat ((pad 64 v2).getD v5.toNat []).length)) (ocall (G33 k (v4, (((((pad 64 v2).getD v5.toNat []).getD v6.toNat
 ((0, [], ()), 0, ())).1.1, (((pad 64 v2).getD v5.toNat []).getD v6.toNat ((0, [], ()), 0, ())).1.2.1, ()), (((pad 64 v2).getD v5.toNat []).getD v6.toNat ((0, [], ()), 0, ())).2.1, ()), ())) fun r => G19_6 k j ((v0, v1, v2, v3,
 ()), r.1, v5, IntKind.i64.wrap (v6 + 1), ())) none) none) none) none) (some ((v0, v1, v2, v3, ()), v4, v5, ()))) none) none := by kernel_rfl
noncomputable def G19_10 (k : Nat) (j : Nat) (v : (Int × Int × List (List ((Int × List UInt8 × Unit) × Int × Unit)) × List (List ((Int × List UInt8 × Unit) × Int × Unit)) × Unit) × List ((Int × List UInt8 × Unit) × Int × Unit) × Int × Int × Unit) : Option ((Int × Int × List (List ((Int ×
 List UInt8 × Unit) × Int × Unit)) × List (List ((Int × List UInt8 × Unit) × Int × Unit)) × Unit) × List ((Int × List UInt8 × Unit) × Int × Unit) × Int × Unit) := F19_10 k j v
theorem G19_10_eq (k : Nat) (j : Nat) (v0 v1 : Int) (v2 v3 : List (List ((Int × List UInt8 × Unit) × Int × Unit))) (v4 : List ((Int × List UInt8 × Unit) × Int × Unit)) (v5 v6 : Int) : G19_10 k (j + 1) ((v0, v1, v2, v3, ()), v4, v5, v6, ()) = sel (decide (0 ≤ v5)) (sel (decide (v5
 < Int.ofNat 64)) (sel (decide (v6 < Int.ofNat ((pad 64 v3).getD v5.toNat []).length)) (sel (decide (0 ≤ v5)) (sel (decide (v5 < Int.ofNat 64)) (sel (decide (0 ≤ v6)) (sel (decide (v6 < Int.ofNat ((pad 64 v3).getD v5.toNat []).length)) (ocall (G33 k (v4, (((((pad 64 v3).getD v5.toNat []).getD
 v6.toNat ((0, [], ()), 0, ())).1.1, (((pad 64 v3).getD v5.toNat []).getD v6.toNat ((0, [], ()), 0, ())).1.2.1, ()), (((pad 64 v3).getD v5.toNat []).getD v6.toNat ((0, [], ()), 0, ())).2.1, ()), ())) fun r => G19_10 k j ((v0, v1,
 v2, v3, ()), r.1, v5, IntKind.i64.wrap (v6 + 1), ())) none) none) none) none) (some ((v0, v1, v2, v3, ()), v4, v5, ()))) none) none := by kernel_rfl
noncomputable def G19_3 (k : Nat) (j : Nat) (v : (Int × Int × List (List ((Int × List UInt8 × Unit) × Int × Unit)) × List (List ((Int × List UInt8 × Unit) × Int × Unit)) × Unit) × List ((Int × List UInt8 × Unit) × Int × Unit) × Int × Unit) : Option (List ((Int × List UInt8 × Unit) × Int ×
 Unit) × Unit) := F19_3 k j v
theorem G19_3_eq (k : Nat) (j : Nat) (v0 v1 : Int) (v2 v3 : List (List ((Int × List UInt8 × Unit) × Int × Unit))) (v4 : List ((Int × List UInt8 × Unit) × Int × Unit)) (v5 : Int) : G19_3 k (j + 1) ((v0, v1, v2, v3, ()), v4, v5, ()) = sel (decide (v5 < 64)) (ocall (G19_6 k k ((v0,
 v1, v2, v3, ()), v4, v5, 0, ())) fun e => ocall (G19_10 k k (e.1, e.2.1, e.2.2.1, 0, ())) fun e => G19_3 k j (e.1, e.2.1, IntKind.i64.wrap (e.2.2.1 + 1), ())) (some (v4, ())) := by kernel_rfl
noncomputable def G19 (k : Nat) (v : (Int × Int × List (List ((Int × List UInt8 × Unit) × Int × Unit)) × List (List ((Int × List UInt8 × Unit) × Int × Unit)) × Unit) × Unit) : Option (List ((Int × List UInt8 × Unit) × Int × Unit) × Unit) := F19 k v
theorem G19_eq (k : Nat) (v0 v1 : Int) (v2 v3 : List (List ((Int × List UInt8 × Unit) × Int × Unit))) : G19 k ((v0, v1, v2, v3, ()), ()) = ocall (G19_3 k k ((v0, v1, pad 64 v2, pad 64 v3, ()), [], 0, ())) fun e => some (e.1, ()) := by kernel_rfl
end Go.Proofs.Ytjonpmckkmnemaa.G
end
section
set_option maxRecDepth 1000000
set_option linter.unusedVariables false
set_option linter.unusedSimpArgs false
namespace Go.Proofs.Ytjonpmckkmnemaa.G
open Go Go.Proofs.Ytjonpmckkmnemaa Th
noncomputable def G26 (k : Nat) (v : Int × Int × List ((Int × List UInt8 × Unit) × Int × Unit) × Unit) : Option ((Int × Int × List (List ((Int × List UInt8 × Unit) × Int × Unit)) × List (List ((Int × List UInt8 × Unit) × Int × Unit)) × Unit) × Unit) := F26 k v
theorem G26_eq (k : Nat) (v0 v1 : Int) (v2 : List ((Int × List UInt8 × Unit) × Int × Unit)) : G26 k (v0, v1, v2, ()) = sel (decide (0 ≤ v0)) (sel (decide (v0 ≤ 18446744073709551615)) (sel (decide (v2.length ≤ 1000000)) (ocall (Bld26.putAll v0 v2 [[], [], [], [], [], [], [], [], [], [], [],
 [], [], [], [], [], [], [], [], [], [], [], [], [], [], [], [], [], [], [], [], [], [], [], [], [], [], [], [], [], [], [], [], [], [], [], [], [], [], [], [], [], [], [], [], [], [], [], [], [], [], [], [], [], [], [], [], [], [], [], [], [], [], [], [], [], [], [], [], [], [], [], [], [], [], [],
 [], [], [], [], [], [], [], [], [], [], [], [], [], [], [], [], [], [], [], [], [], [], [], [], [], [], [], [], [], [], [], [], [], [], [], [], [], [], [], [], [], []]) fun L => some ((v0, v1, pad 64 (List.take 64 L), pad 64 (List.drop 64 L), ()), ())) none) none) none := by
 kernel_rfl
noncomputable def G27_4 (k : Nat) (j : Nat) (v : List ((Int × List UInt8 × Unit) × Int × Unit) × List ((Int × List UInt8 × Unit) × Int × Unit) × Int × Unit) : Option (Unit ⊕ Bool × Unit) := F27_4 k j v
theorem G27_4_eq (k : Nat) (j : Nat) (v0 v1 : List ((Int × List UInt8 × Unit) × Int × Unit)) (v2 : Int) : G27_4 k (j + 1) (v0, v1, v2, ()) = sel (decide (v2 < Int.ofNat v0.length)) (sel (decide (0 ≤ v2)) (sel (decide (v2 < Int.ofNat v0.length)) (sel (decide (0 ≤ v2)) (sel (decide (v2 <
 Int.ofNat v1.length)) (sel (!(sameI (v0.getD v2.toNat ((0, [], ()), 0, ())).1.1 (v1.getD v2.toNat ((0, [], ()), 0, ())).1.1 && (sameS (v0.getD v2.toNat ((0, [], ()), 0, ())).1.2.1 (v1.getD v2.toNat ((0, [], ()), 0, ())).1.2.1 && true)
 && (sameI (v0.getD v2.toNat ((0, [], ()), 0, ())).2.1 (v1.getD v2.toNat ((0, [], ()), 0, ())).2.1 && true))) (some (Sum.inr (false, ()))) (G27_4 k j (v0, v1, IntKind.i64.wrap (v2 + 1), ()))) none) none) none) none) (some (Sum.inl ())) := by
 kernel_rfl
noncomputable def G27 (k : Nat) (v : List ((Int × List UInt8 × Unit) × Int × Unit) × List ((Int × List UInt8 × Unit) × Int × Unit) × Unit) : Option (Bool × Unit) := F27 k v
theorem G27_eq (k : Nat) (v0 v1 : List ((Int × List UInt8 × Unit) × Int × Unit)) : G27 k (v0, v1, ()) = sel (!decide (Int.ofNat v0.length = Int.ofNat v1.length)) (some (false, ())) (ocall (G27_4 k k (v0, v1, 0, ())) fun e => esel e (fun v => some (true, ())) fun e
 => some (e.1, ())) := by kernel_rfl
noncomputable def G10_2 (k : Nat) (j : Nat) (v : (Int × Int × List (List ((Int × List UInt8 × Unit) × Int × Unit)) × List (List ((Int × List UInt8 × Unit) × Int × Unit)) × Unit) × (Int × Int × List (List ((Int × List UInt8 × Unit) × Int × Unit)) × List (List ((Int × List UInt8 × Unit) × Int
 × Unit)) × Unit) × Int × Unit) : Option ((Int × Int × List (List ((Int × List UInt8 × Unit) × Int × Unit)) × List (List ((Int × List UInt8 × Unit) × Int × Unit)) × Unit) × (Int × Int × List (List ((Int × List UInt8 × Unit) × Int × Unit)) × List (List ((Int × List UInt8 × Unit) × Int ×
 Unit)) × Unit) × Unit ⊕ Bool × Unit) := F10_2 k j v
theorem G10_2_eq (k : Nat) (j : Nat) (v0 v1 : Int) (v2 v3 : List (List ((Int × List UInt8 × Unit) × Int × Unit))) (v4 v5 : Int) (v6 v7 : List (List ((Int × List UInt8 × Unit) × Int × Unit))) (v8 : Int) : G10_2 k (j + 1) ((v0, v1, v2, v3, ()), (v4, v5, v6, v7, ()), v8, ())
 = sel (decide (v8 < 64)) (sel (decide (0 ≤ v8)) (sel (decide (v8 < Int.ofNat 64)) (sel (decide (0 ≤ v8)) (sel (decide (v8 < Int.ofNat 64)) (ocall (G27 k ((pad 64 v2).getD v8.toNat [], (pad 64 v6).getD v8.toNat [], ())) fun r => sel (!r.1) (some (Sum.inr (false, ()))) (sel (decide (0
 ≤ v8)) (sel (decide (v8 < Int.ofNat 64)) (sel (decide (0 ≤ v8)) (sel (decide (v8 < Int.ofNat 64)) (ocall (G27 k ((pad 64 v3).getD v8.toNat [], (pad 64 v7).getD v8.toNat [], ())) fun r => sel (!r.1) (some (Sum.inr (false, ()))) (G10_2 k j ((v0, v1, v2, v3, ()), (v4, v5, v6,
 v7, ()), IntKind.i64.wrap (v8 + 1), ()))) none) none) none) none)) none) none) none) none) (some (Sum.inl ((v0, v1, v2, v3, ()), (v4, v5, v6, v7, ()), ()))) := by kernel_rfl
noncomputable def G10 (k : Nat) (v : (Int × Int × List (List ((Int × List UInt8 × Unit) × Int × Unit)) × List (List ((Int × List UInt8 × Unit) × Int × Unit)) × Unit) × (Int × Int × List (List ((Int × List UInt8 × Unit) × Int × Unit)) × List (List ((Int × List UInt8 × Unit) × Int × Unit)) ×
 Unit) × Unit) : Option (Bool × Unit) := F10 k v
theorem G10_eq (k : Nat) (v0 v1 : Int) (v2 v3 : List (List ((Int × List UInt8 × Unit) × Int × Unit))) (v4 v5 : Int) (v6 v7 : List (List ((Int × List UInt8 × Unit) × Int × Unit))) : G10 k ((v0, v1, v2, v3, ()), (v4, v5, v6, v7, ()), ()) = ocall (G10_2 k k ((v0, v1, pad 64
 v2, pad 64 v3, ()), (v4, v5, pad 64 v6, pad 64 v7, ()), 0, ())) fun e => esel e (fun v => sel (decide (v.1.1 = v.2.1.1)) (some (decide (v.1.2.1 = v.2.1.2.1), ())) (some (false, ()))) fun e => some (e.1, ()) := by kernel_rfl
noncomputable def G18_10 (k : Nat) (j : Nat) (v : (Int × Int × List (List ((Int × List UInt8 × Unit) × Int × Unit)) × List (List ((Int × List UInt8 × Unit) × Int × Unit)) × Unit) × List ((Int × List UInt8 × Unit) × Int × Unit) × Int × Int × Unit) : Option ((Int × Int × List (List ((Int ×
 List UInt8 × Unit) × Int × Unit)) × List (List ((Int × List UInt8 × Unit) × Int × Unit)) × Unit) × List ((Int × List UInt8 × Unit) × Int × Unit) × Int × Unit ⊕ Bool × Unit) := F18_10 k j v
theorem G18_10_eq (k : Nat) (j : Nat) (v0 v1 : Int) (v2 v3 : List (List ((Int × List UInt8 × Unit) × Int × Unit))) (v4 : List ((Int × List UInt8 × Unit) × Int × Unit)) (v5 v6 : Int) : G18_10 k (j + 1) ((v0, v1, v2, v3, ()), v4, v5, v6, ()) = sel (decide (v6 < v5)) (sel (decide (0
 ≤ v6)) (sel (decide (v6 < Int.ofNat v4.length)) (sel (decide (0 ≤ v5)) (sel (decide (v5 < Int.ofNat v4.length)) (sel (sameI (v4.getD v6.toNat ((0, [], ()), 0, ())).1.1 (v4.getD v5.toNat ((0, [], ()), 0, ())).1.1 && (sameS (v4.getD v6.toNat ((0, [], ()), 0,
 ())).1.2.1 (v4.getD v5.toNat ((0, [], ()), 0, ())).1.2.1 && true)) (some (Sum.inr (false, ()))) (G18_10 k j ((v0, v1, v2, v3, ()), v4, v5, IntKind.i64.wrap (v6 + 1), ()))) none) none) none) none) (some (Sum.inl ((v0, v1, v2, v3, ()), v4, v5,
 ()))) := by kernel_rfl
noncomputable def G18_5 (k : Nat) (j : Nat) (v : (Int × Int × List (List ((Int × List UInt8 × Unit) × Int × Unit)) × List (List ((Int × List UInt8 × Unit) × Int × Unit)) × Unit) × List ((Int × List UInt8 × Unit) × Int × Unit) × Int × Unit) : Option ((Int × Int × List (List ((Int × List UInt8
 × Unit) × Int × Unit)) × List (List ((Int × List UInt8 × Unit) × Int × Unit)) × Unit) × List ((Int × List UInt8 × Unit) × Int × Unit) × Unit ⊕ Bool × Unit) := F18_5 k j v
theorem G18_5_eq (k : Nat) (j : Nat) (v0 v1 : Int) (v2 v3 : List (List ((Int × List UInt8 × Unit) × Int × Unit))) (v4 : List ((Int × List UInt8 × Unit) × Int × Unit)) (v5 : Int) : G18_5 k (j + 1) ((v0, v1, v2, v3, ()), v4, v5, ()) = sel (decide (v5 < Int.ofNat v4.length)) (sel
 (decide (0 ≤ v5)) (sel (decide (v5 < Int.ofNat v4.length)) (sel (decide ((v4.getD v5.toNat ((0, [], ()), 0, ())).2.1 ≤ v0)) (some (Sum.inr (false, ()))) (sel (decide (0 ≤ v5)) (sel (decide (v5 < Int.ofNat v4.length)) (sel (decide (63 < IntKind.u64.wrap (IntKind.u64.wrap
 (Int.tdiv (v4.getD v5.toNat ((0, [], ()), 0, ())).2.1 64) - IntKind.u64.wrap (v0.tdiv 64)))) (some (Sum.inr (false, ()))) (ocall (G18_10 k k ((v0, v1, v2, v3, ()), v4, v5, 0, ())) fun e => esel e (fun v => G18_5 k j (v.1, v.2.1, IntKind.i64.wrap (v.2.2.1 + 1),
 ())) fun e => some (Sum.inr (e.1, ())))) none) none)) none) none) (some (Sum.inl ((v0, v1, v2, v3, ()), v4, ()))) := by kernel_rfl
noncomputable def G18 (k : Nat) (v : (Int × Int × List (List ((Int × List UInt8 × Unit) × Int × Unit)) × List (List ((Int × List UInt8 × Unit) × Int × Unit)) × Unit) × Unit) : Option (Bool × Unit) := F18 k v
theorem G18_eq (k : Nat) (v0 v1 : Int) (v2 v3 : List (List ((Int × List UInt8 × Unit) × Int × Unit))) : G18 k ((v0, v1, v2, v3, ()), ()) = ocall (G19 k ((v0, v1, pad 64 v2, pad 64 v3, ()), ())) fun r => sel (decide (v1 < 0)) (some (false, ())) (sel (decide
 (256 < v1)) (some (false, ())) (sel (decide (v1 < Int.ofNat r.1.length)) (some (false, ())) (ocall (G18_5 k k ((v0, v1, pad 64 v2, pad 64 v3, ()), r.1, 0, ())) fun e => esel e (fun v => ocall (G26 k (v.1.1, v.1.2.1, v.2.1, ())) fun r => ocall (G10 k ((v.1.1,
 v.1.2.1, pad 64 v.1.2.2.1, pad 64 v.1.2.2.2.1, ()), (r.1.1, r.1.2.1, pad 64 r.1.2.2.1, pad 64 r.1.2.2.2.1, ()), ())) fun r => some (r.1, ())) fun e => some (e.1, ())))) := by kernel_rfl
noncomputable def G9_7 (k : Nat) (j : Nat) (v : Int × (Int × Int × List (List ((Int × List UInt8 × Unit) × Int × Unit)) × List (List ((Int × List UInt8 × Unit) × Int × Unit)) × Unit) × List ((Int × List UInt8 × Unit) × Int × Unit) × Int × Int × Int × List (List ((Int × List UInt8 × Unit) ×
 Int × Unit)) × List (List ((Int × List UInt8 × Unit) × Int × Unit)) × Unit) : Option (Int × (Int × Int × List (List ((Int × List UInt8 × Unit) × Int × Unit)) × List (List ((Int × List UInt8 × Unit) × Int × Unit)) × Unit) × List ((Int × List UInt8 × Unit) × Int × Unit) × Int × Int × Int ×
 List (List ((Int × List UInt8 × Unit) × Int × Unit)) × List (List ((Int × List UInt8 × Unit) × Int × Unit)) × Unit) := F9_7 k j v
theorem G9_7_eq (k : Nat) (j : Nat) (v0 v1 v2 : Int) (v3 v4 : List (List ((Int × List UInt8 × Unit) × Int × Unit))) (v5 : List ((Int × List UInt8 × Unit) × Int × Unit)) (v6 v7 v8 : Int) (v9 v10 : List (List ((Int × List UInt8 × Unit) × Int × Unit))) : G9_7 k (j + 1) (v0, (v1, v2, v3, v4,
 ()), v5, v6, v7, v8, v9, v10, ()) = sel (decide (v6 < Int.ofNat v5.length)) (sel (decide (0 ≤ v6)) (sel (decide (v6 < Int.ofNat v5.length)) (sel (decide ((v5.getD v6.toNat ((0, [], ()), 0, ())).2.1 ≤ IntKind.u64.wrap (v1 + v0))) (G9_7 k j (v0, (v1, v2, v3, v4,
 ()), v5, IntKind.i64.wrap (v6 + 1), v7, v8, pad 64 v9, pad 64 v10, ())) (some (v0, (v1, v2, v3, v4, ()), v5, v6, v7, v8, pad 64 v9, pad 64 v10, ()))) none) none) (some (v0, (v1, v2, v3, v4, ()), v5, v6, v7, v8, pad 64 v9, pad 64 v10, ())) := by
 kernel_rfl
noncomputable def G9 (k : Nat) (v : (Int × Int × List (List ((Int × List UInt8 × Unit) × Int × Unit)) × List (List ((Int × List UInt8 × Unit) × Int × Unit)) × Unit) × Int × Unit) : Option ((Int × Int × List (List ((Int × List UInt8 × Unit) × Int × Unit)) × List (List ((Int × List UInt8 ×
 Unit) × Int × Unit)) × Unit) × List ((Int × List UInt8 × Unit) × Int × Unit) × Int × Unit) := F9 k v
theorem G9_eq (k : Nat) (v0 v1 : Int) (v2 v3 : List (List ((Int × List UInt8 × Unit) × Int × Unit))) (v4 : Int) : G9 k ((v0, v1, v2, v3, ()), v4, ()) = ocall (G18 k ((v0, v1, pad 64 v2, pad 64 v3, ()), ())) fun r => sel (!r.1) (some ((v0, v1, pad 64 v2, pad 64 v3,
 ()), [], 1, ())) (sel (decide (IntKind.u64.wrap (v0 + v4) < v0)) (some ((v0, v1, pad 64 v2, pad 64 v3, ()), [], 10, ())) (ocall (G19 k ((v0, v1, pad 64 v2, pad 64 v3, ()), ())) fun r => ocall (G9_7 k k (v4, (v0, v1, pad 64 v2, pad 64 v3, ()),
 r.1, 0, 0, 0, [[], [], [], [], [], [], [], [], [], [], [], [], [], [], [], [], [], [], [], [], [], [], [], [], [], [], [], [], [], [], [], [], [], [], [], [], [], [], [], [], [], [], [], [], [], [], [], [], [], [], [], [], [], [], [], [], [], [], [], [], [], [], [], []], [[], [], [], [], [], [], [],
 [], [], [], [], [], [], [], [], [], [], [], [], [], [], [], [], [], [], [], [], [], [], [], [], [], [], [], [], [], [], [], [], [], [], [], [], [], [], [], [], [], [], [], [], [], [], [], [], [], [], [], [], [], [], [], [], []], ())) fun e => sel (decide (0 ≤ e.2.2.2.1)) (sel (decide
 (e.2.2.2.1 ≤ Int.ofNat e.2.2.1.length)) (sel (decide (Int.ofNat e.2.2.1.length ≤ Int.ofNat e.2.2.1.length)) (sel (decide (Int.ofNat e.2.2.1.length ≤ Int.ofNat e.2.2.1.length)) (ocall (G26 k (IntKind.u64.wrap (e.2.1.1 + e.1), e.2.1.2.1, List.drop e.2.2.2.1.toNat (List.take (Int.ofNat
 e.2.2.1.length).toNat e.2.2.1), ())) fun r => sel (decide (Int.ofNat 0 ≤ e.2.2.2.1)) (sel (decide (e.2.2.2.1 ≤ Int.ofNat e.2.2.1.length)) (sel (decide (Int.ofNat e.2.2.1.length ≤ Int.ofNat e.2.2.1.length)) (some ((r.1.1, r.1.2.1, pad 64 r.1.2.2.1, pad 64 r.1.2.2.2.1, ()), List.drop
 (Int.ofNat 0).toNat (List.take e.2.2.2.1.toNat e.2.2.1), 0, ())) none) none) none) none) none) none) none)) := by kernel_rfl
noncomputable def G11 (k : Nat) (v : List ((Int × List UInt8 × Unit) × Int × Unit) × List ((Int × List UInt8 × Unit) × Int × Unit) × Unit) : Option (Bool × Unit) := F11 k v
theorem G11_eq (k : Nat) (v0 v1 : List ((Int × List UInt8 × Unit) × Int × Unit)) : G11 k (v0, v1, ()) = ocall (G27 k (v0, v1, ())) fun r => some (r.1, ()) := by kernel_rfl
noncomputable def G3 (k : Nat) (v : (Int × Int × List (List ((Int × List UInt8 × Unit) × Int × Unit)) × List (List ((Int × List UInt8 × Unit) × Int × Unit)) × Unit) × Int × Unit) : Option (Bool × Unit) := F3 k v
theorem G3_eq (k : Nat) (v0 v1 : Int) (v2 v3 : List (List ((Int × List UInt8 × Unit) × Int × Unit))) (v4 : Int) : G3 k ((v0, v1, v2, v3, ()), v4, ()) = ocall (G6 k ()) fun r => sel (!r.1) (some (false, ())) (ocall (G7 k ((v0, v1, pad 64 v2, pad 64 v3, ()),
 ())) fun r => sel (!r.1) (some (true, ())) (ocall (G8 k ((v0, v1, pad 64 v2, pad 64 v3, ()), v4, ())) fun r => ocall (G9 k ((v0, v1, pad 64 v2, pad 64 v3, ()), v4, ())) fun r_1 => ocall (G10 k ((r.1.1, r.1.2.1, pad 64 r.1.2.2.1, pad 64 r.1.2.2.2.1,
 ()), (r_1.1.1, r_1.1.2.1, pad 64 r_1.1.2.2.1, pad 64 r_1.1.2.2.2.1, ()), ())) fun r_2 => sel r_2.1 (ocall (G11 k (r.2.1, r_1.2.1, ())) fun r_3 => sel r_3.1 (some (decide (r.2.2.1 = r_1.2.2.1), ())) (some (false, ()))) (some (false, ())))) := by
 kernel_rfl
end Go.Proofs.Ytjonpmckkmnemaa.G
end
section
set_option linter.unusedVariables false
set_option linter.unusedSimpArgs false
set_option maxRecDepth 100000
namespace Go.Proofs.Ytjonpmckkmnemaa.G
open Go Go.Proofs.Ytjonpmckkmnemaa Th
abbrev Txt := List UInt8
abbrev Key := Int × Txt × Unit
theorem bl_eq : ∀ (x y : Txt), Go.Op.bytesLess x y = decide (x < y)
  | [], [] => by simp [Go.Op.bytesLess]
  | [], b :: t => by simp [Go.Op.bytesLess]
  | a :: s, [] => by simp [Go.Op.bytesLess]
  | a :: s, b :: t => by
    simp only [Go.Op.bytesLess, List.cons_lt_cons_iff, bl_eq s t]
    by_cases h : a = b
    · subst h; simp
    · by_cases h2 : a < b
      · simp [h, h2]
      · simp [h, h2]
theorem bl_irrefl (s : Txt) : Go.Op.bytesLess s s = false := by rw [bl_eq, decide_eq_false]; exact List.lt_irrefl s
theorem bl_trans {s t u : Txt} (h1 : Go.Op.bytesLess s t = true) (h2 : Go.Op.bytesLess t u = true) : Go.Op.bytesLess s u = true := by
  rw [bl_eq, decide_eq_true_eq] at h1 h2 ⊢
  exact List.lt_trans h1 h2
theorem bl_asymm {s t : Txt} (h : Go.Op.bytesLess s t = true) : Go.Op.bytesLess t s = false := by
  cases h2 : Go.Op.bytesLess t s with
  | false => rfl
  | true => have := bl_trans h h2; rw [bl_irrefl] at this; cases this
theorem bl_tri {s t : Txt} (h : Go.Op.bytesLess s t = false) (hne : s ≠ t) : Go.Op.bytesLess t s = true := by
  rw [bl_eq, decide_eq_false_iff_not] at h
  rw [bl_eq, decide_eq_true_eq]
  have := List.not_lt.1 h
  rcases List.le_iff_lt_or_eq.1 this with h2 | h2
  · exact h2
  · exact absurd h2.symm hne
def ordS (s t : Txt) : Int := if Go.Op.bytesLess s t = true then -1 else if s = t then 0 else 1
def ordK (a b : Key) : Int := if a.1 < b.1 then -1 else if b.1 < a.1 then 1 else ordS a.2.1 b.2.1
theorem G68_is (k : Nat) (a b : Int) : G68 k (a, b, ()) = some (if a < b then -1 else if b < a then 1 else 0, ()) := by
  rw [G68_eq, G77_eq, ocall_some, G77_eq, ocall_some]
  simp only [decide_true, Bool.not_true, sel_false, sel_dec]
  by_cases h : a < b
  · simp [h]
  · by_cases h2 : b < a <;> simp [h, h2]
theorem G69_is (k : Nat) (a b : Txt) : G69 k (a, b, ()) = some (ordS a b, ()) := by
  rw [G69_eq, G78_eq, ocall_some, G78_eq, ocall_some]
  simp only [decide_true, Bool.not_true, sel_false]
  unfold ordS
  cases Go.Op.bytesLess a b with
  | true => rfl
  | false =>
    simp only [Bool.false_or, sel_false, Bool.false_eq_true, if_false]
    by_cases h : a = b
    · rw [decide_eq_true h, if_pos h]; rfl
    · rw [decide_eq_false h, if_neg h]; rfl
theorem G47_is (k : Nat) (hk : 2 < k) (a b : Int) : G47 k ([a, b], ()) = some (if a = 0 then b else a, ()) := by
  obtain ⟨k, rfl⟩ : ∃ m, k = m + 3 := ⟨k - 3, by omega⟩
  rw [G47_eq]
  have e2 : Int.ofNat ([a, b] : List Int).length = 2 := rfl
  simp only [e2]
  rw [show k + 3 = (k + 2) + 1 by omega, G47_3_eq]
  (try simp only [])
  have e3 : Int.ofNat ([a, b] : List Int).length = 2 := rfl
  rw [e3, sel_pos (by omega), sel_pos (by omega), sel_pos (by omega)]
  have g0 : ([a, b] : List Int).getD (Int.toNat 0) (OfNat.ofNat 0) = a := rfl
  rw [g0]
  by_cases h : a = 0
  · subst h
    have ed : (!decide ((0 : Int) = 0)) = false := rfl
    rw [ed, sel_false, if_pos rfl, wrap64 (by omega) (by omega), show k + 2 = (k + 1) + 1 by omega, G47_3_eq]
    (try simp only [])
    rw [e3, sel_pos (by omega), sel_pos (by omega), sel_pos (by omega)]
    have g1 : ([0, b] : List Int).getD (Int.toNat (0 + 1)) (OfNat.ofNat 0) = b := rfl
    rw [g1]
    by_cases h2 : b = 0
    · subst h2
      rw [ed, sel_false, wrap64 (by omega) (by omega), G47_3_eq]
      (try simp only [])
      rw [e3, sel_neg (by omega), ocall_some]
      rfl
    · rw [decide_eq_false h2]; rfl
  · rw [decide_eq_false h, if_neg h]; rfl
theorem G49_is (k : Nat) (hk : 2 < k) (a b : Key) : G49 k (a, b, ()) = some (ordK a b, ()) := by
  obtain ⟨a1, a2, ⟨⟩⟩ := a
  obtain ⟨b1, b2, ⟨⟩⟩ := b
  rw [G49_eq]
  (try simp only [])
  rw [G68_is, ocall_some, G69_is, ocall_some, G47_is k hk, ocall_some]
  unfold ordK
  (try simp only [])
  by_cases h : a1 < b1
  · simp [h]
  · by_cases h2 : b1 < a1 <;> simp [h, h2]
theorem sameK (a b : Key) : (sameI a.1 b.1 && (sameS a.2.1 b.2.1 && true)) = decide (a = b) := by
  obtain ⟨a1, a2, ⟨⟩⟩ := a
  obtain ⟨b1, b2, ⟨⟩⟩ := b
  simp [sameI, sameS]
theorem ordK_zero {a b : Key} : ordK a b = 0 ↔ a = b := by
  obtain ⟨a1, a2, ⟨⟩⟩ := a
  obtain ⟨b1, b2, ⟨⟩⟩ := b
  unfold ordK ordS
  simp only [Prod.mk.injEq, and_true]
  constructor
  · intro h
    split at h
    · cases h
    · split at h
      · cases h
      · split at h
        · cases h
        · split at h
          · rename_i e; exact ⟨by omega, e⟩
          · cases h
  · rintro ⟨rfl, rfl⟩
    rw [if_neg (by omega), if_neg (by omega), bl_irrefl]; simp
theorem ordS_flip (s t : Txt) : ordS t s = - ordS s t := by
  unfold ordS
  cases h : Go.Op.bytesLess s t with
  | true =>
    rw [bl_asymm h]
    by_cases e : t = s
    · subst e; rw [bl_irrefl] at h; cases h
    · simp [e]
  | false =>
    by_cases e : s = t
    · subst e; simp [h]
    · rw [bl_tri h e]; simp [e]
theorem ordK_flip (a b : Key) : ordK b a = - ordK a b := by
  unfold ordK
  by_cases h : a.1 < b.1
  · rw [if_pos h, if_neg (by omega), if_pos h]; rfl
  · by_cases h2 : b.1 < a.1
    · rw [if_pos h2, if_neg h, if_pos h2]
    · rw [if_neg h2, if_neg h, if_neg h, if_neg h2]; exact ordS_flip _ _
theorem ordK_cases (a b : Key) : ordK a b = -1 ∨ ordK a b = 0 ∨ ordK a b = 1 := by
  unfold ordK ordS
  repeat' split
  all_goals simp
theorem ordK_neg {a b : Key} : ordK a b = -1 ↔ a.1 < b.1 ∨ (a.1 = b.1 ∧ Go.Op.bytesLess a.2.1 b.2.1 = true) := by
  unfold ordK ordS
  constructor
  · intro h
    split at h
    · exact .inl (by assumption)
    · split at h
      · cases h
      · split at h
        · exact .inr ⟨by omega, by assumption⟩
        · split at h <;> cases h
  · rintro (h | ⟨h, h2⟩)
    · rw [if_pos h]
    · rw [if_neg (by omega), if_neg (by omega), if_pos h2]
theorem ordK_trans {a b c : Key} (h1 : ordK a b = -1) (h2 : ordK b c = -1) : ordK a c = -1 := by
  rw [ordK_neg] at h1 h2 ⊢
  rcases h1 with h1 | ⟨h1, h3⟩
  · rcases h2 with h2 | ⟨h2, _⟩ <;> exact .inl (by omega)
  · rcases h2 with h2 | ⟨h2, h4⟩
    · exact .inl (by omega)
    · exact .inr ⟨by omega, bl_trans h3 h4⟩
theorem G70_is (k : Nat) (a b : Key) : G70 k (a, b, ()) = some (ordK a b, ()) := by
  rw [G70_eq]
  simp only [sameK]
  by_cases h : a = b
  · rw [sel_pos h, ordK_zero.2 h]
  · rw [sel_neg h]
    have hne := fun e => h (ordK_zero.1 e)
    unfold ordK ordS at hne ⊢
    by_cases h1 : a.1 < b.1
    · rw [sel_pos h1, if_pos h1]
    · rw [sel_neg h1, if_neg h1]
      by_cases h2 : b.1 < a.1
      · rw [sel_neg (by omega), if_pos h2]
      · rw [sel_pos (by omega), if_neg h2]
        rw [if_neg h1, if_neg h2] at hne
        cases hb : Go.Op.bytesLess a.2.1 b.2.1 with
        | true => rfl
        | false =>
          rw [hb] at hne
          simp only [Bool.false_eq_true, if_false] at hne
          by_cases e : a.2.1 = b.2.1
          · rw [if_pos e] at hne; exact absurd rfl hne
          · simp [e]
end Go.Proofs.Ytjonpmckkmnemaa.G
end
section
set_option linter.unusedVariables false
set_option linter.unusedSimpArgs false
set_option maxRecDepth 100000
namespace Go.Proofs.Ytjonpmckkmnemaa.G
open Go Go.Proofs.Ytjonpmckkmnemaa Th
abbrev Tm := Key × Int × Unit
abbrev Wl := Int × Int × List (List Tm) × List (List Tm) × Unit
def ordT (a b : Tm) : Int := if a.2.1 < b.2.1 then -1 else if b.2.1 < a.2.1 then 1 else ordK a.1 b.1
theorem G48_is (k : Nat) (a b : Int) : G48 k (a, b, ()) = some (if a < b then -1 else if b < a then 1 else 0, ()) := by
  rw [G48_eq, G67_eq, ocall_some, G67_eq, ocall_some]
  simp only [decide_true, Bool.not_true]
  rw [sel_false, sel_false]
  by_cases h : a < b
  · rw [sel_pos h, if_pos h]
  · rw [sel_neg h, if_neg h]
    by_cases h2 : b < a
    · rw [sel_pos h2, if_pos h2]
    · rw [sel_neg h2, if_neg h2]
theorem G31_is (k : Nat) (hk : 2 < k) (a b : Tm) : G31 k (a, b, ()) = some (ordT a b, ()) := by
  obtain ⟨⟨a1, a2, ⟨⟩⟩, a3, ⟨⟩⟩ := a
  obtain ⟨⟨b1, b2, ⟨⟩⟩, b3, ⟨⟩⟩ := b
  have h := G49_is k hk (a1, a2, ()) (b1, b2, ())
  rw [G31_eq]
  (try simp only [])
  rw [G48_is, ocall_some, show G49 k ((a1, a2, ()), (b1, b2, ()), ()) = _ from h, ocall_some, G47_is k hk, ocall_some]
  unfold ordT
  (try simp only [])
  by_cases h : a3 < b3
  · simp [h]
  · by_cases h2 : b3 < a3 <;> simp [h, h2]
theorem ordT_zero {a b : Tm} : ordT a b = 0 ↔ a = b := by
  obtain ⟨a1, a2, ⟨⟩⟩ := a
  obtain ⟨b1, b2, ⟨⟩⟩ := b
  unfold ordT
  simp only [Prod.mk.injEq, and_true]
  constructor
  · intro h
    split at h
    · cases h
    · split at h
      · cases h
      · exact ⟨ordK_zero.1 h, by omega⟩
  · rintro ⟨rfl, rfl⟩
    rw [if_neg (by omega), if_neg (by omega), ordK_zero]
theorem ordT_flip (a b : Tm) : ordT b a = - ordT a b := by
  unfold ordT
  by_cases h : a.2.1 < b.2.1
  · rw [if_pos h, if_neg (by omega), if_pos h]; rfl
  · by_cases h2 : b.2.1 < a.2.1
    · rw [if_pos h2, if_neg h, if_pos h2]
    · rw [if_neg h2, if_neg h, if_neg h, if_neg h2]; exact ordK_flip _ _
theorem ordT_cases (a b : Tm) : ordT a b = -1 ∨ ordT a b = 0 ∨ ordT a b = 1 := by
  unfold ordT
  split
  · exact .inl rfl
  · split
    · exact .inr (.inr rfl)
    · exact ordK_cases _ _
theorem ordT_neg {a b : Tm} : ordT a b = -1 ↔ a.2.1 < b.2.1 ∨ (a.2.1 = b.2.1 ∧ ordK a.1 b.1 = -1) := by
  unfold ordT
  constructor
  · intro h
    split at h
    · exact .inl (by assumption)
    · split at h
      · cases h
      · exact .inr ⟨by omega, h⟩
  · rintro (h | ⟨h, h2⟩)
    · rw [if_pos h]
    · rw [if_neg (by omega), if_neg (by omega), h2]
theorem ordT_trans {a b c : Tm} (h1 : ordT a b = -1) (h2 : ordT b c = -1) : ordT a c = -1 := by
  rw [ordT_neg] at h1 h2 ⊢
  rcases h1 with h1 | ⟨h1, h3⟩
  · rcases h2 with h2 | ⟨h2, _⟩ <;> exact .inl (by omega)
  · rcases h2 with h2 | ⟨h2, h4⟩
    · exact .inl (by omega)
    · exact .inr ⟨by omega, ordK_trans h3 h4⟩
def AscT (l : List Tm) : Prop := l.Pairwise fun a b => ordT a b = -1
def SortT (l : List Tm) : Prop := l.Pairwise fun a b => ordT a b ≠ 1
theorem ordT_le_trans {a b c : Tm} (h1 : ordT a b ≠ 1) (h2 : ordT b c ≠ 1) : ordT a c ≠ 1 := by
  rcases ordT_cases a b with e1 | e1 | e1
  · rcases ordT_cases b c with e2 | e2 | e2
    · rw [ordT_trans e1 e2]; decide
    · rw [← ordT_zero.1 e2, e1]; decide
    · exact absurd e2 h2
  · rw [ordT_zero.1 e1]; exact h2
  · exact absurd e1 h1
theorem sort_eq : ∀ {l m : List Tm}, SortT l → SortT m → l.Perm m → l = m
  | [], m, _, _, h => by rw [List.nil_perm.1 h]
  | a :: l, [], _, _, h => by have := h.length_eq; simp at this
  | a :: l, b :: m, hl, hm, h => by
    have hl' := List.pairwise_cons.1 hl
    have hm' := List.pairwise_cons.1 hm
    have e : a = b := by
      have ha : a ∈ b :: m := h.mem_iff.1 (.head _)
      have hb : b ∈ a :: l := h.mem_iff.2 (.head _)
      rcases List.mem_cons.1 ha with e | ha
      · exact e
      rcases List.mem_cons.1 hb with e | hb
      · exact e.symm
      have h1 := hl'.1 _ hb
      have h2 := hm'.1 _ ha
      have h3 := ordT_flip a b
      rcases ordT_cases a b with e | e | e
      · rw [e] at h3; exact absurd h3 h2
      · exact ordT_zero.1 e
      · exact absurd e h1
    subst e
    rw [sort_eq hl'.2 hm'.2 (List.Perm.cons_inv h)]
theorem AscT.sort {l : List Tm} (h : AscT l) : SortT l := h.imp fun e => by rw [e]; decide
theorem SortT.asc {l : List Tm} (h : SortT l) (hd : l.Nodup) : AscT l := by
  refine (h.and hd).imp ?_
  rintro a b ⟨h1, h2⟩
  rcases ordT_cases a b with e | e | e
  · exact e
  · exact absurd (ordT_zero.1 e) h2
  · exact absurd e h1
end Go.Proofs.Ytjonpmckkmnemaa.G
end
section
set_option linter.unusedVariables false
set_option linter.unusedSimpArgs false
set_option maxRecDepth 100000
namespace Go.Proofs.Ytjonpmckkmnemaa.G
open Go Go.Proofs.Ytjonpmckkmnemaa Th Ieee
def dbl (n : Nat) : Nat := Ieee.double.nearest false n 0
theorem log_lt {n e : Nat} (h0 : n ≠ 0) : n.log2 = e ↔ 2 ^ e ≤ n ∧ n < 2 ^ (e + 1) := by
  constructor
  · rintro rfl
    exact ⟨Nat.log2_self_le h0, Nat.lt_log2_self⟩
  · intro ⟨h1, h2⟩
    have a := (Nat.le_log2 h0).2 h1
    have b := (Nat.log2_lt h0).2 h2
    omega
theorem log_shift {n t : Nat} (h0 : n ≠ 0) : (n * 2 ^ t).log2 = n.log2 + t := by
  have hp : 0 < 2 ^ t := Nat.two_pow_pos t
  have h0' : n * 2 ^ t ≠ 0 := Nat.mul_ne_zero h0 (by omega)
  obtain ⟨a, b⟩ := (log_lt h0).1 rfl
  refine (log_lt h0').2 ⟨?_, ?_⟩
  · rw [Nat.pow_add]; exact Nat.mul_le_mul_right _ a
  · rw [show n.log2 + t + 1 = (n.log2 + 1) + t by omega, Nat.pow_add]; exact Nat.mul_lt_mul_of_pos_right b hp
theorem cut_zero (neg : Bool) (n : Nat) : Toward.even.cut neg n 0 = n := by
  unfold Toward.cut
  simp [Nat.mod_one]
theorem cut_exact (neg : Bool) (n d : Nat) (hd : d ≤ (n * 2 ^ d).log2 + 2) : Toward.even.cut neg (n * 2 ^ d) d = n := by
  unfold Toward.cut
  have hp : 0 < 2 ^ d := Nat.two_pow_pos d
  have hm : min d ((n * 2 ^ d).log2 + 2) = d := by omega
  rw [hm, Nat.one_shiftLeft]
  simp only [Nat.mul_div_cancel _ hp, Nat.mul_mod_left]
  have h1 : ¬ (2 ^ d < 2 * 0) := by omega
  have h2 : (2 ^ d == 2 * 0) = false := by
    apply beq_false_of_ne; omega
  simp only [h1, h2, decide_false, Bool.false_and, Bool.or_false]
  rfl
theorem nearest_exact (n t : Nat) (h0 : n ≠ 0) (h : n.log2 ≤ 52) (ht : t ≤ 1074) : Ieee.double.nearest false (n * 2 ^ t) (-(t : Int)) = (n.log2 + 1022) * 2 ^ 52 + n * 2 ^ (52 - n.log2) := by
  have hp : 0 < 2 ^ t := Nat.two_pow_pos t
  have h0' : n * 2 ^ t ≠ 0 := Nat.mul_ne_zero h0 (by omega)
  have hlp : Ieee.double.leastPlace = -1074 := by decide
  have hb : Ieee.double.binade = 2 ^ 52 := rfl
  have hi : Ieee.double.infRung = 2047 * 2 ^ 52 := by decide
  have hf : (Ieee.double.fractionBits : Int) = 52 := rfl
  unfold Format.nearest
  rw [if_neg h0', log_shift h0, hlp, hb, hi, hf]
  have hlast : max (-(t : Int) + ((n.log2 + t : Nat) : Int) - 52) (-1074) = (n.log2 : Int) - 52 := by omega
  rw [hlast]
  have hkept : Toward.even.cut false ((n * 2 ^ t) <<< (-(t : Int) - ((n.log2 : Int) - 52)).toNat) (((n.log2 : Int) - 52) - -(t : Int)).toNat = n * 2 ^ (52 - n.log2) := by
    rw [Nat.shiftLeft_eq]
    by_cases c : t ≤ 52 - n.log2
    · have e1 : (((n.log2 : Int) - 52) - -(t : Int)).toNat = 0 := by omega
      have e2 : (-(t : Int) - ((n.log2 : Int) - 52)).toNat = 52 - n.log2 - t := by omega
      rw [e1, e2, cut_zero, Nat.mul_assoc, ← Nat.pow_add, show t + (52 - n.log2 - t) = 52 - n.log2 by omega]
    · have e1 : (((n.log2 : Int) - 52) - -(t : Int)).toNat = t - (52 - n.log2) := by omega
      have e2 : (-(t : Int) - ((n.log2 : Int) - 52)).toNat = 0 := by omega
      have e3 : n * 2 ^ t = n * 2 ^ (52 - n.log2) * 2 ^ (t - (52 - n.log2)) := by
        rw [Nat.mul_assoc, ← Nat.pow_add, show 52 - n.log2 + (t - (52 - n.log2)) = t by omega]
      rw [e1, e2, Nat.pow_zero, Nat.mul_one, e3]
      refine cut_exact _ _ _ ?_
      rw [← e3, log_shift h0]; omega
  show Ieee.double.word false (min ((((n.log2 : Int) - 52) - (-1074)).toNat * 2 ^ 52 + Toward.even.cut false ((n * 2 ^ t) <<< (-(t : Int) - ((n.log2 : Int) - 52)).toNat) (((n.log2 : Int) - 52) - -(t : Int)).toNat) (2047 * 2 ^ 52)) = _
  rw [hkept]
  obtain ⟨a, b⟩ := (log_lt h0).1 rfl
  have hu : n * 2 ^ (52 - n.log2) < 2 ^ 53 := by
    have := Nat.mul_lt_mul_of_pos_right b (Nat.two_pow_pos (52 - n.log2))
    rw [← Nat.pow_add, show n.log2 + 1 + (52 - n.log2) = 53 by omega] at this
    exact this
  have e4 : ((n.log2 : Int) - 52 - -1074).toNat = n.log2 + 1022 := by omega
  rw [e4]
  unfold Format.word
  simp only [Bool.false_eq_true, if_false]
  rw [Nat.min_eq_left]
  generalize n * 2 ^ (52 - n.log2) = u at hu
  generalize n.log2 = e at h
  simp only [show (2 : Nat) ^ 52 = 4503599627370496 from rfl, show (2 : Nat) ^ 53 = 9007199254740992 from rfl] at *
  omega
theorem log_53 {n : Nat} (h0 : n ≠ 0) (h : n < 2 ^ 53) : n.log2 ≤ 52 := by
  have := (Nat.log2_lt h0).2 h
  omega
theorem dbl_is {n : Nat} (h0 : n ≠ 0) (h : n < 2 ^ 53) : dbl n = (n.log2 + 1022) * 2 ^ 52 + n * 2 ^ (52 - n.log2) := by
  have := nearest_exact n 0 h0 (log_53 h0 h) (by omega)
  rw [Nat.pow_zero, Nat.mul_one] at this
  exact this
theorem nearest_zero (p : Int) : Ieee.double.nearest false 0 p = 0 := by
  unfold Format.nearest
  rw [if_pos rfl]; rfl
theorem dbl_zero : dbl 0 = 0 := nearest_zero 0
theorem nearest_dbl (n t : Nat) (h : n < 2 ^ 53) (ht : t ≤ 1074) : Ieee.double.nearest false (n * 2 ^ t) (-(t : Int)) = dbl n := by
  by_cases h0 : n = 0
  · subst h0; rw [Nat.zero_mul, dbl_zero, nearest_zero]
  · rw [nearest_exact n t h0 (log_53 h0 h) ht, dbl_is h0 h]
theorem read_dbl {n : Nat} (h : n < 2 ^ 53) : ∃ t : Nat, t ≤ 1074 ∧ Ieee.double.read (dbl n) = .number false (n * 2 ^ t) (-(t : Int)) ∧ (n ≠ 0 → t ≤ 52) := by
  by_cases h0 : n = 0
  · subst h0
    obtain ⟨t, ht⟩ : ∃ t : Nat, t = 1074 := ⟨_, rfl⟩
    refine ⟨t, by omega, ?_, fun h => absurd rfl h⟩
    rw [Nat.zero_mul, dbl_zero, ht]; decide
  have hl := log_53 h0 h
  refine ⟨52 - n.log2, by omega, ?_, fun _ => by omega⟩
  obtain ⟨a, b⟩ := (log_lt h0).1 rfl
  have hlo : 2 ^ 52 ≤ n * 2 ^ (52 - n.log2) := by
    have := Nat.mul_le_mul_right (2 ^ (52 - n.log2)) a
    rw [← Nat.pow_add, show n.log2 + (52 - n.log2) = 52 by omega] at this
    exact this
  have hu : n * 2 ^ (52 - n.log2) < 2 ^ 53 := by
    have := Nat.mul_lt_mul_of_pos_right b (Nat.two_pow_pos (52 - n.log2))
    rw [← Nat.pow_add, show n.log2 + 1 + (52 - n.log2) = 53 by omega] at this
    exact this
  rw [dbl_is h0 h]
  generalize n * 2 ^ (52 - n.log2) = u at hlo hu
  generalize hle : n.log2 = e at hl
  have hlp : Ieee.double.leastPlace = -1074 := by decide
  have hb : Ieee.double.binade = 4503599627370496 := rfl
  have hi : Ieee.double.infRung = 9218868437227405312 := by decide
  have hs : Ieee.double.signWeight = 9223372036854775808 := rfl
  unfold Format.read
  rw [hlp, hb, hi, hs]
  simp only [show (2 : Nat) ^ 52 = 4503599627370496 from rfl, show (2 : Nat) ^ 53 = 9007199254740992 from rfl] at *
  have c1 : ((e + 1022) * 4503599627370496 + u) / 9223372036854775808 = 0 := by omega
  have c2 : ((e + 1022) * 4503599627370496 + u) % 9223372036854775808 = (e + 1022) * 4503599627370496 + u := by omega
  have c3 : ((e + 1022) * 4503599627370496 + u) % 4503599627370496 = u - 4503599627370496 := by omega
  have c4 : ((e + 1022) * 4503599627370496 + u) / 4503599627370496 = e + 1023 := by omega
  rw [c1, c2, c3, c4, if_neg (by omega), if_pos (by omega)]
  have c5 : 4503599627370496 + (u - 4503599627370496) = u := by omega
  have c6 : (-1074 : Int) + ((e + 1023 - 1 : Nat) : Int) = -((52 - e : Nat) : Int) := by omega
  rw [c5, c6]
  rfl
theorem fltOf_nat (n : Nat) : fltOf (n : Int) = dbl n := by
  unfold fltOf floatOfInt FloatKind.nearest FloatKind.encode dbl
  have : decide ((n : Int) < 0) = false := decide_eq_false (by omega)
  rw [this, Int.natAbs_natCast]
  rfl
end Go.Proofs.Ytjonpmckkmnemaa.G
end
section
set_option linter.unusedVariables false
set_option linter.unusedSimpArgs false
set_option maxRecDepth 100000
namespace Go.Proofs.Ytjonpmckkmnemaa.G
open Go Go.Proofs.Ytjonpmckkmnemaa Th Ieee
def isI (x : Nat) (n : Int) : Prop := ∃ (s : Bool) (t : Nat), t ≤ 1074 ∧ Ieee.double.read x = .number s (n.natAbs * 2 ^ t) (-(t : Int)) ∧ (n ≠ 0 → s = decide (n < 0))
theorem lead {n : Nat} (h0 : n ≠ 0) (h : n < 2 ^ 53) : 2 ^ 52 ≤ n * 2 ^ (52 - n.log2) ∧ n * 2 ^ (52 - n.log2) < 2 ^ 53 := by
  have hl := log_53 h0 h
  obtain ⟨a, b⟩ := (log_lt h0).1 rfl
  constructor
  · have := Nat.mul_le_mul_right (2 ^ (52 - n.log2)) a
    rw [← Nat.pow_add, show n.log2 + (52 - n.log2) = 52 by omega] at this
    exact this
  · have := Nat.mul_lt_mul_of_pos_right b (Nat.two_pow_pos (52 - n.log2))
    rw [← Nat.pow_add, show n.log2 + 1 + (52 - n.log2) = 53 by omega] at this
    exact this
theorem dbl_lt {n : Nat} (h : n < 2 ^ 53) : dbl n < 2 ^ 63 := by
  by_cases h0 : n = 0
  · subst h0; rw [dbl_zero]; exact Nat.two_pow_pos 63
  rw [dbl_is h0 h]
  obtain ⟨a, b⟩ := lead h0 h
  have hl := log_53 h0 h
  generalize n * 2 ^ (52 - n.log2) = u at a b
  generalize n.log2 = e at hl
  simp only [show (2 : Nat) ^ 52 = 4503599627370496 from rfl, show (2 : Nat) ^ 53 = 9007199254740992 from rfl, show (2 : Nat) ^ 63 = 9223372036854775808 from rfl] at *
  omega
theorem word_neg (x : Nat) (s : Bool) (hx : x < 2 ^ 63) : Ieee.double.read (Ieee.double.word s x) = (match Ieee.double.read x with | .number _ m p => .number s m p | .infinity _ => .infinity s | .nan _ f => .nan s f) := by
  have hs : Ieee.double.signWeight = 9223372036854775808 := rfl
  have h63 : (2 : Nat) ^ 63 = 9223372036854775808 := rfl
  have e1 : Ieee.double.word s x % Ieee.double.signWeight = x := by
    unfold Format.word; cases s <;> simp only [hs, Bool.false_eq_true, if_false, if_true] <;> omega
  have e2 : x % Ieee.double.signWeight = x := by rw [hs]; omega
  have e3 : (Ieee.double.word s x / Ieee.double.signWeight % 2 == 1) = s := by
    unfold Format.word
    cases s with
    | false => simp only [hs, Bool.false_eq_true, if_false]; rw [show x / 9223372036854775808 = 0 by omega]; rfl
    | true => simp only [hs, if_true]; rw [show (9223372036854775808 + x) / 9223372036854775808 = 1 by omega]; rfl
  unfold Format.read
  simp only [e1, e2, e3]
  split
  · rfl
  · split
    · rfl
    · split <;> rfl
theorem nearest_word (s : Bool) (m : Nat) (p : Int) : Ieee.double.nearest s m p = Ieee.double.word s (Ieee.double.nearest false m p) := by
  unfold Format.nearest
  by_cases h : m = 0
  · rw [if_pos h, if_pos h]; rfl
  · rw [if_neg h, if_neg h]
    have hc : ∀ n d, Toward.even.cut s n d = Toward.even.cut false n d := fun _ _ => rfl
    have hw : ∀ r, Ieee.double.word false r = r := fun r => by unfold Format.word; rw [if_neg (by simp)]
    simp only [hc, hw]
theorem isI_nearest (s : Bool) (n : Int) (t : Nat) (ht : t ≤ 1074) (hn : n.natAbs < 2 ^ 53) (hs : n ≠ 0 → s = decide (n < 0)) : isI (Ieee.double.nearest s (n.natAbs * 2 ^ t) (-(t : Int))) n := by
  rw [nearest_word, nearest_dbl _ _ hn ht]
  obtain ⟨u, hu, hr, _⟩ := read_dbl hn
  refine ⟨s, u, hu, ?_, hs⟩
  rw [word_neg _ _ (dbl_lt hn), hr]
theorem isI_flt {n : Int} (hn : n.natAbs < 2 ^ 53) : isI (fltOf n) n := by
  have := isI_nearest (decide (n < 0)) n 0 (by omega) hn (fun _ => rfl)
  rw [Nat.pow_zero, Nat.mul_one] at this
  exact this
theorem isI_dbl {n : Nat} (hn : n < 2 ^ 53) : isI (dbl n) n := by
  rw [← fltOf_nat]; exact isI_flt (by rw [Int.natAbs_natCast]; exact hn)
theorem isI_zero : isI 0 0 := by
  have := isI_dbl (n := 0) (by omega)
  rw [dbl_zero] at this; exact this
theorem signed_of {s : Bool} {n : Int} {t u : Nat} (h : n ≠ 0 → s = decide (n < 0)) (htu : t ≤ u) : signed s (n.natAbs * 2 ^ t) (-(t : Int) - -(u : Int)).toNat = n * ((2 ^ u : Nat) : Int) := by
  have e : (-(t : Int) - -(u : Int)).toNat = u - t := by omega
  have h2 : (n.natAbs * 2 ^ t) <<< (u - t) = n.natAbs * 2 ^ u := by rw [Nat.shiftLeft_eq, Nat.mul_assoc, ← Nat.pow_add, show t + (u - t) = u by omega]
  unfold signed
  rw [e, h2]
  by_cases h0 : n = 0
  · subst h0; cases s <;> simp
  rw [h h0]
  by_cases hn : n < 0
  · rw [decide_eq_true hn, if_pos rfl, Int.natCast_mul]
    have : (n.natAbs : Int) = -n := by omega
    rw [this, Int.neg_mul, Int.neg_neg]
  · rw [decide_eq_false hn, if_neg (by simp), Int.natCast_mul]
    have : (n.natAbs : Int) = n := by omega
    rw [this]
theorem pow_pos' (u : Nat) : (0 : Int) < ((2 ^ u : Nat) : Int) := by
  have := Nat.two_pow_pos u
  omega
theorem cmp_mul (a b : Int) (u : Nat) : compare (a * ((2 ^ u : Nat) : Int)) (b * ((2 ^ u : Nat) : Int)) = compare a b := by
  have hp := pow_pos' u
  have h1 : a * ((2 ^ u : Nat) : Int) < b * ((2 ^ u : Nat) : Int) ↔ a < b := ⟨fun h => by
      by_cases c : a < b
      · exact c
      · exact absurd (Int.mul_le_mul_of_nonneg_right (show b ≤ a by omega) (show (0 : Int) ≤ ((2 ^ u : Nat) : Int) by omega)) (by omega), fun h => Int.mul_lt_mul_of_pos_right h hp⟩
  have h2 : a * ((2 ^ u : Nat) : Int) = b * ((2 ^ u : Nat) : Int) ↔ a = b := ⟨fun h => Int.eq_of_mul_eq_mul_right (by omega) h, fun h => by rw [h]⟩
  show compareOfLessAndEq _ _ = compareOfLessAndEq _ _
  unfold compareOfLessAndEq
  simp only [h1, h2]
theorem isI_order {x y : Nat} {a b : Int} (hx : isI x a) (hy : isI y b) : Ieee.double.order x y = some (compare a b) := by
  obtain ⟨s, i, hi, hr, hs⟩ := hx
  obtain ⟨t, j, hj, hq, ht⟩ := hy
  unfold Format.order
  rw [hr, hq]
  unfold Datum.order
  (try simp only [])
  have key : ∀ u : Nat, i ≤ u → j ≤ u → min (-(i : Int)) (-(j : Int)) = -(u : Int) → some (compare (signed s (a.natAbs * 2 ^ i) (-(i : Int) - min (-(i : Int)) (-(j : Int))).toNat) (signed t (b.natAbs * 2 ^ j) (-(j : Int) - min (-(i : Int)) (-(j : Int))).toNat)) = some (compare a b) := by
    intro u hiu hju hm
    rw [hm, signed_of hs hiu, signed_of ht hju, cmp_mul]
  rcases Nat.le_total i j with c | c
  · exact key j c (Nat.le_refl _) (by omega)
  · exact key i (Nat.le_refl _) c (by omega)
theorem cut_zero_way (s : Bool) (n d : Nat) : Toward.zero.cut s n d = n / 2 ^ d := by
  unfold Toward.cut
  (try simp only [])
  show n / (1 <<< min d (n.log2 + 2)) + 0 = _
  rw [Nat.one_shiftLeft, Nat.add_zero]
  by_cases h : d ≤ n.log2 + 2
  · rw [Nat.min_eq_left h]
  · rw [Nat.min_eq_right (by omega)]
    have h1 : n < 2 ^ (n.log2 + 1) := Nat.lt_log2_self
    have h2 : 2 ^ (n.log2 + 1) ≤ 2 ^ (n.log2 + 2) := Nat.pow_le_pow_right (by omega) (by omega)
    have h3 : 2 ^ (n.log2 + 2) ≤ 2 ^ d := Nat.pow_le_pow_right (by omega) (by omega)
    rw [Nat.div_eq_of_lt (by omega), Nat.div_eq_of_lt (by omega)]
theorem isI_int {x : Nat} {a : Int} (hx : isI x a) (ha : a.natAbs < 2 ^ 53) : floatToIntVal .f64 x .i64 = some a := by
  obtain ⟨s, i, hi, hr, hs⟩ := hx
  unfold floatToIntVal
  have e : FloatKind.f64.decode x = .number s (a.natAbs * 2 ^ i) (-(i : Int)) := hr
  rw [e]
  have e2 : (Datum.number s (a.natAbs * 2 ^ i) (-(i : Int))).toInt .zero = some a := by
    unfold Datum.toInt Datum.integral
    (try simp only [])
    have h1 : (-(i : Int)).toNat = 0 := by omega
    have h2 : (- -(i : Int)).toNat = i := by omega
    rw [h1, h2, cut_zero_way, Nat.shiftLeft_eq, Nat.pow_zero, Nat.mul_one, Nat.mul_div_cancel _ (Nat.two_pow_pos i)]
    have := signed_of (t := 0) (u := 0) hs (Nat.le_refl _)
    rw [Nat.pow_zero, Nat.mul_one] at this
    exact congrArg some (this.trans (by simp))
  rw [e2]
  have h63 : (2 : Nat) ^ 53 = 9007199254740992 := rfl
  have m1 : IntKind.i64.min = -9223372036854775808 := by decide
  have m2 : IntKind.i64.max = 9223372036854775807 := by decide
  rw [m1, m2]
  (try simp only [])
  rw [if_pos (by omega)]
end Go.Proofs.Ytjonpmckkmnemaa.G
end
section
set_option linter.unusedVariables false
set_option linter.unusedSimpArgs false
set_option maxRecDepth 100000
namespace Go.Proofs.Ytjonpmckkmnemaa.G
open Go Go.Proofs.Ytjonpmckkmnemaa Th
def lenSum : List (List Tm) → Nat
  | [] => 0
  | x :: l => x.length + lenSum l
theorem lenSum_take (L : List (List Tm)) : ∀ i, lenSum (L.take i) ≤ lenSum L := by
  induction L with
  | nil => intro i; simp [lenSum]
  | cons x L ih =>
    intro i
    cases i with
    | zero => exact Nat.zero_le _
    | succ i => have := ih i; simp only [List.take_succ_cons, lenSum]; omega
theorem lenSum_snoc (L : List (List Tm)) (x : List Tm) : lenSum (L ++ [x]) = lenSum L + x.length := by
  induction L with
  | nil => simp [lenSum]
  | cons y L ih => simp only [List.cons_append, lenSum, ih]; omega
theorem lenSum_flat (L : List (List Tm)) : L.flatten.length = lenSum L := by
  induction L with
  | nil => rfl
  | cons y L ih => simp only [List.flatten_cons, List.length_append, lenSum, ih]
theorem G37_3_is (k : Nat) (L : List (List Tm)) (hL : L.length ≤ 1000000) (hS : lenSum L ≤ 1000000) : ∀ (j i : Nat), i + j = L.length → ∀ n, j < n →
    G37_3 k n (L, ((lenSum (L.take i) : Nat) : Int), L, (L.length : Int), (i : Int), ()) = some (L, ((lenSum L : Nat) : Int), ()) := by
  intro j
  induction j with
  | zero =>
    intro i hij n hn
    obtain ⟨n, rfl⟩ : ∃ m, n = m + 1 := ⟨n - 1, by omega⟩
    rw [G37_3_eq, sel_neg (by omega), List.take_of_length_le (by omega)]
  | succ j ih =>
    intro i hij n hn
    obtain ⟨n, rfl⟩ : ∃ m, n = m + 1 := ⟨n - 1, by omega⟩
    have hlt : i < L.length := by omega
    have hs := lenSum_take L (i + 1)
    have e : lenSum (L.take (i + 1)) = lenSum (L.take i) + L[i].length := by rw [List.take_succ_eq_append_getElem hlt, lenSum_snoc]
    have := ih (i + 1) (by omega) n (by omega)
    rw [G37_3_eq, sel_pos (by omega), sel_pos (by omega), sel_pos (by simp only [ofNat_len]; omega)]
    simp only [Int.toNat_natCast, getD_of hlt, ofNat_len]
    rw [wrap64 (n := (i : Int) + 1) (by omega) (by omega), wrap64 (by omega) (by omega), sel_neg (by omega)]
    rw [e] at this
    rw [Int.natCast_add, Int.natCast_add, Int.natCast_one] at this
    exact this
theorem G37_11_is (k : Nat) (L : List (List Tm)) (hL : L.length ≤ 1000000) (hS : lenSum L ≤ 1000000) : ∀ (j i : Nat), i + j = L.length → ∀ n, j < n →
    G37_11 k n ((L.take i).flatten, L, (L.length : Int), (i : Int), ()) = some (L.flatten, ()) := by
  intro j
  induction j with
  | zero =>
    intro i hij n hn
    obtain ⟨n, rfl⟩ : ∃ m, n = m + 1 := ⟨n - 1, by omega⟩
    rw [G37_11_eq, sel_neg (by omega), List.take_of_length_le (by omega)]
  | succ j ih =>
    intro i hij n hn
    obtain ⟨n, rfl⟩ : ∃ m, n = m + 1 := ⟨n - 1, by omega⟩
    have hlt : i < L.length := by omega
    have hs := lenSum_take L (i + 1)
    have e : (L.take (i + 1)).flatten = (L.take i).flatten ++ L[i] := by rw [List.take_succ_eq_append_getElem hlt, List.flatten_append]; simp
    have e2 := lenSum_flat (L.take (i + 1))
    rw [e, List.length_append] at e2
    have := ih (i + 1) (by omega) n (by omega)
    rw [G37_11_eq, sel_pos (by omega), sel_pos (by omega), sel_pos (by simp only [ofNat_len]; omega)]
    simp only [Int.toNat_natCast, getD_of hlt]
    rw [sel_pos (by omega), wrap64 (by omega) (by omega)]
    rw [e, Int.natCast_add, Int.natCast_one] at this
    exact this
theorem G37_is (k : Nat) (L : List (List Tm)) (hL : L.length ≤ 1000000) (hk : L.length < k) (hS : lenSum L ≤ 1000000) : G37 k (L, ()) = some (L.flatten, ()) := by
  have h1 := G37_3_is k L hL hS L.length 0 (by omega) k hk
  have h2 := G37_11_is k L hL hS L.length 0 (by omega) k hk
  simp only [List.take_zero, lenSum, Int.natCast_zero, List.flatten_nil] at h1 h2
  rw [G37_eq]
  simp only [ofNat_len]
  rw [h1, ocall_some]
  (try simp only [])
  rw [G52_eq, sel_pos (by omega), sel_pos (by omega), ocall_some, h2, ocall_some]
theorem pad_id {α : Type} {n : Nat} {l : List (List α)} (h : l.length = n) : pad n l = l := by
  subst h
  apply List.ext_getElem?
  intro i
  unfold pad
  rw [List.getElem?_map]
  rcases Nat.lt_or_ge i l.length with h | h
  · rw [List.getElem?_range h, List.getElem?_eq_getElem h]; simp [List.getD, h]
  · rw [List.getElem?_eq_none (by simpa using h), List.getElem?_eq_none h]; rfl
theorem G24_is (k : Nat) (hk : 64 < k) (now room : Int) (I O : List (List Tm)) (hI : I.length = 64) (hO : O.length = 64) (hn : (I.flatten ++ O.flatten).length ≤ 1000000) :
    G24 k ((now, room, I, O, ()), ()) = some (I.flatten ++ O.flatten, ()) := by
  rw [List.length_append, lenSum_flat, lenSum_flat] at hn
  rw [G24_eq, pad_id hI, pad_id hO, G37_is k I (by omega) (by omega) (by omega), ocall_some, G37_is k O (by omega) (by omega) (by omega), ocall_some]
  rw [G37_is k [I.flatten, O.flatten] (by simp) (by simp; omega) (by simp only [lenSum, lenSum_flat]; omega), ocall_some]
  simp
theorem of64 : Int.ofNat 64 = 64 := rfl
def quickT (t : Int) : Nat := (t % 64).toNat
def slowT (t : Int) : Nat := (t / 64 % 64).toNat
theorem quickT_lt (t : Int) : quickT t < 64 := by unfold quickT; omega
theorem slowT_lt (t : Int) : slowT t < 64 := by unfold slowT; omega
theorem wrap_u64 {n : Int} (h0 : 0 ≤ n) (h1 : n ≤ 18446744073709551615) : IntKind.u64.wrap n = n := by simp [IntKind.wrap, IntKind.bits, IntKind.signed]; omega
theorem tdiv64 {n : Int} (h : 0 ≤ n) : n.tdiv 64 = n / 64 := Int.tdiv_eq_ediv_of_nonneg h
theorem tmod64 {n : Int} (h : 0 ≤ n) : n.tmod 64 = n % 64 := Int.tmod_eq_emod_of_nonneg h
theorem iOK_flt {n : Int} (h0 : 0 ≤ n) (h : n < 64) : iOK .i64 (fltOf n) = true := by
  unfold iOK
  rw [isI_int (isI_flt (n := n) (by omega)) (by omega)]; rfl
theorem iVal_flt {n : Int} (h0 : 0 ≤ n) (h : n < 64) : iVal .i64 (fltOf n) = n := by
  unfold iVal
  rw [isI_int (isI_flt (n := n) (by omega)) (by omega)]; rfl
theorem G38_w (k : Nat) (t : Int) (h0 : 0 ≤ t) (h : t ≤ 18446744073709551615) : G38 k (t, ()) = some ((fltOf (t / 64 % 64), fltOf (t % 64)), ()) := by
  rw [G38_eq, tdiv64 h0, tmod64 h0, wrap_u64 (by omega) (by omega), tmod64 (by omega)]
theorem G7000000_is (k : Nat) (t now room : Int) (I O : List (List Tm)) (hI : I.length = 64) (hO : O.length = 64) (h0 : 0 ≤ t) (h : t ≤ 18446744073709551615) :
    G7000000 k (t, now, room, I, O, ()) = some (quickT t, now, room, I, O, ()) := by
  rw [G7000000_eq, G38_w k t h0 h, ocall_some]
  (try simp only [])
  rw [G54_eq, ocall_some]
  (try simp only [])
  rw [iOK_flt (by omega) (by omega), iVal_flt (by omega) (by omega), sel_true, sel_pos (by omega), of64, sel_pos (show t % 64 < 64 by omega), pad_id hI, pad_id hO]
  rfl
theorem G7000001_is (k : Nat) (t now room : Int) (I O : List (List Tm)) (hI : I.length = 64) (hO : O.length = 64) (h0 : 0 ≤ t) (h : t ≤ 18446744073709551615) :
    G7000001 k (t, now, room, I, O, ()) = some (slowT t, now, room, I, O, ()) := by
  rw [G7000001_eq, G38_w k t h0 h, ocall_some]
  (try simp only [])
  rw [G53_eq, ocall_some]
  (try simp only [])
  rw [iOK_flt (by omega) (by omega), iVal_flt (by omega) (by omega), sel_true, sel_pos (by omega), of64, sel_pos (show t / 64 % 64 < 64 by omega), pad_id hI, pad_id hO]
  rfl
theorem G42_is (k : Nat) (t : Int) (h0 : 0 ≤ t) (h : t ≤ 18446744073709551615) : G42 k (t, ()) = some (t / 64, ()) := by
  rw [G42_eq, tdiv64 h0, wrap_u64 (by omega) (by omega)]
def okT (now t : Int) : Prop := now < t ∧ t / 64 - now / 64 < 64
section
variable (k : Nat) (t now room : Int) (I O : List (List Tm)) (hI : I.length = 64) (hO : O.length = 64) (h0 : 0 ≤ t) (h : t ≤ 18446744073709551615) (h1 : 0 ≤ now) (h2 : now ≤ 18446744073709551615)
include hI hO h0 h h1 h2
theorem slot_no (hn : ¬ okT now t) : G28 k (t, now, room, I, O, ()) = some (.inl (now, room, I, O, ())) := by
  unfold okT at hn
  rw [G28_eq, pad_id hI, pad_id hO]
  by_cases c : t ≤ now
  · rw [sel_pos c]
  · rw [sel_neg c, G42_is k t h0 h, ocall_some, G42_is k now h1 h2, ocall_some, sel_neg (by (try simp only []); omega), ocall_some, ocall_some]
    (try simp only [])
    rw [wrap_u64 (by omega) (by omega), sel_neg (by omega)]
theorem slot_in (c : now < t) (c2 : t / 64 = now / 64) : G28 k (t, now, room, I, O, ()) = some (.inr (.inl (quickT t, now, room, I, O, ()))) := by
  rw [G28_eq, pad_id hI, pad_id hO, sel_neg (by omega), G42_is k t h0 h, ocall_some, G42_is k now h1 h2, ocall_some, sel_pos (by (try simp only []); omega), G7000000_is k t now room I O hI hO h0 h, ocall_some]
  (try simp only [])
  rw [pad_id hI, pad_id hO]
theorem slot_out (c : now < t) (c2 : t / 64 ≠ now / 64) (c3 : t / 64 - now / 64 < 64) : G28 k (t, now, room, I, O, ()) = some (.inr (.inr (slowT t, now, room, I, O, ()))) := by
  rw [G28_eq, pad_id hI, pad_id hO, sel_neg (by omega), G42_is k t h0 h, ocall_some, G42_is k now h1 h2, ocall_some, sel_neg (by (try simp only []); omega), ocall_some, ocall_some]
  (try simp only [])
  rw [wrap_u64 (by omega) (by omega), sel_pos (by omega), G7000001_is k t now room I O hI hO h0 h, ocall_some]
  (try simp only [])
  rw [pad_id hI, pad_id hO]
end
end Go.Proofs.Ytjonpmckkmnemaa.G
end
section
set_option linter.unusedVariables false
set_option linter.unusedSimpArgs false
set_option maxRecDepth 100000
namespace Go.Proofs.Ytjonpmckkmnemaa.G
open Go Go.Proofs.Ytjonpmckkmnemaa Th
def chkT (p : Tm → Bool) : Option Tm → List Tm → Bool
  | _, [] => true
  | q, t :: l => p t && ((match q with | none => true | some q => decide (ordT q t < 0)) && chkT p (some t) l)
def prevT (l : List Tm) (j : Nat) : Option Tm := match j with
  | 0 => none
  | j + 1 => l[j]?
theorem prevT_succ {l : List Tm} {j : Nat} (h : j < l.length) : prevT l (j + 1) = some l[j] := List.getElem?_eq_getElem h
theorem prevT_pos {l : List Tm} {j : Nat} (h0 : 0 < j) (h : j - 1 < l.length) : prevT l j = some l[j - 1] := by
  obtain ⟨j, rfl⟩ : ∃ m, j = m + 1 := ⟨j - 1, by omega⟩
  exact prevT_succ h
def pI (now : Int) (i : Nat) (t : Tm) : Bool := decide (now < t.2.1) && decide (t.2.1 / 64 = now / 64) && decide (quickT t.2.1 = i)
def pO (now : Int) (i : Nat) (t : Tm) : Bool := decide (now < t.2.1) && decide (t.2.1 / 64 ≠ now / 64) && decide (t.2.1 / 64 - now / 64 < 64) && decide (slowT t.2.1 = i)
theorem chkT_asc {p : Tm → Bool} : ∀ {l : List Tm} {q : Option Tm}, chkT p q l = true ↔ (∀ t ∈ l, p t = true) ∧ AscT l ∧ ∀ x, q = some x → ∀ t ∈ l, ordT x t = -1
  | [], q => by simp [chkT, AscT]
  | t :: l, q => by
    have ih := chkT_asc (p := p) (l := l) (q := some t)
    have lt : ∀ {a b : Tm}, ordT a b < 0 ↔ ordT a b = -1 := fun {a b} => by rcases ordT_cases a b with e | e | e <;> rw [e] <;> decide
    unfold chkT
    rw [Bool.and_eq_true, Bool.and_eq_true, ih]
    constructor
    · rintro ⟨h1, h2, h3, h4, h5⟩
      refine ⟨fun x hx => ?_, List.pairwise_cons.2 ⟨fun b hb => h5 t rfl b hb, h4⟩, fun x hx y hy => ?_⟩
      · rcases List.mem_cons.1 hx with rfl | hx
        · exact h1
        · exact h3 x hx
      · subst hx
        have h2 := lt.1 (of_decide_eq_true h2)
        rcases List.mem_cons.1 hy with rfl | hy
        · exact h2
        · exact ordT_trans h2 (h5 t rfl y hy)
    · rintro ⟨h1, h2, h3⟩
      have h2 := List.pairwise_cons.1 h2
      refine ⟨h1 t (.head _), ?_, fun x hx => h1 x (.tail _ hx), h2.2, fun x hx y hy => by cases hx; exact h2.1 y hy⟩
      cases q with
      | none => rfl
      | some x => exact decide_eq_true (lt.2 (h3 x rfl t (.head _)))
theorem stand_in_loop (k : Nat) (hk : 2 < k) (i : Nat) (hi : i < 64) (now room : Int) (I O : List (List Tm)) (hI : I.length = 64) (hO : O.length = 64) (h1 : 0 ≤ now) (h2 : now ≤ 18446744073709551615) (l : List Tm) (hl : I.getD i [] = l)
    (hb : ∀ t ∈ l, 0 ≤ t.2.1 ∧ t.2.1 ≤ 18446744073709551615) (hn : l.length ≤ 1000000) : ∀ (m j : Nat), j + m = l.length → ∀ n, m < n →
    G7000002_2 k n (i, l, (l.length : Int), (j : Int), now, room, I, O, ()) = some (sel (chkT (pI now i) (prevT l j) (l.drop j)) (.inl (now, room, I, O, ())) (.inr (false, now, room, I, O, ()))) := by
  intro m
  induction m with
  | zero =>
    intro j hj n hn'
    obtain ⟨n, rfl⟩ : ∃ m, n = m + 1 := ⟨n - 1, by omega⟩
    rw [G7000002_2_eq, sel_neg (by omega), pad_id hI, pad_id hO, List.drop_of_length_le (by omega)]
    rfl
  | succ m ih =>
    intro j hj n hn'
    obtain ⟨n, rfl⟩ : ∃ m, n = m + 1 := ⟨n - 1, by omega⟩
    have hlt : j < l.length := by omega
    have hrec := ih (j + 1) (by omega) n (by omega)
    rw [prevT_succ hlt] at hrec
    rw [List.drop_eq_getElem_cons hlt]
    have hbj := hb _ (List.getElem_mem hlt)
    have hord : 0 < j → G31 k (l[j - 1], l[j], ()) = some (ordT l[j - 1] l[j], ()) := fun _ => G31_is k hk _ _
    have hpr : 0 < j → prevT l j = some l[j - 1] := fun h => prevT_pos h (by omega)
    rw [G7000002_2_eq, sel_pos (by omega), sel_pos (by omega), sel_pos (by simp only [ofNat_len]; omega)]
    simp only [Int.toNat_natCast, getD_of hlt]
    generalize l[j] = t at hrec hbj hord ⊢
    rw [pad_id hI, pad_id hO]
    by_cases c : okT now t.2.1
    case neg =>
      rw [slot_no k _ now room I O hI hO hbj.1 hbj.2 h1 h2 c, ocall_some, esel_inl]
      have : pI now i t = false := by
        unfold okT at c; unfold pI
        simp only [Bool.and_eq_false_iff, decide_eq_false_iff_not]; omega
      simp only [chkT, this, Bool.false_and, sel_false, pad_id hI, pad_id hO]
    obtain ⟨c1, c3⟩ := c
    by_cases c2 : t.2.1 / 64 = now / 64
    case neg =>
      rw [slot_out k _ now room I O hI hO hbj.1 hbj.2 h1 h2 c1 c2 c3, ocall_some, esel_inr, esel_inr]
      have : pI now i t = false := by
        unfold pI
        simp only [Bool.and_eq_false_iff, decide_eq_false_iff_not]; omega
      have hne : ¬ (66 + slowT t.2.1 = 2 + i) := by omega
      simp only [decide_eq_false hne, Bool.not_false, sel_true, chkT, this, Bool.false_and, sel_false, pad_id hI, pad_id hO]
    rw [slot_in k _ now room I O hI hO hbj.1 hbj.2 h1 h2 c1 c2, ocall_some, esel_inr, esel_inl]
    (try simp only [])
    by_cases c4 : quickT t.2.1 = i
    case neg =>
      have : pI now i t = false := by
        unfold pI
        simp only [Bool.and_eq_false_iff, decide_eq_false_iff_not]; omega
      have hne : ¬ (2 + quickT t.2.1 = 2 + i) := by omega
      simp only [decide_eq_false hne, Bool.not_false, sel_true, chkT, this, Bool.false_and, sel_false, pad_id hI, pad_id hO]
    have hp : pI now i t = true := by
      unfold pI
      simp only [Bool.and_eq_true, decide_eq_true_eq]; exact ⟨⟨c1, c2⟩, c4⟩
    have heq : 2 + quickT t.2.1 = 2 + i := by omega
    rw [pad_id hI, pad_id hO, hl]
    simp only [decide_eq_true heq, Bool.not_true, sel_false]
    simp only [chkT, hp, Bool.true_and]
    rw [wrap64 (n := (j : Int) + 1) (by omega) (by omega), show (j : Int) + 1 = ((j + 1 : Nat) : Int) by omega]
    by_cases c5 : 0 < j
    · rw [sel_pos (by omega), wrap64 (by omega) (by omega), sel_pos (by omega), sel_pos (by simp only [ofNat_len]; omega), show ((j : Int) - 1).toNat = j - 1 by omega, getD_of (show j - 1 < l.length by omega)]
      rw [show G31 k (((l[j - 1].1.1, l[j - 1].1.2.1, ()), l[j - 1].2.1, ()), ((t.1.1, t.1.2.1, ()), t.2.1, ()), ()) = _ from hord c5, ocall_some, hpr c5]
      (try simp only [])
      rcases ordT_cases l[j - 1] t with e | e | e
      · rw [e, sel_neg (by omega), hrec]
        simp
      · rw [e, sel_pos (by omega)]
        simp
      · rw [e, sel_pos (by omega)]
        simp
    · have : j = 0 := by omega
      subst this
      rw [sel_neg (by omega), hrec]
      rfl
theorem stand_in (k : Nat) (hk : 2 < k) (i : Nat) (hi : i < 64) (now room : Int) (I O : List (List Tm)) (hI : I.length = 64) (hO : O.length = 64) (h1 : 0 ≤ now) (h2 : now ≤ 18446744073709551615)
    (hb : ∀ t ∈ I.getD i [], 0 ≤ t.2.1 ∧ t.2.1 ≤ 18446744073709551615) (hn : (I.getD i []).length ≤ 1000000) (hkn : (I.getD i []).length < k) :
    G7000002 k (i, now, room, I, O, ()) = some (chkT (pI now i) none (I.getD i []), now, room, I, O, ()) := by
  have h := stand_in_loop k hk i hi now room I O hI hO h1 h2 _ rfl hb hn (I.getD i []).length 0 (by omega) k hkn
  rw [G7000002_eq, pad_id hI, pad_id hO]
  simp only [ofNat_len]
  rw [show G7000002_2 k k (i, I.getD i [], ((I.getD i []).length : Int), 0, now, room, I, O, ()) = _ from h, ocall_some]
  rw [List.drop_zero, show prevT (I.getD i []) 0 = none from rfl]
  cases chkT (pI now i) none (I.getD i []) with
  | true => rw [sel_true, esel_inl]; (try simp only []); rw [pad_id hI, pad_id hO]
  | false => rw [sel_false, esel_inr]; (try simp only []); rw [pad_id hI, pad_id hO]
theorem stand_out_loop (k : Nat) (hk : 2 < k) (i : Nat) (hi : i < 64) (now room : Int) (I O : List (List Tm)) (hI : I.length = 64) (hO : O.length = 64) (h1 : 0 ≤ now) (h2 : now ≤ 18446744073709551615) (l : List Tm) (hl : O.getD i [] = l)
    (hb : ∀ t ∈ l, 0 ≤ t.2.1 ∧ t.2.1 ≤ 18446744073709551615) (hn : l.length ≤ 1000000) : ∀ (m j : Nat), j + m = l.length → ∀ n, m < n →
    G7000003_2 k n (i, l, (l.length : Int), (j : Int), now, room, I, O, ()) = some (sel (chkT (pO now i) (prevT l j) (l.drop j)) (.inl (now, room, I, O, ())) (.inr (false, now, room, I, O, ()))) := by
  intro m
  induction m with
  | zero =>
    intro j hj n hn'
    obtain ⟨n, rfl⟩ : ∃ m, n = m + 1 := ⟨n - 1, by omega⟩
    rw [G7000003_2_eq, sel_neg (by omega), pad_id hI, pad_id hO, List.drop_of_length_le (by omega)]
    rfl
  | succ m ih =>
    intro j hj n hn'
    obtain ⟨n, rfl⟩ : ∃ m, n = m + 1 := ⟨n - 1, by omega⟩
    have hlt : j < l.length := by omega
    have hrec := ih (j + 1) (by omega) n (by omega)
    rw [prevT_succ hlt] at hrec
    rw [List.drop_eq_getElem_cons hlt]
    have hbj := hb _ (List.getElem_mem hlt)
    have hord : 0 < j → G31 k (l[j - 1], l[j], ()) = some (ordT l[j - 1] l[j], ()) := fun _ => G31_is k hk _ _
    have hpr : 0 < j → prevT l j = some l[j - 1] := fun h => prevT_pos h (by omega)
    rw [G7000003_2_eq, sel_pos (by omega), sel_pos (by omega), sel_pos (by simp only [ofNat_len]; omega)]
    simp only [Int.toNat_natCast, getD_of hlt]
    generalize l[j] = t at hrec hbj hord ⊢
    rw [pad_id hI, pad_id hO]
    by_cases c : okT now t.2.1
    case neg =>
      rw [slot_no k _ now room I O hI hO hbj.1 hbj.2 h1 h2 c, ocall_some, esel_inl]
      have : pO now i t = false := by
        unfold okT at c; unfold pO
        simp only [Bool.and_eq_false_iff, decide_eq_false_iff_not]; omega
      simp only [chkT, this, Bool.false_and, sel_false, pad_id hI, pad_id hO]
    obtain ⟨c1, c3⟩ := c
    by_cases c2 : t.2.1 / 64 = now / 64
    · rw [slot_in k _ now room I O hI hO hbj.1 hbj.2 h1 h2 c1 c2, ocall_some, esel_inr, esel_inl]
      have : pO now i t = false := by
        unfold pO
        simp only [Bool.and_eq_false_iff, decide_eq_false_iff_not]; omega
      have hq := quickT_lt t.2.1
      have hne : ¬ (2 + quickT t.2.1 = 66 + i) := by omega
      simp only [decide_eq_false hne, Bool.not_false, sel_true, chkT, this, Bool.false_and, sel_false, pad_id hI, pad_id hO]
    rw [slot_out k _ now room I O hI hO hbj.1 hbj.2 h1 h2 c1 c2 c3, ocall_some, esel_inr, esel_inr]
    (try simp only [])
    by_cases c4 : slowT t.2.1 = i
    case neg =>
      have : pO now i t = false := by
        unfold pO
        simp only [Bool.and_eq_false_iff, decide_eq_false_iff_not]; omega
      have hne : ¬ (66 + slowT t.2.1 = 66 + i) := by omega
      simp only [decide_eq_false hne, Bool.not_false, sel_true, chkT, this, Bool.false_and, sel_false, pad_id hI, pad_id hO]
    have hp : pO now i t = true := by
      unfold pO
      simp only [Bool.and_eq_true, decide_eq_true_eq]; exact ⟨⟨⟨c1, c2⟩, c3⟩, c4⟩
    have heq : 66 + slowT t.2.1 = 66 + i := by omega
    rw [pad_id hI, pad_id hO, hl]
    simp only [decide_eq_true heq, Bool.not_true, sel_false]
    simp only [chkT, hp, Bool.true_and]
    rw [wrap64 (n := (j : Int) + 1) (by omega) (by omega), show (j : Int) + 1 = ((j + 1 : Nat) : Int) by omega]
    by_cases c5 : 0 < j
    · rw [sel_pos (by omega), wrap64 (by omega) (by omega), sel_pos (by omega), sel_pos (by simp only [ofNat_len]; omega), show ((j : Int) - 1).toNat = j - 1 by omega, getD_of (show j - 1 < l.length by omega)]
      rw [show G31 k (((l[j - 1].1.1, l[j - 1].1.2.1, ()), l[j - 1].2.1, ()), ((t.1.1, t.1.2.1, ()), t.2.1, ()), ()) = _ from hord c5, ocall_some, hpr c5]
      (try simp only [])
      rcases ordT_cases l[j - 1] t with e | e | e
      · rw [e, sel_neg (by omega), hrec]
        simp
      · rw [e, sel_pos (by omega)]
        simp
      · rw [e, sel_pos (by omega)]
        simp
    · have : j = 0 := by omega
      subst this
      rw [sel_neg (by omega), hrec]
      rfl
theorem stand_out (k : Nat) (hk : 2 < k) (i : Nat) (hi : i < 64) (now room : Int) (I O : List (List Tm)) (hI : I.length = 64) (hO : O.length = 64) (h1 : 0 ≤ now) (h2 : now ≤ 18446744073709551615)
    (hb : ∀ t ∈ O.getD i [], 0 ≤ t.2.1 ∧ t.2.1 ≤ 18446744073709551615) (hn : (O.getD i []).length ≤ 1000000) (hkn : (O.getD i []).length < k) :
    G7000003 k (i, now, room, I, O, ()) = some (chkT (pO now i) none (O.getD i []), now, room, I, O, ()) := by
  have h := stand_out_loop k hk i hi now room I O hI hO h1 h2 _ rfl hb hn (O.getD i []).length 0 (by omega) k hkn
  rw [G7000003_eq, pad_id hI, pad_id hO]
  simp only [ofNat_len]
  rw [show G7000003_2 k k (i, O.getD i [], ((O.getD i []).length : Int), 0, now, room, I, O, ()) = _ from h, ocall_some]
  rw [List.drop_zero, show prevT (O.getD i []) 0 = none from rfl]
  cases chkT (pO now i) none (O.getD i []) with
  | true => rw [sel_true, esel_inl]; (try simp only []); rw [pad_id hI, pad_id hO]
  | false => rw [sel_false, esel_inr]; (try simp only []); rw [pad_id hI, pad_id hO]
end Go.Proofs.Ytjonpmckkmnemaa.G
end
section
set_option linter.unusedVariables false
set_option linter.unusedSimpArgs false
set_option maxRecDepth 100000
namespace Go.Proofs.Ytjonpmckkmnemaa.G
open Go Go.Proofs.Ytjonpmckkmnemaa Th
structure WB (now : Int) (I O : List (List Tm)) : Prop where
  hI : I.length = 64
  hO : O.length = 64
  h1 : 0 ≤ now
  h2 : now ≤ 18446744073709551615
  hb : ∀ t ∈ I.flatten ++ O.flatten, 0 ≤ t.2.1 ∧ t.2.1 ≤ 18446744073709551615
  hn : (I.flatten ++ O.flatten).length ≤ 10000
theorem row_mem {L : List (List Tm)} {i : Nat} {t : Tm} (h : t ∈ L.getD i []) : t ∈ L.flatten := by
  rcases Nat.lt_or_ge i L.length with hi | hi
  · rw [getD_of hi] at h
    exact List.mem_flatten.2 ⟨_, List.getElem_mem hi, h⟩
  · rw [List.getD_eq_getElem?_getD, List.getElem?_eq_none hi] at h; cases h
theorem mem_row {L : List (List Tm)} {t : Tm} (h : t ∈ L.flatten) : ∃ i, i < L.length ∧ t ∈ L.getD i [] := by
  obtain ⟨l, hl, ht⟩ := List.mem_flatten.1 h
  obtain ⟨i, hi, e⟩ := List.getElem_of_mem hl
  exact ⟨i, hi, by rw [getD_of hi, e]; exact ht⟩
theorem row_len (L : List (List Tm)) : ∀ i, (L.getD i []).length ≤ L.flatten.length := by
  induction L with
  | nil => intro i; simp
  | cons a L ih =>
    intro i
    cases i with
    | zero => simp
    | succ i => have := ih i; simp only [List.getD_cons_succ, List.flatten_cons, List.length_append]; omega
def stR (now : Int) (I O : List (List Tm)) (i : Nat) : Bool := chkT (pI now i) none (I.getD i []) && chkT (pO now i) none (O.getD i [])
theorem stand_loop (k : Nat) (hk : 20000 < k) (now room : Int) (I O : List (List Tm)) (hw : WB now I O) (l : List Tm) : ∀ (j i : Nat), i + j = 64 → ∀ n, j < n →
    G17_5 k n (l, (i : Int), now, room, I, O, ()) = some (sel ((List.range' i j).all (stR now I O)) (.inl (l, ())) (.inr (false, ()))) := by
  intro j
  induction j with
  | zero =>
    intro i hij n hn
    obtain ⟨n, rfl⟩ : ∃ m, n = m + 1 := ⟨n - 1, by omega⟩
    rw [G17_5_eq, sel_neg (by omega)]
    rfl
  | succ j ih =>
    intro i hij n hn
    obtain ⟨n, rfl⟩ : ∃ m, n = m + 1 := ⟨n - 1, by omega⟩
    have hrec := ih (i + 1) (by omega) n (by omega)
    have hlen := hw.hn
    rw [List.length_append] at hlen
    have hIl := row_len I i
    have hOl := row_len O i
    rw [G17_5_eq, of64, sel_pos (by omega), sel_pos (by omega), sel_pos (by omega), pad_id hw.hI, pad_id hw.hO, Int.toNat_natCast]
    rw [stand_in k (by omega) i (by omega) now room I O hw.hI hw.hO hw.h1 hw.h2 (fun t ht => hw.hb t (List.mem_append_left _ (row_mem ht))) (by omega) (by omega), ocall_some]
    rw [List.range'_succ, List.all_cons]
    unfold stR
    cases c1 : chkT (pI now i) none (I.getD i []) with
    | false => rw [Bool.not_false, sel_true]; simp only [Bool.false_and, sel_false]
    | true =>
      rw [Bool.not_true, sel_false, sel_pos (by omega), sel_pos (by omega)]
      (try simp only [])
      rw [pad_id hw.hI, pad_id hw.hO, stand_out k (by omega) i (by omega) now room I O hw.hI hw.hO hw.h1 hw.h2 (fun t ht => hw.hb t (List.mem_append_right _ (row_mem ht))) (by omega) (by omega), ocall_some]
      cases c2 : chkT (pO now i) none (O.getD i []) with
      | false => rw [Bool.not_false, sel_true]; simp only [Bool.true_and, Bool.false_and, sel_false]
      | true =>
        rw [Bool.not_true, sel_false]
        simp only [Bool.true_and]
        rw [pad_id hw.hI, pad_id hw.hO, wrap64 (by omega) (by omega), show (i : Int) + 1 = ((i + 1 : Nat) : Int) by omega]
        exact hrec
def keysD : List Key → List Tm → Bool
  | _, [] => true
  | s, t :: l => !decide (t.1 ∈ s) && keysD (s ++ [t.1]) l
theorem keysD_nodup : ∀ {l : List Tm} {s : List Key}, keysD s l = true ↔ (l.map (·.1)).Nodup ∧ ∀ t ∈ l, t.1 ∉ s
  | [], s => by simp [keysD]
  | t :: l, s => by
    unfold keysD
    rw [Bool.and_eq_true, keysD_nodup, Bool.not_eq_true', decide_eq_false_iff_not, List.map_cons, List.nodup_cons]
    constructor
    · rintro ⟨h1, h2, h3⟩
      refine ⟨⟨fun hm => ?_, h2⟩, fun x hx => ?_⟩
      · obtain ⟨x, hx, e⟩ := List.mem_map.1 hm
        exact h3 x hx (by rw [e]; simp)
      · rcases List.mem_cons.1 hx with rfl | hx
        · exact h1
        · exact fun hm => h3 x hx (List.mem_append_left _ hm)
    · rintro ⟨⟨h1, h2⟩, h3⟩
      refine ⟨h3 t (.head _), h2, fun x hx hm => ?_⟩
      rcases List.mem_append.1 hm with hm | hm
      · exact h3 x (.tail _ hx) hm
      · rw [List.mem_singleton] at hm
        exact h1 (List.mem_map.2 ⟨x, hx, hm⟩)
theorem any_key (s : List Key) (t : Tm) : (s.any fun y => sameI t.1.1 y.1 && (sameS t.1.2.1 y.2.1 && true)) = decide (t.1 ∈ s) := by
  induction s with
  | nil => simp
  | cons y s ih =>
    rw [List.any_cons, ih, sameK t.1 y]
    simp only [List.mem_cons, Bool.decide_or]
theorem seen_loop (k : Nat) (l : List Tm) (hn : l.length ≤ 1000000) : ∀ (m j : Nat), j + m = l.length → ∀ (s : List Key), ∀ n, m < n →
    G17_12 k n (s, l, (l.length : Int), (j : Int), ()) = some (sel (keysD s (l.drop j)) (.inl ()) (.inr (false, ()))) := by
  intro m
  induction m with
  | zero =>
    intro j hj s n hn'
    obtain ⟨n, rfl⟩ : ∃ m, n = m + 1 := ⟨n - 1, by omega⟩
    rw [G17_12_eq, sel_neg (by omega), List.drop_of_length_le (by omega)]
    rfl
  | succ m ih =>
    intro j hj s n hn'
    obtain ⟨n, rfl⟩ : ∃ m, n = m + 1 := ⟨n - 1, by omega⟩
    have hlt : j < l.length := by omega
    rw [List.drop_eq_getElem_cons hlt]
    have hrec := ih (j + 1) (by omega) (s ++ [l[j].1]) n (by omega)
    rw [G17_12_eq, sel_pos (by omega), sel_pos (by omega), sel_pos (by simp only [ofNat_len]; omega), Int.toNat_natCast, sel_pos hlt]
    simp only [getD_of hlt]
    generalize l[j] = t at hrec ⊢
    rw [any_key]
    unfold keysD
    cases c : decide (t.1 ∈ s) with
    | true => rw [sel_true]; rfl
    | false =>
      rw [sel_false, Bool.not_false, sel_true, wrap64 (by omega) (by omega), show (j : Int) + 1 = ((j + 1 : Nat) : Int) by omega, Bool.true_and]
      exact hrec
def rowsOK (now : Int) (I O : List (List Tm)) : Bool := (List.range' 0 64).all (stR now I O)
def flatW (w : Wl) : List Tm := w.2.2.1.flatten ++ w.2.2.2.1.flatten
def rightW (w : Wl) : Bool := decide (0 ≤ w.2.1) && decide (w.2.1 ≤ 256) && decide ((flatW w).length ≤ w.2.1) && rowsOK w.1 w.2.2.1 w.2.2.2.1 && keysD [] (flatW w)
theorem G17_is (k : Nat) (hk : 20000 < k) (now room : Int) (I O : List (List Tm)) (hw : WB now I O) : G17 k ((now, room, I, O, ()), ()) = some (rightW (now, room, I, O, ()), ()) := by
  have hn := hw.hn
  have h1 := stand_loop k hk now room I O hw (I.flatten ++ O.flatten) 64 0 (by omega) k (by omega)
  have h2 := seen_loop k (I.flatten ++ O.flatten) (by omega) (I.flatten ++ O.flatten).length 0 (by omega) [] k (by omega)
  rw [G17_eq, pad_id hw.hI, pad_id hw.hO, G24_is k (by omega) now room I O hw.hI hw.hO (by omega), ocall_some]
  unfold rightW flatW
  simp only [ofNat_len]
  by_cases c1 : room < 0
  · rw [sel_pos c1, decide_eq_false (show ¬ 0 ≤ room by omega)]; rfl
  rw [sel_neg c1, decide_eq_true (show 0 ≤ room by omega)]
  by_cases c2 : 256 < room
  · rw [sel_pos c2, decide_eq_false (show ¬ room ≤ 256 by omega)]; rfl
  rw [sel_neg c2, decide_eq_true (show room ≤ 256 by omega)]
  by_cases c3 : room < ((I.flatten ++ O.flatten).length : Int)
  · rw [sel_pos c3, decide_eq_false (show ¬ ((I.flatten ++ O.flatten).length : Int) ≤ room by omega)]; rfl
  rw [sel_neg c3, decide_eq_true (show ((I.flatten ++ O.flatten).length : Int) ≤ room by omega)]
  simp only [Bool.true_and]
  rw [show G17_5 k k (I.flatten ++ O.flatten, 0, now, room, I, O, ()) = _ from h1, ocall_some]
  unfold rowsOK
  cases (List.range' 0 64).all (stR now I O) with
  | false => rw [sel_false, esel_inr]; rfl
  | true =>
    rw [sel_true, esel_inl]
    simp only [ofNat_len]
    rw [show G17_12 k k ([], I.flatten ++ O.flatten, ((I.flatten ++ O.flatten).length : Int), 0, ()) = _ from h2, ocall_some, List.drop_zero]
    cases keysD [] (I.flatten ++ O.flatten) with
    | false => rw [sel_false, esel_inr]; rfl
    | true => rw [sel_true, esel_inl]; rfl
end Go.Proofs.Ytjonpmckkmnemaa.G
end
section
set_option linter.unusedVariables false
set_option linter.unusedSimpArgs false
set_option maxRecDepth 100000
namespace Go.Proofs.Ytjonpmckkmnemaa.G
open Go Go.Proofs.Ytjonpmckkmnemaa Th
theorem G50_is (k : Nat) (a b : Tm) : G50 k (a, b, ()) = some (decide (ordT a b = -1), ()) := by
  obtain ⟨⟨a1, a2, ⟨⟩⟩, a3, ⟨⟩⟩ := a
  obtain ⟨⟨b1, b2, ⟨⟩⟩, b3, ⟨⟩⟩ := b
  rw [G50_eq]
  unfold ordT
  (try simp only [])
  by_cases h : a3 < b3
  · rw [sel_pos h, if_pos h]; rfl
  · rw [sel_neg h, if_neg h]
    by_cases h2 : a3 = b3
    · rw [sel_pos h2, if_neg (by omega), show G70 k ((a1, a2, ()), (b1, b2, ()), ()) = _ from G70_is k (a1, a2, ()) (b1, b2, ()), ocall_some]
      (try simp only [])
      rcases ordK_cases (a1, a2, ()) (b1, b2, ()) with e | e | e <;> rw [e] <;> rfl
    · rw [sel_neg h2, if_pos (by omega)]; rfl
def posT (t : Tm) : List Tm → Nat
  | [] => 0
  | x :: l => if ordT t x = -1 then 0 else posT t l + 1
theorem posT_le (t : Tm) : ∀ l : List Tm, posT t l ≤ l.length
  | [] => Nat.le_refl _
  | x :: l => by unfold posT; have := posT_le t l; split <;> simp only [List.length_cons] <;> omega
def insT (t : Tm) (l : List Tm) : List Tm := l.take (posT t l) ++ [t] ++ l.drop (posT t l)
theorem insT_len (t : Tm) (l : List Tm) : (insT t l).length = l.length + 1 := by
  have := posT_le t l
  unfold insT
  simp only [List.length_append, List.length_take, List.length_drop, List.length_singleton]; omega
theorem insT_nil (t : Tm) : insT t [] = [t] := rfl
theorem insT_cons (t x : Tm) (l : List Tm) : insT t (x :: l) = if ordT t x = -1 then t :: x :: l else x :: insT t l := by
  unfold insT
  rw [posT]
  split <;> simp
theorem insT_perm (t : Tm) : ∀ l : List Tm, (insT t l).Perm (t :: l)
  | [] => by rw [insT_nil]
  | x :: l => by
    rw [insT_cons]
    split
    · exact .refl _
    · exact ((insT_perm t l).cons x).trans (.swap _ _ _)
theorem insT_sort {t : Tm} : ∀ {l : List Tm}, SortT l → SortT (insT t l)
  | [], _ => by rw [insT_nil]; exact List.pairwise_singleton _ _
  | x :: l, h => by
    have h' := List.pairwise_cons.1 h
    rw [insT_cons]
    split
    · rename_i c
      refine List.pairwise_cons.2 ⟨fun y hy => ?_, h⟩
      rcases List.mem_cons.1 hy with rfl | hy
      · rw [c]; decide
      · exact ordT_le_trans (by rw [c]; decide) (h'.1 y hy)
    · rename_i c
      refine List.pairwise_cons.2 ⟨fun y hy => ?_, insT_sort h'.2⟩
      rcases List.mem_cons.1 ((insT_perm t l).mem_iff.1 hy) with rfl | hy
      · rw [ordT_flip]
        rcases ordT_cases y x with e | e | e
        · exact absurd e c
        · rw [e]; decide
        · rw [e]; decide
      · exact h'.1 y hy
theorem ins_loop (k : Nat) (l : List Tm) (hn : l.length ≤ 10000) (t : Tm) : ∀ (m j : Nat), j + m = l.length → ∀ n, m < n →
    G33_3 k n (l, l.take j, (j : Int), t.1.1, t.1.2.1, t.2.1, ()) = some (l, l.take (j + posT t (l.drop j)), ((j + posT t (l.drop j) : Nat) : Int), t.1.1, t.1.2.1, t.2.1, ()) := by
  intro m
  induction m with
  | zero =>
    intro j hj n hn'
    obtain ⟨n, rfl⟩ : ∃ m, n = m + 1 := ⟨n - 1, by omega⟩
    rw [G33_3_eq, sel_neg (by simp only [ofNat_len]; omega), List.drop_of_length_le (by omega)]
    rfl
  | succ m ih =>
    intro j hj n hn'
    obtain ⟨n, rfl⟩ : ∃ m, n = m + 1 := ⟨n - 1, by omega⟩
    have hlt : j < l.length := by omega
    have hrec := ih (j + 1) (by omega) n (by omega)
    rw [List.take_succ_eq_append_getElem hlt] at hrec
    rw [List.drop_eq_getElem_cons hlt, posT]
    have hless := G50_is k t l[j]
    rw [G33_3_eq, sel_pos (by simp only [ofNat_len]; omega), sel_pos (by omega), sel_pos (by simp only [ofNat_len]; omega)]
    simp only [Int.toNat_natCast, getD_of hlt]
    generalize l[j] = x at hrec hless ⊢
    rw [show G50 k (((t.1.1, t.1.2.1, ()), t.2.1, ()), ((x.1.1, x.1.2.1, ()), x.2.1, ()), ()) = _ from hless, ocall_some]
    (try simp only [])
    by_cases c : ordT t x = -1
    · rw [decide_eq_true c, Bool.not_true, sel_false, if_pos c, Nat.add_zero]
    · rw [decide_eq_false c, Bool.not_false, sel_true, if_neg c, sel_pos (by omega), sel_pos (by simp only [ofNat_len]; omega), sel_pos (by rw [List.length_take]; omega), wrap64 (by omega) (by omega), show (j : Int) + 1 = ((j + 1 : Nat) : Int) by omega]
      rw [show j + (posT t (List.drop (j + 1) l) + 1) = j + 1 + posT t (List.drop (j + 1) l) by omega]
      exact hrec
theorem G33_is (k : Nat) (hk : 10001 < k) (l : List Tm) (hn : l.length ≤ 10000) (t : Tm) : G33 k (l, t, ()) = some (insT t l, ()) := by
  obtain ⟨⟨t1, t2, ⟨⟩⟩, t3, ⟨⟩⟩ := t
  have h := ins_loop k l hn ((t1, t2, ()), t3, ()) l.length 0 (by omega) k (by omega)
  have hp := posT_le ((t1, t2, ()), t3, ()) l
  rw [List.drop_zero, Nat.zero_add, List.take_zero] at h
  rw [G33_eq, show G33_3 k k (l, [], 0, t1, t2, t3, ()) = _ from h, ocall_some]
  simp only [ofNat_len]
  rw [sel_pos (by rw [List.length_take]; omega), sel_pos (by omega), sel_pos (by omega), sel_pos (by omega), sel_pos (by omega)]
  simp only [Int.toNat_natCast, List.take_length]
  rw [sel_pos (by simp only [List.length_append, List.length_take, List.length_drop, List.length_singleton]; omega)]
  rfl
theorem list_rowI (k : Nat) (hk : 20000 < k) (now room : Int) (I O : List (List Tm)) (hI : I.length = 64) (hO : O.length = 64) (i : Nat) (hi : i < 64) (l : List Tm) (hl : I.getD i [] = l) (hll : l.length ≤ 10000) : ∀ (m j : Nat), j + m = l.length → ∀ (out : List Tm), out.length + m ≤ 10000 → ∀ n, m < n →
    G19_6 k n ((now, room, I, O, ()), out, (i : Int), (j : Int), ()) = some ((now, room, I, O, ()), (l.drop j).foldl (fun l t => insT t l) out, (i : Int), ()) := by
  intro m
  induction m with
  | zero =>
    intro j hj out ho n hn'
    obtain ⟨n, rfl⟩ : ∃ m, n = m + 1 := ⟨n - 1, by omega⟩
    rw [G19_6_eq, of64, sel_pos (by omega), sel_pos (by omega), pad_id hI, Int.toNat_natCast, hl, sel_neg (by simp only [ofNat_len]; omega), List.drop_of_length_le (by omega)]
    rfl
  | succ m ih =>
    intro j hj out ho n hn'
    obtain ⟨n, rfl⟩ : ∃ m, n = m + 1 := ⟨n - 1, by omega⟩
    rw [G19_6_eq, of64, sel_pos (by omega), sel_pos (by omega), pad_id hI, Int.toNat_natCast i, hl, Int.toNat_natCast j]
    have hlt : j < l.length := by omega
    rw [sel_pos (by simp only [ofNat_len]; omega), sel_pos (by omega), sel_pos (by omega), sel_pos (by omega), sel_pos (by simp only [ofNat_len]; omega), getD_of hlt, List.drop_eq_getElem_cons hlt]
    have hrec := ih (j + 1) (by omega) (insT l[j] out) (by rw [insT_len]; omega) n (by omega)
    generalize l[j] = t at hrec ⊢
    rw [show G33 k (out, ((t.1.1, t.1.2.1, ()), t.2.1, ()), ()) = _ from G33_is k (by omega) out (by omega) t, ocall_some]
    (try simp only [])
    rw [wrap64 (by omega) (by omega), show (j : Int) + 1 = ((j + 1 : Nat) : Int) by omega]
    exact hrec
theorem list_rowO (k : Nat) (hk : 20000 < k) (now room : Int) (I O : List (List Tm)) (hI : I.length = 64) (hO : O.length = 64) (i : Nat) (hi : i < 64) (l : List Tm) (hl : O.getD i [] = l) (hll : l.length ≤ 10000) : ∀ (m j : Nat), j + m = l.length → ∀ (out : List Tm), out.length + m ≤ 10000 → ∀ n, m < n →
    G19_10 k n ((now, room, I, O, ()), out, (i : Int), (j : Int), ()) = some ((now, room, I, O, ()), (l.drop j).foldl (fun l t => insT t l) out, (i : Int), ()) := by
  intro m
  induction m with
  | zero =>
    intro j hj out ho n hn'
    obtain ⟨n, rfl⟩ : ∃ m, n = m + 1 := ⟨n - 1, by omega⟩
    rw [G19_10_eq, of64, sel_pos (by omega), sel_pos (by omega), pad_id hO, Int.toNat_natCast, hl, sel_neg (by simp only [ofNat_len]; omega), List.drop_of_length_le (by omega)]
    rfl
  | succ m ih =>
    intro j hj out ho n hn'
    obtain ⟨n, rfl⟩ : ∃ m, n = m + 1 := ⟨n - 1, by omega⟩
    rw [G19_10_eq, of64, sel_pos (by omega), sel_pos (by omega), pad_id hO, Int.toNat_natCast i, hl, Int.toNat_natCast j]
    have hlt : j < l.length := by omega
    rw [sel_pos (by simp only [ofNat_len]; omega), sel_pos (by omega), sel_pos (by omega), sel_pos (by omega), sel_pos (by simp only [ofNat_len]; omega), getD_of hlt, List.drop_eq_getElem_cons hlt]
    have hrec := ih (j + 1) (by omega) (insT l[j] out) (by rw [insT_len]; omega) n (by omega)
    generalize l[j] = t at hrec ⊢
    rw [show G33 k (out, ((t.1.1, t.1.2.1, ()), t.2.1, ()), ()) = _ from G33_is k (by omega) out (by omega) t, ocall_some]
    (try simp only [])
    rw [wrap64 (by omega) (by omega), show (j : Int) + 1 = ((j + 1 : Nat) : Int) by omega]
    exact hrec
def sortL (l : List Tm) : List Tm := l.foldl (fun l t => insT t l) []
theorem foldl_perm : ∀ (l out : List Tm), (l.foldl (fun l t => insT t l) out).Perm (out ++ l)
  | [], out => by simp
  | t :: l, out => by
    rw [List.foldl_cons]
    refine (foldl_perm l (insT t out)).trans ?_
    refine ((insT_perm t out).append_right l).trans ?_
    exact (List.perm_middle (l₁ := out)).symm
theorem foldl_sort : ∀ (l out : List Tm), SortT out → SortT (l.foldl (fun l t => insT t l) out)
  | [], out, h => h
  | t :: l, out, h => by rw [List.foldl_cons]; exact foldl_sort l _ (insT_sort h)
theorem sortL_perm (l : List Tm) : (sortL l).Perm l := by simpa [sortL] using foldl_perm l []
theorem sortL_sort (l : List Tm) : SortT (sortL l) := foldl_sort l [] .nil
theorem sortL_eq {l m : List Tm} (h : l.Perm m) : sortL l = sortL m := sort_eq (sortL_sort l) (sortL_sort m) (((sortL_perm l).trans h).trans (sortL_perm m).symm)
theorem sortL_of {l m : List Tm} (h : SortT l) (hp : l.Perm m) : sortL m = l := sort_eq (sortL_sort m) h ((sortL_perm m).trans hp.symm)
def inter (I O : List (List Tm)) (i : Nat) : List Tm := I.getD i [] ++ O.getD i []
theorem list_loop (k : Nat) (hk : 20000 < k) (now room : Int) (I O : List (List Tm)) (hI : I.length = 64) (hO : O.length = 64) : ∀ (j i : Nat), i + j = 64 → ∀ (out : List Tm), out.length + ((List.range' i j).flatMap (inter I O)).length ≤ 10000 → ∀ n, j < n →
    G19_3 k n ((now, room, I, O, ()), out, (i : Int), ()) = some (((List.range' i j).flatMap (inter I O)).foldl (fun l t => insT t l) out, ()) := by
  intro j
  induction j with
  | zero =>
    intro i hij out ho n hn
    obtain ⟨n, rfl⟩ : ∃ m, n = m + 1 := ⟨n - 1, by omega⟩
    rw [G19_3_eq, sel_neg (by omega)]
    rfl
  | succ j ih =>
    intro i hij out ho n hn
    obtain ⟨n, rfl⟩ : ∃ m, n = m + 1 := ⟨n - 1, by omega⟩
    rw [List.range'_succ, List.flatMap_cons, List.length_append] at ho
    have hin : (inter I O i).length = (I.getD i []).length + (O.getD i []).length := by unfold inter; rw [List.length_append]
    have h1 := list_rowI k hk now room I O hI hO i (by omega) _ rfl (by omega) (I.getD i []).length 0 (by omega) out (by omega) k (by omega)
    have hl1 := (foldl_perm (I.getD i []) out).length_eq
    rw [List.length_append] at hl1
    have h2 := list_rowO k hk now room I O hI hO i (by omega) _ rfl (by omega) (O.getD i []).length 0 (by omega) ((I.getD i []).foldl (fun l t => insT t l) out) (by omega) k (by omega)
    have hl2 := (foldl_perm (O.getD i []) ((I.getD i []).foldl (fun l t => insT t l) out)).length_eq
    rw [List.length_append] at hl2
    have hrec := ih (i + 1) (by omega) ((O.getD i []).foldl (fun l t => insT t l) ((I.getD i []).foldl (fun l t => insT t l) out)) (by omega) n (by omega)
    rw [List.drop_zero] at h1 h2
    rw [G19_3_eq, sel_pos (by omega), show G19_6 k k ((now, room, I, O, ()), out, (i : Int), 0, ()) = _ from h1, ocall_some]
    (try simp only [])
    rw [show G19_10 k k ((now, room, I, O, ()), (I.getD i []).foldl (fun l t => insT t l) out, (i : Int), 0, ()) = _ from h2, ocall_some]
    (try simp only [])
    rw [wrap64 (by omega) (by omega), show (i : Int) + 1 = ((i + 1 : Nat) : Int) by omega, hrec, List.range'_succ, List.flatMap_cons]
    unfold inter
    rw [List.foldl_append, List.foldl_append]
theorem flat_range (L : List (List Tm)) : ∀ (j i : Nat), i + j = L.length → (List.range' i j).flatMap (fun i => L.getD i []) = (L.drop i).flatten := by
  intro j
  induction j with
  | zero => intro i h; rw [List.drop_of_length_le (by omega)]; rfl
  | succ j ih =>
    intro i h
    have hlt : i < L.length := by omega
    rw [List.range'_succ, List.flatMap_cons, ih (i + 1) (by omega), List.drop_eq_getElem_cons hlt, List.flatten_cons, getD_of hlt]
theorem inter_perm (I O : List (List Tm)) : ∀ (l : List Nat), (l.flatMap (inter I O)).Perm (l.flatMap (fun i => I.getD i []) ++ l.flatMap (fun i => O.getD i []))
  | [] => .refl _
  | i :: l => by
    rw [List.flatMap_cons, List.flatMap_cons, List.flatMap_cons]
    unfold inter
    have h := (inter_perm I O l).append_left (I.getD i [] ++ O.getD i [])
    refine h.trans ?_
    rw [List.append_assoc, List.append_assoc]
    refine List.Perm.append_left _ ?_
    rw [← List.append_assoc, ← List.append_assoc]
    exact List.Perm.append_right _ List.perm_append_comm
theorem inter_flat {I O : List (List Tm)} (hI : I.length = 64) (hO : O.length = 64) : ((List.range' 0 64).flatMap (inter I O)).Perm (I.flatten ++ O.flatten) := by
  have h := inter_perm I O (List.range' 0 64)
  rw [flat_range I 64 0 (by omega), flat_range O 64 0 (by omega), List.drop_zero, List.drop_zero] at h
  exact h
theorem G19_is (k : Nat) (hk : 20000 < k) (now room : Int) (I O : List (List Tm)) (hw : WB now I O) : G19 k ((now, room, I, O, ()), ()) = some (sortL (I.flatten ++ O.flatten), ()) := by
  have hp := inter_flat hw.hI hw.hO
  have hn := hw.hn
  have hl := hp.length_eq
  have h := list_loop k hk now room I O hw.hI hw.hO 64 0 (by omega) [] (by rw [hl]; simpa using hn) k (by omega)
  rw [G19_eq, pad_id hw.hI, pad_id hw.hO, show G19_3 k k ((now, room, I, O, ()), [], 0, ()) = _ from h, ocall_some]
  exact congrArg (fun x => some (x, ())) (sortL_eq hp)
end Go.Proofs.Ytjonpmckkmnemaa.G
end
section
set_option linter.unusedVariables false
set_option linter.unusedSimpArgs false
set_option maxRecDepth 100000
namespace Go.Proofs.Ytjonpmckkmnemaa.G
open Go Go.Proofs.Ytjonpmckkmnemaa Th
abbrev placeW (now t : Int) : Nat := Bld26.placeW now t
theorem placeW_in {now t : Int} (h : t / 64 = now / 64) : placeW now t = quickT t := by
  unfold placeW Bld26.placeW
  rw [sel_pos h]; rfl
theorem placeW_out {now t : Int} (h : t / 64 ≠ now / 64) : placeW now t = 64 + slowT t := by
  unfold placeW Bld26.placeW
  rw [sel_neg h]; unfold slowT; omega
theorem placeW_lt (now t : Int) : placeW now t < 128 := Bld26.placeW_lt now t
def buildL (now : Int) (l : List Tm) (L : List (List Tm)) : List (List Tm) := l.foldl (fun L e => L.set (placeW now e.2.1) (L.getD (placeW now e.2.1) [] ++ [e])) L
theorem putAll_is (now : Int) : ∀ (l : List Tm) (L : List (List Tm)), (∀ t ∈ l, 0 ≤ t.2.1 ∧ t.2.1 ≤ 18446744073709551615) → Bld26.putAll now l L = some (buildL now l L)
  | [], L, _ => rfl
  | e :: l, L, h => by
    have he := h e (.head _)
    unfold Bld26.putAll
    rw [sel_pos he.1, sel_pos he.2, putAll_is now l _ fun t ht => h t (.tail _ ht)]
    rfl
theorem buildL_len (now : Int) : ∀ (l : List Tm) (L : List (List Tm)), (buildL now l L).length = L.length
  | [], L => rfl
  | e :: l, L => by
    have := buildL_len now l (L.set (placeW now e.2.1) (L.getD (placeW now e.2.1) [] ++ [e]))
    rw [List.length_set] at this
    exact this
def inP (now : Int) (p : Nat) (t : Tm) : Bool := decide (placeW now t.2.1 = p)
theorem buildL_get (now : Int) (p : Nat) (hp : p < 128) : ∀ (l : List Tm) (L : List (List Tm)), L.length = 128 → (buildL now l L).getD p [] = L.getD p [] ++ l.filter (inP now p)
  | [], L, _ => by simp [buildL]
  | e :: l, L, hL => by
    have hq := placeW_lt now e.2.1
    have ih := buildL_get now p hp l (L.set (placeW now e.2.1) (L.getD (placeW now e.2.1) [] ++ [e])) (by rw [List.length_set]; exact hL)
    show (buildL now l (L.set (placeW now e.2.1) (L.getD (placeW now e.2.1) [] ++ [e]))).getD p [] = _
    rw [ih, List.filter_cons]
    unfold inP
    by_cases c : placeW now e.2.1 = p
    · rw [decide_eq_true c, if_pos rfl, ← c]
      rw [getD_of (l := L.set _ _) (by rw [List.length_set]; omega), List.getElem_set_self, List.append_assoc]
      rfl
    · rw [decide_eq_false c, if_neg (by decide)]
      congr 1
      rw [getD_of (l := L.set _ _) (by rw [List.length_set]; omega), List.getElem_set_ne c]
      exact (getD_of (by omega) _).symm
def rowsL (now : Int) (l : List Tm) : List (List Tm) := buildL now l (List.replicate 128 [])
def buildW (now room : Int) (l : List Tm) : Wl := (now, room, (rowsL now l).take 64, (rowsL now l).drop 64, ())
theorem rowsL_len (now : Int) (l : List Tm) : (rowsL now l).length = 128 := by unfold rowsL; rw [buildL_len, List.length_replicate]
theorem rowsL_get (now : Int) (l : List Tm) {p : Nat} (hp : p < 128) : (rowsL now l).getD p [] = l.filter (inP now p) := by
  unfold rowsL
  rw [buildL_get now p hp l _ (by rw [List.length_replicate]), getD_of (by rw [List.length_replicate]; exact hp), List.getElem_replicate, List.nil_append]
theorem getD_take {L : List (List Tm)} {p n : Nat} (h : p < n) : (L.take n).getD p [] = L.getD p [] := by
  rw [List.getD_eq_getElem?_getD, List.getD_eq_getElem?_getD, List.getElem?_take_of_lt h]
theorem getD_drop (L : List (List Tm)) (p n : Nat) : (L.drop n).getD p [] = L.getD (n + p) [] := by
  rw [List.getD_eq_getElem?_getD, List.getD_eq_getElem?_getD, List.getElem?_drop]
theorem build_eq' (k : Nat) (now room : Int) (l : List Tm) : G26 k (now, room, l, ()) = sel (decide (0 ≤ now)) (sel (decide (now ≤ 18446744073709551615)) (sel (decide (l.length ≤ 1000000)) (ocall (Bld26.putAll now l (List.replicate 128 [])) fun L => some ((now, room, pad 64 (List.take 64 L), pad 64 (List.drop 64 L), ()), ())) none) none) none :=
  G26_eq k now room l
theorem G26_is (k : Nat) (now room : Int) (l : List Tm) (h1 : 0 ≤ now) (h2 : now ≤ 18446744073709551615) (hb : ∀ t ∈ l, 0 ≤ t.2.1 ∧ t.2.1 ≤ 18446744073709551615) (hn : l.length ≤ 1000000) :
    G26 k (now, room, l, ()) = some (buildW now room l, ()) := by
  have hL := rowsL_len now l
  rw [build_eq', sel_pos h1, sel_pos h2, sel_pos hn, putAll_is now l _ hb, ocall_some]
  show some ((now, room, pad 64 ((rowsL now l).take 64), pad 64 ((rowsL now l).drop 64), ()), ()) = _
  rw [pad_id (by rw [List.length_take]; omega), pad_id (by rw [List.length_drop]; omega)]
  rfl
theorem sameT (a b : Tm) : (sameI a.1.1 b.1.1 && (sameS a.1.2.1 b.1.2.1 && true) && (sameI a.2.1 b.2.1 && true)) = decide (a = b) := by
  obtain ⟨⟨a1, a2, ⟨⟩⟩, a3, ⟨⟩⟩ := a
  obtain ⟨⟨b1, b2, ⟨⟩⟩, b3, ⟨⟩⟩ := b
  simp [sameI, sameS]
theorem timers_loop (k : Nat) (a b : List Tm) (hab : a.length = b.length) (hl : a.length ≤ 1000000) : ∀ (m j : Nat), j + m = a.length → ∀ n, m < n →
    G27_4 k n (a, b, (j : Int), ()) = some (sel (decide (a.drop j = b.drop j)) (.inl ()) (.inr (false, ()))) := by
  intro m
  induction m with
  | zero =>
    intro j hj n hn
    obtain ⟨n, rfl⟩ : ∃ m, n = m + 1 := ⟨n - 1, by omega⟩
    rw [G27_4_eq, sel_neg (by simp only [ofNat_len]; omega), List.drop_of_length_le (by omega), List.drop_of_length_le (by omega)]
    rfl
  | succ m ih =>
    intro j hj n hn
    obtain ⟨n, rfl⟩ : ∃ m, n = m + 1 := ⟨n - 1, by omega⟩
    have hlt : j < a.length := by omega
    have hlt' : j < b.length := by omega
    have hrec := ih (j + 1) (by omega) n (by omega)
    rw [G27_4_eq, sel_pos (by simp only [ofNat_len]; omega), sel_pos (by omega), sel_pos (by simp only [ofNat_len]; omega), sel_pos (by omega), sel_pos (by simp only [ofNat_len]; omega)]
    simp only [Int.toNat_natCast, getD_of hlt, getD_of hlt']
    rw [sameT, List.drop_eq_getElem_cons hlt, List.drop_eq_getElem_cons hlt']
    by_cases c : a[j] = b[j]
    · rw [decide_eq_true c, Bool.not_true, sel_false, wrap64 (by omega) (by omega), show (j : Int) + 1 = ((j + 1 : Nat) : Int) by omega, hrec]
      have e : (a.drop (j + 1) = b.drop (j + 1)) ↔ (a[j] :: a.drop (j + 1) = b[j] :: b.drop (j + 1)) := by rw [List.cons.injEq]; exact ⟨fun h => ⟨c, h⟩, fun h => h.2⟩
      rw [decide_eq_decide.2 e]
    · rw [decide_eq_false c, Bool.not_false, sel_true, decide_eq_false (by rw [List.cons.injEq]; exact fun h => c h.1)]
      rfl
theorem G27_is (k : Nat) (a b : List Tm) (hl : a.length ≤ 1000000) (hk : a.length < k) : G27 k (a, b, ()) = some (decide (a = b), ()) := by
  rw [G27_eq]
  by_cases c : a.length = b.length
  · have h := timers_loop k a b c hl a.length 0 (by omega) k hk
    simp only [ofNat_len]
    rw [decide_eq_true (show (a.length : Int) = (b.length : Int) by omega), Bool.not_true, sel_false, show G27_4 k k (a, b, 0, ()) = _ from h, ocall_some, List.drop_zero, List.drop_zero]
    by_cases e : a = b
    · rw [sel_pos e, esel_inl, decide_eq_true e]
    · rw [sel_neg e, esel_inr, decide_eq_false e]
  · simp only [ofNat_len]
    rw [decide_eq_false (show ¬ (a.length : Int) = (b.length : Int) by omega), Bool.not_false, sel_true, decide_eq_false (fun e => c (by rw [e]))]
theorem G11_is (k : Nat) (a b : List Tm) (hl : a.length ≤ 1000000) (hk : a.length < k) : G11 k (a, b, ()) = some (decide (a = b), ()) := by
  rw [G11_eq, G27_is k a b hl hk, ocall_some]
def sameR (I O I' O' : List (List Tm)) (i : Nat) : Bool := decide (I.getD i [] = I'.getD i []) && decide (O.getD i [] = O'.getD i [])
theorem same_loop (k : Nat) (now room now' room' : Int) (I O I' O' : List (List Tm)) (hI : I.length = 64) (hO : O.length = 64) (hI' : I'.length = 64) (hO' : O'.length = 64) (hn : (I.flatten ++ O.flatten).length ≤ 1000000) (hk : (I.flatten ++ O.flatten).length < k) :
    ∀ (j i : Nat), i + j = 64 → ∀ n, j < n →
    G10_2 k n ((now, room, I, O, ()), (now', room', I', O', ()), (i : Int), ()) = some (sel ((List.range' i j).all (sameR I O I' O')) (.inl ((now, room, I, O, ()), (now', room', I', O', ()), ())) (.inr (false, ()))) := by
  intro j
  induction j with
  | zero =>
    intro i hij n hn
    obtain ⟨n, rfl⟩ : ∃ m, n = m + 1 := ⟨n - 1, by omega⟩
    rw [G10_2_eq, sel_neg (by omega)]
    rfl
  | succ j ih =>
    intro i hij n hn'
    obtain ⟨n, rfl⟩ : ∃ m, n = m + 1 := ⟨n - 1, by omega⟩
    have hrec := ih (i + 1) (by omega) n (by omega)
    rw [List.length_append] at hn hk
    have hIl := row_len I i
    have hOl := row_len O i
    rw [G10_2_eq, of64, sel_pos (by omega), sel_pos (by omega), sel_pos (by omega), sel_pos (by omega), sel_pos (by omega), pad_id hI, pad_id hO, pad_id hI', pad_id hO', Int.toNat_natCast]
    rw [G27_is k _ _ (by omega) (by omega), ocall_some, List.range'_succ, List.all_cons]
    unfold sameR
    by_cases c1 : I.getD i [] = I'.getD i []
    · rw [decide_eq_true c1, Bool.not_true, sel_false, sel_pos (by omega), sel_pos (by omega), sel_pos (by omega), sel_pos (by omega), G27_is k _ _ (by omega) (by omega), ocall_some]
      by_cases c2 : O.getD i [] = O'.getD i []
      · rw [decide_eq_true c2, Bool.not_true, sel_false, wrap64 (by omega) (by omega), show (i : Int) + 1 = ((i + 1 : Nat) : Int) by omega]
        exact hrec
      · rw [decide_eq_false c2, Bool.not_false, sel_true]; rfl
    · rw [decide_eq_false c1, Bool.not_false, sel_true]; rfl
theorem rows_ext {I I' : List (List Tm)} (hI : I.length = 64) (hI' : I'.length = 64) (h : ∀ i, i < 64 → I.getD i [] = I'.getD i []) : I = I' := by
  apply List.ext_getElem (by omega)
  intro i h1 h2
  have := h i (by omega)
  rw [getD_of h1, getD_of h2] at this
  exact this
def sameW (w v : Wl) : Bool := decide (w.1 = v.1) && decide (w.2.1 = v.2.1) && (List.range' 0 64).all (sameR w.2.2.1 w.2.2.2.1 v.2.2.1 v.2.2.2.1)
theorem sameR_all {I O I' O' : List (List Tm)} (hI : I.length = 64) (hO : O.length = 64) (hI' : I'.length = 64) (hO' : O'.length = 64) : (List.range' 0 64).all (sameR I O I' O') = true ↔ I = I' ∧ O = O' := by
  rw [List.all_eq_true]
  constructor
  · intro h
    have h' : ∀ i, i < 64 → sameR I O I' O' i = true := fun i hi => h i (by rw [List.mem_range']; exact ⟨i, by omega, by omega⟩)
    exact ⟨rows_ext hI hI' fun i hi => (by have := h' i hi; unfold sameR at this; simp only [Bool.and_eq_true, decide_eq_true_eq] at this; exact this.1), rows_ext hO hO' fun i hi => (by have := h' i hi; unfold sameR at this; simp only [Bool.and_eq_true, decide_eq_true_eq] at this; exact this.2)⟩
  · rintro ⟨rfl, rfl⟩ i _
    unfold sameR; simp
theorem G10_is (k : Nat) (hk0 : 64 < k) (now room now' room' : Int) (I O I' O' : List (List Tm)) (hI : I.length = 64) (hO : O.length = 64) (hI' : I'.length = 64) (hO' : O'.length = 64) (hn : (I.flatten ++ O.flatten).length ≤ 1000000) (hk : (I.flatten ++ O.flatten).length < k) :
    G10 k ((now, room, I, O, ()), (now', room', I', O', ()), ()) = some (sameW (now, room, I, O, ()) (now', room', I', O', ()), ()) := by
  have h := same_loop k now room now' room' I O I' O' hI hO hI' hO' hn hk 64 0 (by omega) k hk0
  rw [G10_eq, pad_id hI, pad_id hO, pad_id hI', pad_id hO', show G10_2 k k ((now, room, I, O, ()), (now', room', I', O', ()), 0, ()) = _ from h, ocall_some]
  unfold sameW
  (try simp only [])
  cases (List.range' 0 64).all (sameR I O I' O') with
  | false => rw [sel_false, esel_inr, Bool.and_false]
  | true =>
    rw [sel_true, esel_inl, Bool.and_true]
    (try simp only [])
    by_cases c : now = now'
    · rw [sel_pos c, decide_eq_true c, Bool.true_and]
    · rw [sel_neg c, decide_eq_false c, Bool.false_and]
end Go.Proofs.Ytjonpmckkmnemaa.G
end
section
set_option linter.unusedVariables false
set_option linter.unusedSimpArgs false
set_option maxRecDepth 100000
namespace Go.Proofs.Ytjonpmckkmnemaa.G
open Go Go.Proofs.Ytjonpmckkmnemaa Th
def keyEq (t x : Tm) : Bool := decide (x.1 = t.1)
def okB (now : Int) (t : Tm) : Bool := decide (now < t.2.1) && decide (t.2.1 / 64 - now / 64 ≤ 63)
theorem okB_iff {now : Int} {t : Tm} : okB now t = true ↔ okT now t.2.1 := by
  unfold okB okT
  rw [Bool.and_eq_true, decide_eq_true_eq, decide_eq_true_eq]
  constructor <;> (intro h; omega)
theorem twin_loop (k : Nat) (w : Wl) (l : List Tm) (hn : l.length ≤ 1000000) (i : Nat) (hi : i < l.length) : ∀ (m j : Nat), j + m = i → ∀ n, m < n →
    G18_10 k n (w, l, (i : Int), (j : Int), ()) = some (sel (!((l.take i).drop j).any (keyEq l[i])) (.inl (w, l, (i : Int), ())) (.inr (false, ()))) := by
  obtain ⟨w1, w2, w3, w4, ⟨⟩⟩ := w
  intro m
  induction m with
  | zero =>
    intro j hj n hn'
    obtain ⟨n, rfl⟩ : ∃ m, n = m + 1 := ⟨n - 1, by omega⟩
    rw [G18_10_eq, sel_neg (by omega), List.drop_of_length_le (by rw [List.length_take]; omega)]
    rfl
  | succ m ih =>
    intro j hj n hn'
    obtain ⟨n, rfl⟩ : ∃ m, n = m + 1 := ⟨n - 1, by omega⟩
    have hlt : j < l.length := by omega
    have hlt' : j < (l.take i).length := by rw [List.length_take]; omega
    have hrec := ih (j + 1) (by omega) n (by omega)
    rw [G18_10_eq, sel_pos (by omega), sel_pos (by omega), sel_pos (by simp only [ofNat_len]; omega), Int.toNat_natCast, sel_pos (by omega), sel_pos (by simp only [ofNat_len]; omega), Int.toNat_natCast]
    rw [getD_of hlt, getD_of hi, sameK, List.drop_eq_getElem_cons hlt', List.any_cons, List.getElem_take]
    unfold keyEq at hrec ⊢
    by_cases c : l[j].1 = l[i].1
    · rw [sel_pos c, decide_eq_true c]; rfl
    · rw [sel_neg c, decide_eq_false c, Bool.false_or, wrap64 (by omega) (by omega), show (j : Int) + 1 = ((j + 1 : Nat) : Int) by omega]
      exact hrec
def refD (now : Int) : List Tm → List Tm → Bool
  | _, [] => true
  | s, t :: l => okB now t && (!s.any (keyEq t) && refD now (s ++ [t]) l)
theorem refD_iff {now : Int} : ∀ {l s : List Tm}, refD now s l = true ↔ (∀ t ∈ l, okT now t.2.1) ∧ (l.map (·.1)).Nodup ∧ ∀ t ∈ l, t.1 ∉ s.map (·.1)
  | [], s => by simp [refD]
  | t :: l, s => by
    have hk : (!s.any (keyEq t)) = true ↔ t.1 ∉ s.map (·.1) := by
      rw [Bool.not_eq_true', List.any_eq_false]
      constructor
      · intro h hm
        obtain ⟨x, hx, e⟩ := List.mem_map.1 hm
        exact h x hx (by unfold keyEq; exact decide_eq_true e)
      · intro h x hx e
        exact h (List.mem_map.2 ⟨x, hx, of_decide_eq_true e⟩)
    unfold refD
    rw [Bool.and_eq_true, Bool.and_eq_true, refD_iff, okB_iff, hk, List.map_cons, List.nodup_cons, List.map_append]
    constructor
    · rintro ⟨h1, h2, h3, h4, h5⟩
      refine ⟨fun x hx => ?_, ⟨fun hm => ?_, h4⟩, fun x hx => ?_⟩
      · rcases List.mem_cons.1 hx with rfl | hx
        · exact h1
        · exact h3 x hx
      · obtain ⟨x, hx, e⟩ := List.mem_map.1 hm
        exact h5 x hx (by rw [e]; simp)
      · rcases List.mem_cons.1 hx with rfl | hx
        · exact h2
        · exact fun hm => h5 x hx (List.mem_append_left _ hm)
    · rintro ⟨h1, ⟨h2, h3⟩, h4⟩
      refine ⟨h1 t (.head _), h4 t (.head _), fun x hx => h1 x (.tail _ hx), h3, fun x hx hm => ?_⟩
      rcases List.mem_append.1 hm with hm | hm
      · exact h4 x (.tail _ hx) hm
      · simp only [List.map_cons, List.map_nil, List.mem_singleton] at hm
        exact h2 (List.mem_map.2 ⟨x, hx, hm⟩)
theorem ref_loop (k : Nat) (w : Wl) (h1 : 0 ≤ w.1) (h2 : w.1 ≤ 18446744073709551615) (l : List Tm) (hb : ∀ t ∈ l, 0 ≤ t.2.1 ∧ t.2.1 ≤ 18446744073709551615) (hn : l.length ≤ 1000000) (hk : l.length < k) : ∀ (m j : Nat), j + m = l.length → ∀ n, m < n →
    G18_5 k n (w, l, (j : Int), ()) = some (sel (refD w.1 (l.take j) (l.drop j)) (.inl (w, l, ())) (.inr (false, ()))) := by
  obtain ⟨w1, w2, w3, w4, ⟨⟩⟩ := w
  (try simp only [] at h1 h2)
  intro m
  induction m with
  | zero =>
    intro j hj n hn'
    obtain ⟨n, rfl⟩ : ∃ m, n = m + 1 := ⟨n - 1, by omega⟩
    rw [G18_5_eq, sel_neg (by simp only [ofNat_len]; omega), List.drop_of_length_le (by omega)]
    rfl
  | succ m ih =>
    intro j hj n hn'
    obtain ⟨n, rfl⟩ : ∃ m, n = m + 1 := ⟨n - 1, by omega⟩
    have hlt : j < l.length := by omega
    have hrec := ih (j + 1) (by omega) n (by omega)
    have htw := twin_loop k (w1, w2, w3, w4, ()) l hn j hlt j 0 (by omega) k (by omega)
    have hbj := hb _ (List.getElem_mem hlt)
    rw [List.drop_zero] at htw
    rw [List.take_succ_eq_append_getElem hlt] at hrec
    rw [G18_5_eq, sel_pos (by simp only [ofNat_len]; omega), sel_pos (by omega), sel_pos (by simp only [ofNat_len]; omega), Int.toNat_natCast, getD_of hlt, List.drop_eq_getElem_cons hlt]
    unfold refD okB
    by_cases c1 : w1 < l[j].2.1
    case neg => rw [sel_pos (by omega), decide_eq_false c1]; rfl
    rw [sel_neg (by omega), sel_pos (by omega), sel_pos (by simp only [ofNat_len]; omega), decide_eq_true c1, tdiv64 hbj.1, tdiv64 h1, wrap_u64 (n := l[j].2.1 / 64) (by omega) (by omega), wrap_u64 (n := w1 / 64) (by omega) (by omega), wrap_u64 (by omega) (by omega)]
    by_cases c2 : l[j].2.1 / 64 - w1 / 64 ≤ 63
    case neg => rw [sel_pos (by omega), decide_eq_false c2]; rfl
    rw [sel_neg (by omega), decide_eq_true c2, show G18_10 k k ((w1, w2, w3, w4, ()), l, (j : Int), 0, ()) = _ from htw, ocall_some]
    simp only [Bool.true_and]
    cases c3 : (l.take j).any (keyEq l[j]) with
    | true => rw [Bool.not_true, sel_false, esel_inr]; rfl
    | false =>
      rw [Bool.not_false, sel_true, esel_inl, Bool.true_and]
      (try simp only [])
      rw [wrap64 (by omega) (by omega), show (j : Int) + 1 = ((j + 1 : Nat) : Int) by omega]
      exact hrec
def listW (w : Wl) : List Tm := sortL (flatW w)
def rightR (w : Wl) : Bool := decide (0 ≤ w.2.1) && decide (w.2.1 ≤ 256) && decide ((listW w).length ≤ w.2.1) && refD w.1 [] (listW w) && sameW w (buildW w.1 w.2.1 (listW w))
theorem sortL_len (l : List Tm) : (sortL l).length = l.length := (sortL_perm l).length_eq
theorem G18_is (k : Nat) (hk : 20000 < k) (now room : Int) (I O : List (List Tm)) (hw : WB now I O) : G18 k ((now, room, I, O, ()), ()) = some (rightR (now, room, I, O, ()), ()) := by
  have hn := hw.hn
  have hl := sortL_len (I.flatten ++ O.flatten)
  have hb : ∀ t ∈ sortL (I.flatten ++ O.flatten), 0 ≤ t.2.1 ∧ t.2.1 ≤ 18446744073709551615 := fun t ht => hw.hb t ((sortL_perm _).mem_iff.1 ht)
  rw [G18_eq, pad_id hw.hI, pad_id hw.hO, G19_is k hk now room I O hw, ocall_some]
  unfold rightR listW flatW
  simp only [ofNat_len]
  generalize sortL (I.flatten ++ O.flatten) = L at hl hb ⊢
  have h1 := ref_loop k (now, room, I, O, ()) hw.h1 hw.h2 L hb (by omega) (by omega) L.length 0 (by omega) k (by omega)
  by_cases c1 : room < 0
  · rw [sel_pos c1, decide_eq_false (show ¬ 0 ≤ room by omega)]; rfl
  rw [sel_neg c1, decide_eq_true (show 0 ≤ room by omega)]
  by_cases c2 : 256 < room
  · rw [sel_pos c2, decide_eq_false (show ¬ room ≤ 256 by omega)]; rfl
  rw [sel_neg c2, decide_eq_true (show room ≤ 256 by omega)]
  by_cases c3 : room < (L.length : Int)
  · rw [sel_pos c3, decide_eq_false (show ¬ (L.length : Int) ≤ room by omega)]; rfl
  rw [sel_neg c3, decide_eq_true (show (L.length : Int) ≤ room by omega)]
  simp only [Bool.true_and]
  rw [show G18_5 k k ((now, room, I, O, ()), L, 0, ()) = _ from h1, ocall_some, List.drop_zero, List.take_zero]
  cases refD now [] L with
  | false => rw [sel_false, esel_inr]; rfl
  | true =>
    have hr := rowsL_len now L
    rw [sel_true, esel_inl]
    simp only [Bool.true_and]
    rw [G26_is k now room L hw.h1 hw.h2 hb (by omega), ocall_some]
    unfold buildW
    (try simp only [])
    rw [pad_id hw.hI, pad_id hw.hO, pad_id (by rw [List.length_take]; omega), pad_id (by rw [List.length_drop]; omega)]
    rw [G10_is k (by omega) now room now room I O _ _ hw.hI hw.hO (by rw [List.length_take]; omega) (by rw [List.length_drop]; omega) (by omega) (by omega), ocall_some]
end Go.Proofs.Ytjonpmckkmnemaa.G
end
section
set_option linter.unusedVariables false
set_option linter.unusedSimpArgs false
set_option maxRecDepth 100000
namespace Go.Proofs.Ytjonpmckkmnemaa.G
open Go Go.Proofs.Ytjonpmckkmnemaa Th
structure RW (now room : Int) (I O : List (List Tm)) : Prop where
  r0 : 0 ≤ room
  r1 : room ≤ 256
  r2 : ((I.flatten ++ O.flatten).length : Int) ≤ room
  rI : ∀ p, p < 64 → (∀ t ∈ I.getD p [], pI now p t = true) ∧ AscT (I.getD p [])
  rO : ∀ p, p < 64 → (∀ t ∈ O.getD p [], pO now p t = true) ∧ AscT (O.getD p [])
  ky : ((I.flatten ++ O.flatten).map (·.1)).Nodup
theorem rightW_iff {now room : Int} {I O : List (List Tm)} : rightW (now, room, I, O, ()) = true ↔ RW now room I O := by
  unfold rightW flatW rowsOK stR
  simp only [Bool.and_eq_true, decide_eq_true_eq, List.all_eq_true, keysD_nodup, chkT_asc, List.mem_range']
  constructor
  · rintro ⟨⟨⟨⟨h1, h2⟩, h3⟩, h4⟩, h5, _⟩
    refine ⟨h1, h2, h3, fun p hp => ?_, fun p hp => ?_, h5⟩
    · have := (h4 p ⟨p, hp, by omega⟩).1
      exact ⟨this.1, this.2.1⟩
    · have := (h4 p ⟨p, hp, by omega⟩).2
      exact ⟨this.1, this.2.1⟩
  · rintro ⟨h1, h2, h3, h4, h5, h6⟩
    refine ⟨⟨⟨⟨h1, h2⟩, h3⟩, fun p hp => ?_⟩, h6, fun t _ h => by cases h⟩
    obtain ⟨q, hq, rfl⟩ := hp
    have a := h4 (0 + 1 * q) (by omega)
    have b := h5 (0 + 1 * q) (by omega)
    exact ⟨⟨a.1, a.2, fun x h => by cases h⟩, ⟨b.1, b.2, fun x h => by cases h⟩⟩
theorem filter_no {α : Type} {p : α → Bool} {l : List α} (h : ∀ x ∈ l, p x = false) : l.filter p = [] := List.filter_eq_nil_iff.2 fun x hx => by rw [h x hx]; decide
theorem filter_all {α : Type} {p : α → Bool} {l : List α} (h : ∀ x ∈ l, p x = true) : l.filter p = l := List.filter_eq_self.2 h
theorem filter_rows (f : Tm → Nat) : ∀ (L : List (List Tm)) (b : Nat), (∀ q, q < L.length → ∀ t ∈ L.getD q [], f t = b + q) → ∀ p, p < L.length → L.flatten.filter (fun t => decide (f t = b + p)) = L.getD p []
  | [], b, _, p, hp => by simp at hp
  | a :: L, b, h, p, hp => by
    have ha : ∀ t ∈ a, f t = b := fun t ht => h 0 (by simp) t ht
    have hL : ∀ q, q < L.length → ∀ t ∈ L.getD q [], f t = b + 1 + q := fun q hq t ht => by
      have := h (q + 1) (by simpa using hq) t (by rw [List.getD_cons_succ]; exact ht)
      omega
    rw [List.flatten_cons, List.filter_append]
    cases p with
    | zero =>
      rw [filter_all (fun t ht => decide_eq_true (by rw [ha t ht]; rfl)), filter_no, List.append_nil, List.getD_cons_zero]
      intro t ht
      obtain ⟨q, hq, ht⟩ := mem_row ht
      have := hL q hq t ht
      exact decide_eq_false (by omega)
    | succ p =>
      rw [filter_no (l := a) (fun t ht => decide_eq_false (by rw [ha t ht]; omega)), List.nil_append, List.getD_cons_succ]
      have := filter_rows f L (b + 1) hL p (by simpa using hp)
      rw [← this]
      congr 1
      funext t
      rw [show b + (p + 1) = b + 1 + p by omega]
theorem pI_iff {now : Int} {p : Nat} (hp : p < 64) {t : Tm} : pI now p t = true ↔ okT now t.2.1 ∧ placeW now t.2.1 = p := by
  unfold pI okT
  simp only [Bool.and_eq_true, decide_eq_true_eq]
  constructor
  · rintro ⟨⟨h1, h2⟩, h3⟩
    exact ⟨⟨h1, by omega⟩, by rw [placeW_in h2]; exact h3⟩
  · rintro ⟨⟨h1, h2⟩, h3⟩
    by_cases c : t.2.1 / 64 = now / 64
    · rw [placeW_in c] at h3; exact ⟨⟨h1, c⟩, h3⟩
    · rw [placeW_out c] at h3; omega
theorem pO_iff {now : Int} {p : Nat} (hp : p < 64) {t : Tm} : pO now p t = true ↔ okT now t.2.1 ∧ placeW now t.2.1 = 64 + p := by
  unfold pO okT
  simp only [Bool.and_eq_true, decide_eq_true_eq]
  constructor
  · rintro ⟨⟨⟨h1, h2⟩, h3⟩, h4⟩
    exact ⟨⟨h1, h3⟩, by rw [placeW_out h2, h4]⟩
  · rintro ⟨⟨h1, h2⟩, h3⟩
    by_cases c : t.2.1 / 64 = now / 64
    · rw [placeW_in c] at h3; have := quickT_lt t.2.1; omega
    · rw [placeW_out c] at h3; exact ⟨⟨⟨h1, c⟩, h2⟩, by omega⟩
section
variable {now room : Int} {I O : List (List Tm)} (hI : I.length = 64) (hO : O.length = 64)
include hI hO
theorem RW.ok (h : RW now room I O) : ∀ t ∈ I.flatten ++ O.flatten, okT now t.2.1 := by
  intro t ht
  rcases List.mem_append.1 ht with ht | ht
  · obtain ⟨p, hp, ht⟩ := mem_row ht
    exact ((pI_iff (by omega)).1 ((h.rI p (by omega)).1 t ht)).1
  · obtain ⟨p, hp, ht⟩ := mem_row ht
    exact ((pO_iff (by omega)).1 ((h.rO p (by omega)).1 t ht)).1
theorem RW.rowI (h : RW now room I O) {p : Nat} (hp : p < 64) : (I.flatten ++ O.flatten).filter (inP now p) = I.getD p [] := by
  rw [List.filter_append]
  have h1 := filter_rows (fun t => placeW now t.2.1) I 0 (fun q hq t ht => by rw [Nat.zero_add]; exact ((pI_iff (by omega)).1 ((h.rI q (by omega)).1 t ht)).2) p (by omega)
  rw [Nat.zero_add] at h1
  rw [show I.flatten.filter (inP now p) = _ from h1, filter_no, List.append_nil]
  intro t ht
  obtain ⟨q, hq, ht⟩ := mem_row ht
  have := ((pO_iff (by omega)).1 ((h.rO q (by omega)).1 t ht)).2
  exact decide_eq_false (by omega)
theorem RW.rowO (h : RW now room I O) {p : Nat} (hp : p < 64) : (I.flatten ++ O.flatten).filter (inP now (64 + p)) = O.getD p [] := by
  rw [List.filter_append]
  have h1 := filter_rows (fun t => placeW now t.2.1) O 64 (fun q hq t ht => ((pO_iff (by omega)).1 ((h.rO q (by omega)).1 t ht)).2) p (by omega)
  rw [show O.flatten.filter (inP now (64 + p)) = _ from h1, filter_no, List.nil_append]
  intro t ht
  obtain ⟨q, hq, ht⟩ := mem_row ht
  have := ((pI_iff (by omega)).1 ((h.rI q (by omega)).1 t ht)).2
  exact decide_eq_false (by omega)
theorem RW.build (h : RW now room I O) {L : List Tm} (hs : SortT L) (hp : L.Perm (I.flatten ++ O.flatten)) : I = (rowsL now L).take 64 ∧ O = (rowsL now L).drop 64 := by
  have hr := rowsL_len now L
  constructor
  · refine rows_ext hI (by rw [List.length_take]; omega) fun p hp' => ?_
    rw [getD_take hp', rowsL_get now L (by omega)]
    refine sort_eq (h.rI p hp').2.sort (hs.filter _) ?_
    rw [← h.rowI hI hO hp']
    exact (hp.filter _).symm
  · refine rows_ext hO (by rw [List.length_drop]; omega) fun p hp' => ?_
    rw [getD_drop, rowsL_get now L (by omega)]
    refine sort_eq (h.rO p hp').2.sort (hs.filter _) ?_
    rw [← h.rowO hI hO hp']
    exact (hp.filter _).symm
end
theorem nodup_of_keys {l : List Tm} (h : (l.map (·.1)).Nodup) : l.Nodup := List.Pairwise.of_map (f := fun t : Tm => t.1) (fun a b hne e => hne (by rw [e])) h
theorem RW_build {now room : Int} {L : List Tm} (hs : SortT L) (hk : (L.map (·.1)).Nodup) (ho : ∀ t ∈ L, okT now t.2.1) (r0 : 0 ≤ room) (r1 : room ≤ 256) (r2 : (L.length : Int) ≤ room) :
    RW now room ((rowsL now L).take 64) ((rowsL now L).drop 64) ∧ (((rowsL now L).take 64).flatten ++ ((rowsL now L).drop 64).flatten).Perm L := by
  have hr := rowsL_len now L
  have hpm : (((rowsL now L).take 64).flatten ++ ((rowsL now L).drop 64).flatten).Perm L := by
    rw [← List.flatten_append, List.take_append_drop]
    have h := flat_range (rowsL now L) 128 0 (by omega)
    rw [List.drop_zero] at h
    rw [← h]
    have e : ∀ (l : List Nat), (∀ i ∈ l, i < 128) → l.flatMap (fun i => (rowsL now L).getD i []) = l.flatMap (fun i => L.filter (inP now i)) := by
      intro l
      induction l with
      | nil => intro _; rfl
      | cons i l ih => intro hl; rw [List.flatMap_cons, List.flatMap_cons, ih fun i hi => hl i (.tail _ hi), rowsL_get now L (hl i (.head _))]
    rw [e _ fun i hi => (by rw [List.mem_range'] at hi; obtain ⟨j, h1, h2⟩ := hi; omega)]
    have key : ∀ (n b : Nat), ((List.range' b n).flatMap (fun i => L.filter (inP now i))).Perm (L.filter fun t => decide (b ≤ placeW now t.2.1) && decide (placeW now t.2.1 < b + n)) := by
      intro n
      induction n with
      | zero =>
        intro b
        rw [filter_no]
        · exact .refl _
        · intro t _
          simp only [Bool.and_eq_false_iff, decide_eq_false_iff_not]; omega
      | succ n ih =>
        intro b
        rw [List.range'_succ, List.flatMap_cons]
        refine ((ih (b + 1)).append_left _).trans ?_
        have h := List.filter_append_perm (fun t : Tm => decide (placeW now t.2.1 = b)) (L.filter fun t => decide (b ≤ placeW now t.2.1) && decide (placeW now t.2.1 < b + (n + 1)))
        rw [List.filter_filter, List.filter_filter] at h
        refine .trans (.of_eq ?_) h
        congr 1
        · congr 1
          funext t
          unfold inP
          by_cases c : placeW now t.2.1 = b
          · simp [c]
          · simp [c]
        · congr 1
          funext t
          rw [Bool.eq_iff_iff]
          simp only [Bool.and_eq_true, decide_eq_true_eq, Bool.not_eq_true', decide_eq_false_iff_not]
          omega
    refine (key 128 0).trans (.of_eq (filter_all fun t _ => ?_))
    have := placeW_lt now t.2.1
    simp only [Bool.and_eq_true, decide_eq_true_eq]; omega
  have hasc : AscT L := hs.asc (nodup_of_keys hk)
  refine ⟨⟨r0, r1, by rw [hpm.length_eq]; exact r2, fun p hp => ?_, fun p hp => ?_, (hpm.map _).nodup_iff.2 hk⟩, hpm⟩
  · rw [getD_take hp, rowsL_get now L (by omega)]
    refine ⟨fun t ht => (pI_iff hp).2 ?_, hasc.filter _⟩
    obtain ⟨h1, h2⟩ := List.mem_filter.1 ht
    exact ⟨ho t h1, of_decide_eq_true h2⟩
  · rw [getD_drop, rowsL_get now L (by omega)]
    refine ⟨fun t ht => (pO_iff hp).2 ?_, hasc.filter _⟩
    obtain ⟨h1, h2⟩ := List.mem_filter.1 ht
    exact ⟨ho t h1, of_decide_eq_true h2⟩
theorem sameW_iff {now room now' room' : Int} {I O I' O' : List (List Tm)} (hI : I.length = 64) (hO : O.length = 64) (hI' : I'.length = 64) (hO' : O'.length = 64) : sameW (now, room, I, O, ()) (now', room', I', O', ()) = true ↔ now = now' ∧ room = room' ∧ I = I' ∧ O = O' := by
  unfold sameW
  simp only [Bool.and_eq_true, decide_eq_true_eq]
  rw [sameR_all hI hO hI' hO', and_assoc]
theorem right_eq {now room : Int} {I O : List (List Tm)} (hI : I.length = 64) (hO : O.length = 64) : rightR (now, room, I, O, ()) = rightW (now, room, I, O, ()) := by
  have hp := sortL_perm (I.flatten ++ O.flatten)
  have hs := sortL_sort (I.flatten ++ O.flatten)
  rw [Bool.eq_iff_iff, rightW_iff]
  unfold rightR listW flatW
  simp only [Bool.and_eq_true, decide_eq_true_eq]
  have hr := rowsL_len now (sortL (I.flatten ++ O.flatten))
  unfold buildW
  rw [sameW_iff hI hO (by rw [List.length_take]; omega) (by rw [List.length_drop]; omega), refD_iff]
  generalize sortL (I.flatten ++ O.flatten) = L at hp hs hr ⊢
  constructor
  · rintro ⟨⟨⟨⟨h1, h2⟩, h3⟩, h4, h5, _⟩, _, _, h6, h7⟩
    have := (RW_build hs h5 h4 h1 h2 h3).1
    rw [h6, h7]
    exact this
  · intro h
    have hb := h.build hI hO hs hp
    exact ⟨⟨⟨⟨h.r0, h.r1⟩, by rw [hp.length_eq]; exact h.r2⟩, fun t ht => h.ok hI hO t (hp.mem_iff.1 ht), (hp.map _).nodup_iff.2 h.ky, fun t _ hm => by cases hm⟩, rfl, rfl, hb.1, hb.2⟩
end Go.Proofs.Ytjonpmckkmnemaa.G
end
section
set_option linter.unusedVariables false
set_option linter.unusedSimpArgs false
set_option maxRecDepth 100000
namespace Go.Proofs.Ytjonpmckkmnemaa.G
open Go Go.Proofs.Ytjonpmckkmnemaa Th
def moveL (l : List Tm) (I : List (List Tm)) : List (List Tm) := l.foldl (fun I t => I.set (quickT t.2.1) (I.getD (quickT t.2.1) [] ++ [t])) I
theorem moveL_len : ∀ (l : List Tm) (I : List (List Tm)), (moveL l I).length = I.length
  | [], I => rfl
  | t :: l, I => by
    have := moveL_len l (I.set (quickT t.2.1) (I.getD (quickT t.2.1) [] ++ [t]))
    rw [List.length_set] at this
    exact this
theorem set_getD {I : List (List Tm)} {q p : Nat} (x : List Tm) (hq : q < I.length) : (I.set q x).getD p [] = if q = p then x else I.getD p [] := by
  by_cases c : q = p
  · subst c
    rw [if_pos rfl, getD_of (by rw [List.length_set]; exact hq), List.getElem_set_self]
  · rw [if_neg c, List.getD_eq_getElem?_getD, List.getElem?_set_ne c, ← List.getD_eq_getElem?_getD]
theorem moveL_get (p : Nat) : ∀ (l : List Tm) (I : List (List Tm)), I.length = 64 → (moveL l I).getD p [] = I.getD p [] ++ l.filter (fun t => decide (quickT t.2.1 = p))
  | [], I, _ => by simp [moveL]
  | t :: l, I, hI => by
    have hq := quickT_lt t.2.1
    have ih := moveL_get p l (I.set (quickT t.2.1) (I.getD (quickT t.2.1) [] ++ [t])) (by rw [List.length_set]; exact hI)
    show (moveL l (I.set (quickT t.2.1) (I.getD (quickT t.2.1) [] ++ [t]))).getD p [] = _
    rw [ih, set_getD _ (by omega), List.filter_cons]
    by_cases c : quickT t.2.1 = p
    · rw [if_pos c, decide_eq_true c, if_pos rfl, c, List.append_assoc]; rfl
    · rw [if_neg c, decide_eq_false c, if_neg (by decide)]
theorem G35_is (k : Nat) (l : List Tm) (h : l.length ≤ 1000000) : G35 k l = some (l, ()) := by
  rw [G35_eq, sel_pos (by omega)]
theorem move_loop (k : Nat) (s : Nat) (l : List Tm) (hn : l.length ≤ 10000) (hb : ∀ t ∈ l, 0 ≤ t.2.1 ∧ t.2.1 ≤ 18446744073709551615) (now room : Int) (O : List (List Tm)) (hO : O.length = 64) : ∀ (m j : Nat), j + m = l.length →
    ∀ (I : List (List Tm)), I.length = 64 → (∀ p, (I.getD p []).length ≤ 10000 + j) → ∀ n, m < n →
    G25_5 k n (s, l, (l.length : Int), (j : Int), now, room, I, O, ()) = some (s, now, room, moveL (l.drop j) I, O, ()) := by
  intro m
  induction m with
  | zero =>
    intro j hj I hI hr n hn'
    obtain ⟨n, rfl⟩ : ∃ m, n = m + 1 := ⟨n - 1, by omega⟩
    rw [G25_5_eq, sel_neg (by omega), List.drop_of_length_le (by omega), pad_id hI, pad_id hO]
    rfl
  | succ m ih =>
    intro j hj I hI hr n hn'
    obtain ⟨n, rfl⟩ : ∃ m, n = m + 1 := ⟨n - 1, by omega⟩
    have hlt : j < l.length := by omega
    have hbj := hb _ (List.getElem_mem hlt)
    rw [G25_5_eq, sel_pos (by omega), sel_pos (by omega), sel_pos (by simp only [ofNat_len]; omega), Int.toNat_natCast, getD_of hlt, List.drop_eq_getElem_cons hlt]
    generalize l[j] = t at hbj ⊢
    have hq := quickT_lt t.2.1
    have hrec := ih (j + 1) (by omega) (I.set (quickT t.2.1) (I.getD (quickT t.2.1) [] ++ [t])) (by rw [List.length_set]; exact hI) (fun p => by
      rw [set_getD _ (by omega)]
      have := hr p
      have := hr (quickT t.2.1)
      split
      · rw [List.length_append, List.length_singleton]; omega
      · omega) n (by omega)
    have hr0 := hr (quickT t.2.1)
    rw [pad_id hI, pad_id hO, G7000000_is k t.2.1 now room I O hI hO hbj.1 hbj.2, ocall_some]
    (try simp only [])
    rw [pad_id hI, pad_id hO, G35_is k _ (by omega), ocall_some]
    (try simp only [])
    rw [sel_pos (by omega), wrap64 (by omega) (by omega), pad_id (by rw [List.length_set]; exact hI), show (j : Int) + 1 = ((j + 1 : Nat) : Int) by omega]
    exact hrec
structure MW (now : Int) (I O : List (List Tm)) : Prop where
  rI : ∀ p, p < 64 → (∀ t ∈ I.getD p [], (now ≤ t.2.1 ∧ t.2.1 / 64 = now / 64) ∧ quickT t.2.1 = p) ∧ AscT (I.getD p [])
  rO : ∀ p, p < 64 → (∀ t ∈ O.getD p [], pO now p t = true) ∧ AscT (O.getD p [])
theorem set_perm : ∀ (L : List (List Tm)) (q : Nat), q < L.length → (L.getD q [] ++ (L.set q []).flatten).Perm L.flatten
  | [], q, h => by simp at h
  | a :: L, 0, _ => by rw [List.getD_cons_zero, List.set_cons_zero, List.flatten_cons, List.flatten_cons, List.nil_append]
  | a :: L, q + 1, h => by
    rw [List.getD_cons_succ, List.set_cons_succ, List.flatten_cons, List.flatten_cons]
    have ih := set_perm L q (by simpa using h)
    refine .trans ?_ (ih.append_left a)
    rw [← List.append_assoc, ← List.append_assoc]
    exact List.perm_append_comm.append_right _
theorem MW.fire {now room : Int} {I O : List (List Tm)} (hI : I.length = 64) (hO : O.length = 64) (h : MW now I O) (r0 : 0 ≤ room) (r1 : room ≤ 256) (r2 : ((I.flatten ++ O.flatten).length : Int) ≤ room) (ky : ((I.flatten ++ O.flatten).map (·.1)).Nodup) :
    RW now room (I.set (quickT now) []) O ∧ (I.flatten ++ O.flatten).Perm (I.getD (quickT now) [] ++ ((I.set (quickT now) []).flatten ++ O.flatten)) ∧ (∀ t ∈ I.getD (quickT now) [], t.2.1 = now) ∧ AscT (I.getD (quickT now) []) := by
  have hq := quickT_lt now
  have hp : (I.flatten ++ O.flatten).Perm (I.getD (quickT now) [] ++ ((I.set (quickT now) []).flatten ++ O.flatten)) := by
    rw [← List.append_assoc]
    exact ((set_perm I (quickT now) (by omega)).append_right _).symm
  have hl := hp.length_eq
  simp only [List.length_append] at hl r2
  have hk := (hp.map (·.1)).nodup_iff.1 ky
  rw [List.map_append] at hk
  refine ⟨⟨r0, r1, by simp only [List.length_append]; omega, fun p hp => ?_, h.rO, (List.nodup_append.1 hk).2.1⟩, hp, fun t ht => ?_, (h.rI _ hq).2⟩
  · rw [set_getD _ (by omega)]
    split
    · exact ⟨fun t ht => (by cases ht), .nil⟩
    · rename_i c
      refine ⟨fun t ht => ?_, (h.rI p hp).2⟩
      obtain ⟨⟨h1, h2⟩, h3⟩ := (h.rI p hp).1 t ht
      unfold pI
      simp only [Bool.and_eq_true, decide_eq_true_eq]
      refine ⟨⟨?_, h2⟩, h3⟩
      have : t.2.1 ≠ now := fun e => c (by rw [← h3, e])
      omega
  · obtain ⟨⟨h1, h2⟩, h3⟩ := (h.rI _ hq).1 t ht
    unfold quickT at h3
    omega
theorem RW.step {now room : Int} {I O : List (List Tm)} (h : RW now room I O) (hm : (now + 1) % 64 ≠ 0) : MW (now + 1) I O := by
  have e : (now + 1) / 64 = now / 64 := by omega
  refine ⟨fun p hp => ⟨fun t ht => ?_, (h.rI p hp).2⟩, fun p hp => ⟨fun t ht => ?_, (h.rO p hp).2⟩⟩
  · have := (h.rI p hp).1 t ht
    unfold pI at this
    simp only [Bool.and_eq_true, decide_eq_true_eq] at this
    exact ⟨⟨by omega, by omega⟩, this.2⟩
  · have := (h.rO p hp).1 t ht
    unfold pO at this ⊢
    simp only [Bool.and_eq_true, decide_eq_true_eq] at this ⊢
    obtain ⟨⟨⟨h1, h2⟩, h3⟩, h4⟩ := this
    exact ⟨⟨⟨by omega, by omega⟩, by omega⟩, h4⟩
theorem RW.turn {now room : Int} {I O : List (List Tm)} (hI : I.length = 64) (hO : O.length = 64) (h : RW now room I O) (hm : (now + 1) % 64 = 0) :
    MW (now + 1) (moveL (O.getD (slowT (now + 1)) []) I) (O.set (slowT (now + 1)) []) ∧ (I.flatten ++ O.flatten).Perm ((moveL (O.getD (slowT (now + 1)) []) I).flatten ++ (O.set (slowT (now + 1)) []).flatten) ∧ ∀ p, I.getD p [] = [] := by
  have e : (now + 1) / 64 = now / 64 + 1 := by omega
  have hs := slowT_lt (now + 1)
  have hIe : ∀ p, I.getD p [] = [] := fun p => by
    rcases Nat.lt_or_ge p 64 with hp | hp
    · refine List.eq_nil_iff_forall_not_mem.2 fun t ht => ?_
      have := (h.rI p hp).1 t ht
      unfold pI at this
      simp only [Bool.and_eq_true, decide_eq_true_eq] at this
      omega
    · rw [List.getD_eq_getElem?_getD, List.getElem?_eq_none (by omega)]; rfl
  have hd : ∀ t ∈ O.getD (slowT (now + 1)) [], now + 1 ≤ t.2.1 ∧ t.2.1 / 64 = (now + 1) / 64 := fun t ht => by
    have := (h.rO _ hs).1 t ht
    unfold pO at this
    simp only [Bool.and_eq_true, decide_eq_true_eq] at this
    obtain ⟨⟨⟨h1, h2⟩, h3⟩, h4⟩ := this
    unfold slowT at h4
    omega
  have hIf : I.flatten = [] := List.eq_nil_iff_forall_not_mem.2 fun t ht => by
    obtain ⟨p, _, ht⟩ := mem_row ht
    rw [hIe] at ht; cases ht
  have hg : ∀ p, (moveL (O.getD (slowT (now + 1)) []) I).getD p [] = (O.getD (slowT (now + 1)) []).filter (fun t => decide (quickT t.2.1 = p)) := fun p => by rw [moveL_get p _ I hI, hIe, List.nil_append]
  refine ⟨⟨fun p hp => ?_, fun p hp => ?_⟩, ?_, hIe⟩
  · rw [hg]
    refine ⟨fun t ht => ?_, (h.rO _ hs).2.filter _⟩
    obtain ⟨h1, h2⟩ := List.mem_filter.1 ht
    exact ⟨hd t h1, of_decide_eq_true h2⟩
  · rw [set_getD _ (by omega)]
    split
    · exact ⟨fun t ht => (by cases ht), .nil⟩
    · rename_i c
      refine ⟨fun t ht => ?_, (h.rO p hp).2⟩
      have := (h.rO p hp).1 t ht
      unfold pO at this ⊢
      simp only [Bool.and_eq_true, decide_eq_true_eq] at this ⊢
      obtain ⟨⟨⟨h1, h2⟩, h3⟩, h4⟩ := this
      have hne : t.2.1 / 64 ≠ (now + 1) / 64 := fun e2 => c (by rw [← h4]; unfold slowT; rw [e2])
      exact ⟨⟨⟨by omega, hne⟩, by omega⟩, h4⟩
  · rw [hIf, List.nil_append]
    have h1 := set_perm O (slowT (now + 1)) (by omega)
    refine h1.symm.trans (List.Perm.append_right _ ?_)
    have hlen := moveL_len (O.getD (slowT (now + 1)) []) I
    have h2 := flat_range (moveL (O.getD (slowT (now + 1)) []) I) 64 0 (by omega)
    rw [List.drop_zero] at h2
    rw [← h2]
    simp only [hg]
    generalize O.getD (slowT (now + 1)) [] = l
    have key : ∀ (n b : Nat), ((List.range' b n).flatMap (fun i => l.filter fun t => decide (quickT t.2.1 = i))).Perm (l.filter fun t => decide (b ≤ quickT t.2.1) && decide (quickT t.2.1 < b + n)) := by
      intro n
      induction n with
      | zero =>
        intro b
        rw [filter_no]
        · exact .refl _
        · intro t _
          simp only [Bool.and_eq_false_iff, decide_eq_false_iff_not]; omega
      | succ n ih =>
        intro b
        rw [List.range'_succ, List.flatMap_cons]
        refine ((ih (b + 1)).append_left _).trans ?_
        have h := List.filter_append_perm (fun t : Tm => decide (quickT t.2.1 = b)) (l.filter fun t => decide (b ≤ quickT t.2.1) && decide (quickT t.2.1 < b + (n + 1)))
        rw [List.filter_filter, List.filter_filter] at h
        refine .trans (.of_eq ?_) h
        congr 1
        · congr 1
          funext t
          by_cases c : quickT t.2.1 = b
          · simp [c]
          · simp [c]
        · congr 1
          funext t
          rw [Bool.eq_iff_iff]
          simp only [Bool.and_eq_true, decide_eq_true_eq, Bool.not_eq_true', decide_eq_false_iff_not]
          omega
    refine ((key 64 0).trans (.of_eq (filter_all fun t _ => ?_))).symm
    have := quickT_lt t.2.1
    simp only [Bool.and_eq_true, decide_eq_true_eq]; omega
end Go.Proofs.Ytjonpmckkmnemaa.G
end
section
set_option linter.unusedVariables false
set_option linter.unusedSimpArgs false
set_option maxRecDepth 100000
namespace Go.Proofs.Ytjonpmckkmnemaa.G
open Go Go.Proofs.Ytjonpmckkmnemaa Th
theorem fEq_w {x y : Nat} {a b : Int} (hx : isI x a) (hy : isI y b) : fltEq x y = decide (a = b) := by
  unfold fltEq
  rw [show FloatKind.f64.format.order x y = Ieee.double.order x y from rfl, isI_order hx hy]
  by_cases h : a = b
  · rw [Int.compare_eq_eq.2 h, decide_eq_true h]; rfl
  · rw [decide_eq_false h]
    have : compare a b ≠ .eq := fun e => h (Int.compare_eq_eq.1 e)
    cases hc : compare a b <;> first | rfl | exact absurd hc this
theorem fEq0 {n : Int} (h0 : 0 ≤ n) (h : n < 64) : fltEq (fltOf n) 0 = decide (n = 0) := fEq_w (isI_flt (by omega)) isI_zero
theorem tick_is (k : Nat) (hk : 20000 < k) (now room : Int) (I O : List (List Tm)) (hw : WB now I O) (h : RW now room I O) (hm : now < 18446744073709551615) :
    ∃ off I' O', G25 k (now, room, I, O, ()) = some (off, now + 1, room, I', O', ()) ∧ WB (now + 1) I' O' ∧ RW (now + 1) room I' O' ∧ (I.flatten ++ O.flatten).Perm (off ++ (I'.flatten ++ O'.flatten)) ∧ (∀ t ∈ off, t.2.1 = now + 1) ∧ AscT off := by
  have hI := hw.hI
  have hO := hw.hO
  have h1 := hw.h1
  have hn := hw.hn
  have hwb : ∀ {off : List Tm} {I' O' : List (List Tm)}, I'.length = 64 → O'.length = 64 → (I.flatten ++ O.flatten).Perm (off ++ (I'.flatten ++ O'.flatten)) → WB (now + 1) I' O' := fun h1' h2' hp => by
    have hl := hp.length_eq
    rw [List.length_append (bs := _ ++ _)] at hl
    exact ⟨h1', h2', by omega, by omega, fun t ht => hw.hb t (hp.mem_iff.2 (List.mem_append_right _ ht)), by omega⟩
  rw [G25_eq, wrap_u64 (by omega) (by omega), G38_w k _ (by omega) (by omega), ocall_some]
  (try simp only [])
  rw [fEq0 (by omega) (by omega), pad_id hI, pad_id hO]
  by_cases c : (now + 1) % 64 = 0
  · obtain ⟨hM, hp1, hIe⟩ := h.turn hI hO c
    have hs := slowT_lt (now + 1)
    have hml := moveL_len (O.getD (slowT (now + 1)) []) I
    have hll : (moveL (O.getD (slowT (now + 1)) []) I).length = 64 := by omega
    have hsl : (O.set (slowT (now + 1)) []).length = 64 := by rw [List.length_set]; exact hO
    have hrow := row_len O (slowT (now + 1))
    have hlen := hn
    rw [List.length_append] at hlen
    have hmv := move_loop k (slowT (now + 1)) (O.getD (slowT (now + 1)) []) (by omega) (fun t ht => hw.hb t (List.mem_append_right _ (row_mem ht))) (now + 1) room O hO _ 0 (Nat.zero_add _) I hI (fun p => by rw [hIe p]; simp) k (by omega)
    obtain ⟨h5, h6, h7, h8⟩ := hM.fire (room := room) hll hsl h.r0 h.r1 (by rw [← hp1.length_eq]; exact h.r2) ((hp1.map _).nodup_iff.1 h.ky)
    rw [sel_pos c, G7000001_is k _ _ room I O hI hO (by omega) (by omega), ocall_some]
    (try simp only [])
    rw [pad_id hI, pad_id hO, ofNat_len, show G25_5 k k (slowT (now + 1), O.getD (slowT (now + 1)) [], ((O.getD (slowT (now + 1)) []).length : Int), 0, now + 1, room, I, O, ()) = _ from hmv, ocall_some]
    simp only [List.drop_zero]
    rw [pad_id hO, pad_id hll, pad_id hsl, G7000000_is k _ _ room _ _ hll hsl (by omega) (by omega), ocall_some]
    (try simp only [])
    have hset : ((moveL (O.getD (slowT (now + 1)) []) I).set (quickT (now + 1)) []).length = 64 := by rw [List.length_set]; exact hll
    rw [pad_id hll, pad_id hsl, pad_id hset]
    exact ⟨_, _, _, rfl, hwb hset hsl (hp1.trans h6), h5, hp1.trans h6, h7, h8⟩
  · obtain ⟨h5, h6, h7, h8⟩ := (h.step c).fire (room := room) hI hO h.r0 h.r1 h.r2 h.ky
    have hset : (I.set (quickT (now + 1)) []).length = 64 := by rw [List.length_set]; exact hI
    rw [sel_neg c, G7000000_is k _ _ room I O hI hO (by omega) (by omega), ocall_some]
    (try simp only [])
    rw [pad_id hI, pad_id hO, pad_id hset]
    exact ⟨_, _, _, rfl, hwb hset hO h6, h5, h6, h7, h8⟩
theorem ok_bound {now : Int} {t : Tm} (h : okT now t.2.1) : t.2.1 ≤ now + 4096 := by unfold okT at h; omega
theorem RW_empty {now now' room : Int} {I O : List (List Tm)} (h : RW now room I O) (he : (I.flatten ++ O.flatten).length = 0) : RW now' room I O := by
  have hi : ∀ p, I.getD p [] = [] := fun p => by
    have := row_len I p
    rw [List.length_append] at he
    exact List.eq_nil_of_length_eq_zero (by omega)
  have ho : ∀ p, O.getD p [] = [] := fun p => by
    have := row_len O p
    rw [List.length_append] at he
    exact List.eq_nil_of_length_eq_zero (by omega)
  exact ⟨h.r0, h.r1, h.r2, fun p _ => by rw [hi]; exact ⟨fun t ht => (by cases ht), .nil⟩, fun p _ => by rw [ho]; exact ⟨fun t ht => (by cases ht), .nil⟩, h.ky⟩
theorem SortT.append {a b : List Tm} {m : Int} (ha : SortT a) (hb : SortT b) (h1 : ∀ t ∈ a, t.2.1 < m) (h2 : ∀ t ∈ b, m ≤ t.2.1) : SortT (a ++ b) := by
  refine List.pairwise_append.2 ⟨ha, hb, fun x hx y hy => ?_⟩
  have := h1 x hx
  have := h2 y hy
  rw [ordT_neg.2 (.inl (by omega))]; decide
structure Off (F : List Tm) (fin : Int) (off : List Tm) (room : Int) (I O : List (List Tm)) : Prop where
  wb : WB fin I O
  rw : RW fin room I O
  pm : F.Perm (off ++ (I.flatten ++ O.flatten))
  so : SortT off
  le : ∀ t ∈ off, t.2.1 ≤ fin
theorem adv_loop (k : Nat) (hk : 20000 < k) (fin room : Int) (hfin : fin ≤ 18446744073709551615) (v7 v8 : Int) : ∀ (m : Nat) (now : Int) (I O : List (List Tm)), WB now I O → RW now room I O → now ≤ fin → (∀ t ∈ I.flatten ++ O.flatten, t.2.1 ≤ now + m) →
    ∀ (out : List Tm), SortT out → (∀ t ∈ out, t.2.1 ≤ now) → out.length + (I.flatten ++ O.flatten).length ≤ 20000 → ∀ (v9 v10 : List (List Tm)) (n : Nat), m < n →
    ∃ off I' O', G8_g0 k n (out, fin, ((I.flatten ++ O.flatten).length : Int), now, room, I, O, v7, v8, v9, v10, ()) = some (out ++ off, 0, fin, room, I', O', ()) ∧ Off (I.flatten ++ O.flatten) fin off room I' O' ∧ ∀ t ∈ off, now < t.2.1 := by
  intro m
  induction m with
  | zero =>
    intro now I O hw h hle hM out hso hol hlen v9 v10 n hn
    obtain ⟨n, rfl⟩ : ∃ m, n = m + 1 := ⟨n - 1, by omega⟩
    have he : (I.flatten ++ O.flatten) = [] := List.eq_nil_iff_forall_not_mem.2 fun t ht => by
      have h1 := hM t ht
      have h2 := (h.ok hw.hI hw.hO t ht).1
      omega
    have hl : (I.flatten ++ O.flatten).length = 0 := by rw [he]; rfl
    rw [G8_g0_eq, hl, sel_neg (by omega), pad_id hw.hI, pad_id hw.hO]
    refine ⟨[], I, O, by rw [List.append_nil], ⟨⟨hw.hI, hw.hO, by have := hw.h1; omega, hfin, hw.hb, hw.hn⟩, RW_empty h hl, .refl _, .nil, fun t ht => by cases ht⟩, fun t ht => by cases ht⟩
  | succ m ih =>
    intro now I O hw h hle hM out hso hol hlen v9 v10 n hn
    obtain ⟨n, rfl⟩ : ∃ m, n = m + 1 := ⟨n - 1, by omega⟩
    have hh1 := hw.h1
    rw [G8_g0_eq]
    by_cases hl : (I.flatten ++ O.flatten).length = 0
    · rw [hl, sel_neg (by omega), pad_id hw.hI, pad_id hw.hO]
      refine ⟨[], I, O, by rw [List.append_nil], ⟨⟨hw.hI, hw.hO, by omega, hfin, hw.hb, hw.hn⟩, RW_empty h hl, .refl _, .nil, fun t ht => by cases ht⟩, fun t ht => by cases ht⟩
    rw [sel_pos (by omega)]
    by_cases hnow : now = fin
    · subst hnow
      rw [sel_neg (by omega), pad_id hw.hI, pad_id hw.hO]
      exact ⟨[], I, O, by rw [List.append_nil], ⟨hw, h, .refl _, .nil, fun t ht => by cases ht⟩, fun t ht => by cases ht⟩
    rw [sel_pos (by omega), pad_id hw.hI, pad_id hw.hO]
    obtain ⟨off, I', O', htick, hw', h', hp, ho, ha⟩ := tick_is k hk now room I O hw h (by omega)
    have hpl := hp.length_eq
    rw [List.length_append (bs := _ ++ _)] at hpl
    have hn' := hw.hn
    rw [htick, ocall_some]
    simp only [ofNat_len]
    rw [sel_pos (by omega), wrap64 (by omega) (by omega), pad_id hw'.hI, pad_id hw'.hO, show ((I.flatten ++ O.flatten).length : Int) - (off.length : Int) = ((I'.flatten ++ O'.flatten).length : Int) by omega]
    obtain ⟨off2, I2, O2, h2, h3, h4⟩ := ih (now + 1) I' O' hw' h' (by omega) (fun t ht => by
      have := hM t (hp.mem_iff.2 (List.mem_append_right _ ht)); omega) (out ++ off) (hso.append ha.sort (m := now + 1) (fun t ht => by have := hol t ht; omega) (fun t ht => by rw [ho t ht]; exact Int.le_refl _))
      (fun t ht => by
        rcases List.mem_append.1 ht with ht | ht
        · have := hol t ht; omega
        · rw [ho t ht]; exact Int.le_refl _) (by rw [List.length_append]; omega) (pad 64 v9) (pad 64 v10) n (by omega)
    refine ⟨off ++ off2, I2, O2, by rw [h2, List.append_assoc], ⟨h3.wb, h3.rw, ?_, ha.sort.append h3.so (m := now + 2) (fun t ht => by rw [ho t ht]; omega) (fun t ht => by have := h4 t ht; omega), fun t ht => ?_⟩, fun t ht => ?_⟩
    · rw [List.append_assoc]
      exact hp.trans (h3.pm.append_left off)
    · rcases List.mem_append.1 ht with ht | ht
      · rw [ho t ht]; omega
      · exact h3.le t ht
    · rcases List.mem_append.1 ht with ht | ht
      · rw [ho t ht]; omega
      · have := h4 t ht; omega
end Go.Proofs.Ytjonpmckkmnemaa.G
end
section
set_option linter.unusedVariables false
set_option linter.unusedSimpArgs false
set_option maxRecDepth 100000
namespace Go.Proofs.Ytjonpmckkmnemaa.G
open Go Go.Proofs.Ytjonpmckkmnemaa Th
theorem adv_bad (k : Nat) (hk : 20000 < k) (now room t : Int) (I O : List (List Tm)) (hw : WB now I O) (h : rightW (now, room, I, O, ()) = false) : G8 k ((now, room, I, O, ()), t, ()) = some ((now, room, I, O, ()), [], 1, ()) := by
  rw [G8_eq, pad_id hw.hI, pad_id hw.hO, G17_is k hk now room I O hw, ocall_some, h, Bool.not_false, sel_true]
theorem adv_over (k : Nat) (hk : 20000 < k) (now room t : Int) (I O : List (List Tm)) (hw : WB now I O) (h : rightW (now, room, I, O, ()) = true) (ht : 18446744073709551615 < now + t) : G8 k ((now, room, I, O, ()), t, ()) = some ((now, room, I, O, ()), [], 10, ()) := by
  have := hw.h1
  have := hw.h2
  rw [G8_eq, pad_id hw.hI, pad_id hw.hO, G17_is k hk now room I O hw, ocall_some, h, Bool.not_true, sel_false, wrap_u64 (by omega) (by omega), sel_pos (by omega)]
theorem adv_is (k : Nat) (hk : 20000 < k) (now room t : Int) (I O : List (List Tm)) (hw : WB now I O) (h : rightW (now, room, I, O, ()) = true) (h0 : 0 ≤ t) (ht : now + t ≤ 18446744073709551615) :
    ∃ off I' O', G8 k ((now, room, I, O, ()), t, ()) = some ((now + t, room, I', O', ()), off, 0, ()) ∧ Off (I.flatten ++ O.flatten) (now + t) off room I' O' := by
  have h1 := hw.h1
  have h2 := hw.h2
  have hn := hw.hn
  have hR := rightW_iff.1 h
  rw [G8_eq, pad_id hw.hI, pad_id hw.hO, G17_is k hk now room I O hw, ocall_some, h, Bool.not_true, sel_false, wrap_u64 (n := 18446744073709551615 - now) (by omega) (by omega), sel_neg (by omega), wrap_u64 (n := now + t) (by omega) (by omega), G24_is k (by omega) now room I O hw.hI hw.hO (by omega), ocall_some]
  simp only [ofNat_len]
  by_cases hl : (I.flatten ++ O.flatten).length = 0
  · rw [hl, sel_neg (by omega)]
    exact ⟨[], I, O, rfl, ⟨⟨hw.hI, hw.hO, by omega, ht, hw.hb, hw.hn⟩, RW_empty hR hl, .refl _, .nil, fun t ht => by cases ht⟩⟩
  rw [sel_pos (by omega)]
  by_cases hnow : t = 0
  · subst hnow
    rw [sel_neg (by omega), Int.add_zero]
    exact ⟨[], I, O, rfl, ⟨hw, hR, .refl _, .nil, fun t ht => by cases ht⟩⟩
  rw [sel_pos (by omega)]
  obtain ⟨off, I', O', htick, hw', h', hp, ho, ha⟩ := tick_is k hk now room I O hw hR (by omega)
  have hpl := hp.length_eq
  rw [List.length_append (bs := _ ++ _)] at hpl
  rw [htick, ocall_some]
  (try simp only [])
  rw [sel_pos (by omega), wrap64 (by omega) (by omega), pad_id hw'.hI, pad_id hw'.hO, show ((I.flatten ++ O.flatten).length : Int) - (off.length : Int) = ((I'.flatten ++ O'.flatten).length : Int) by omega]
  obtain ⟨off2, I2, O2, h2', h3, h4⟩ := adv_loop k hk (now + t) room ht 0 0 5000 (now + 1) I' O' hw' h' (by omega) (fun x hx => by
    have := ok_bound (h'.ok hw'.hI hw'.hO x hx); omega) off ha.sort (fun x hx => by rw [ho x hx]; exact Int.le_refl _) (by omega) _ _ k (by omega)
  rw [h2', ocall_some]
  (try simp only [])
  rw [pad_id h3.wb.hI, pad_id h3.wb.hO]
  refine ⟨off ++ off2, I2, O2, rfl, ⟨h3.wb, h3.rw, ?_, ha.sort.append h3.so (m := now + 2) (fun x hx => by rw [ho x hx]; omega) (fun x hx => by have := h4 x hx; omega), fun x hx => ?_⟩⟩
  · rw [List.append_assoc]
    exact hp.trans (h3.pm.append_left off)
  · rcases List.mem_append.1 hx with hx | hx
    · rw [ho x hx]; omega
    · exact h3.le x hx
theorem lit64 : ([[], [], [], [], [], [], [], [], [], [], [], [], [], [], [], [], [], [], [], [], [], [], [], [], [], [], [], [], [], [], [], [], [], [], [], [], [], [], [], [], [], [], [], [], [], [], [], [], [], [], [], [], [], [], [], [], [], [], [], [], [], [], [], []] : List (List Tm)) = List.replicate 64 [] := rfl
def cntT (fin : Int) : List Tm → Nat
  | [] => 0
  | t :: l => if t.2.1 ≤ fin then cntT fin l + 1 else 0
theorem cntT_app {fin : Int} : ∀ {a b : List Tm}, (∀ t ∈ a, t.2.1 ≤ fin) → (∀ t ∈ b, fin < t.2.1) → cntT fin (a ++ b) = a.length
  | [], [], _, _ => rfl
  | [], t :: b, _, h => by
    have := h t (.head _)
    show (if t.2.1 ≤ fin then _ else _) = _
    rw [if_neg (by omega)]; rfl
  | t :: a, b, h1, h2 => by
    show (if t.2.1 ≤ fin then _ else _) = _
    rw [if_pos (h1 t (.head _)), show cntT fin (List.append a b) = _ from cntT_app (a := a) (fun x hx => h1 x (.tail _ hx)) h2]; rfl
theorem cntT_le (fin : Int) : ∀ l : List Tm, cntT fin l ≤ l.length
  | [] => Nat.le_refl _
  | t :: l => by
    have := cntT_le fin l
    show (if t.2.1 ≤ fin then _ else _) ≤ _
    split <;> simp only [List.length_cons] <;> omega
theorem cnt_loop (k : Nat) (w : Wl) (t : Int) (ht : IntKind.u64.wrap (w.1 + t) = w.1 + t) (l : List Tm) (hn : l.length ≤ 1000000) (v7 v8 : Int) : ∀ (m j : Nat), j + m = l.length → ∀ (v9 v10 : List (List Tm)) (n : Nat), m < n →
    ∃ x, G9_7 k n (t, w, l, (j : Int), v7, v8, v9, v10, ()) = some (t, w, l, ((j + cntT (w.1 + t) (l.drop j) : Nat) : Int), x) := by
  obtain ⟨w1, w2, w3, w4, ⟨⟩⟩ := w
  (try simp only [] at ht)
  intro m
  induction m with
  | zero =>
    intro j hj v9 v10 n hn'
    obtain ⟨n, rfl⟩ : ∃ m, n = m + 1 := ⟨n - 1, by omega⟩
    rw [G9_7_eq, sel_neg (by simp only [ofNat_len]; omega), List.drop_of_length_le (by omega)]
    exact ⟨_, rfl⟩
  | succ m ih =>
    intro j hj v9 v10 n hn'
    obtain ⟨n, rfl⟩ : ∃ m, n = m + 1 := ⟨n - 1, by omega⟩
    have hlt : j < l.length := by omega
    obtain ⟨x, hrec⟩ := ih (j + 1) (by omega) (pad 64 v9) (pad 64 v10) n (by omega)
    rw [G9_7_eq, sel_pos (by simp only [ofNat_len]; omega), sel_pos (by omega), sel_pos (by simp only [ofNat_len]; omega), Int.toNat_natCast, getD_of hlt, List.drop_eq_getElem_cons hlt, ht]
    unfold cntT
    by_cases c : l[j].2.1 ≤ w1 + t
    · rw [sel_pos c, if_pos c, wrap64 (by omega) (by omega), show (j : Int) + 1 = ((j + 1 : Nat) : Int) by omega, hrec]
      exact ⟨x, by rw [show j + (cntT (w1 + t) (List.drop (j + 1) l) + 1) = j + 1 + cntT (w1 + t) (List.drop (j + 1) l) by omega]⟩
    · rw [sel_neg c, if_neg c]
      exact ⟨_, rfl⟩
theorem radv_bad (k : Nat) (hk : 20000 < k) (now room t : Int) (I O : List (List Tm)) (hw : WB now I O) (h : rightW (now, room, I, O, ()) = false) : G9 k ((now, room, I, O, ()), t, ()) = some ((now, room, I, O, ()), [], 1, ()) := by
  rw [G9_eq, pad_id hw.hI, pad_id hw.hO, G18_is k hk now room I O hw, right_eq hw.hI hw.hO, ocall_some, h, Bool.not_false, sel_true]
theorem radv_over (k : Nat) (hk : 20000 < k) (now room t : Int) (I O : List (List Tm)) (hw : WB now I O) (h : rightW (now, room, I, O, ()) = true) (h0 : t ≤ 18446744073709551615) (ht : 18446744073709551615 < now + t) : G9 k ((now, room, I, O, ()), t, ()) = some ((now, room, I, O, ()), [], 10, ()) := by
  have := hw.h1
  have := hw.h2
  have e : IntKind.u64.wrap (now + t) = now + t - 18446744073709551616 := by simp [IntKind.wrap, IntKind.bits, IntKind.signed]; omega
  rw [G9_eq, pad_id hw.hI, pad_id hw.hO, G18_is k hk now room I O hw, right_eq hw.hI hw.hO, ocall_some, h, Bool.not_true, sel_false, e, sel_pos (by omega)]
end Go.Proofs.Ytjonpmckkmnemaa.G
end
