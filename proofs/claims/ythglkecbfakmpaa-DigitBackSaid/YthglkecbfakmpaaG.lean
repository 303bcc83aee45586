/- functions -/
import Derived.Test.YthglkecbfakmpaaThU
import Derived.Test.YthglkecbfakmpaaSum
import Derived.Test.YthglkecbfakmpaaProg
import Derived.KernelRfl
set_option linter.unusedVariables false
set_option linter.unusedSimpArgs false
namespace Go.Proofs.Ythglkecbfakmpaa.G
open Go Go.Proofs.Ythglkecbfakmpaa.Th
def til : List (Nat × TInfo) := [
  (3, ⟨.int .i64, 1, 8, (.int .i64), [.int .i64 0], [], [], true, false⟩),
  (4, ⟨.bool, 1, 1, .bool, [.bool false], [], [], true, false⟩),
  (5, ⟨.int .u8, 1, 1, (.int .u8), [.int .u8 0], [], [], true, false⟩),
  (9, ⟨.str, 1, 16, .str, [.str []], [], [], true, false⟩),
  (22, ⟨.slice 35, 1, 24, (.slice (.slice (.int .u8))), [.nilsl], [], [], true, false⟩),
  (24, ⟨.struct, 2, 32, (.st (.cons (.int .i64) (.cons (.slice (.slice (.int .u8))) .nil))), [.int .i64 0, .nilsl], [(0, 3), (1, 22)], [1, 1], true, false⟩),
  (27, ⟨.int .i64, 1, 8, (.int .i64), [.int .i64 0], [], [], true, false⟩),
  (35, ⟨.slice 5, 1, 24, (.slice (.int .u8)), [.nilsl], [], [], true, false⟩),
  (60, ⟨.int .u64, 1, 8, (.int .u64), [.int .u64 0], [], [], true, false⟩),
  (74, ⟨.int .u16, 1, 2, (.int .u16), [.int .u16 0], [], [], true, false⟩)
]
noncomputable def TI : TEnv := tiOf til
theorem hT : TIok Try.prog TI := TIok.of (by kernel_rfl)
theorem hm : Try.prog.follows .mixedOrders = true := rfl
noncomputable def O_0 (_ : Nat) : Orc := fun _ _ _ _ => none
theorem ok_O_0 (k : Nat) : OrcOK (O_0 k) (CallOK Try.prog) := orc_none
/-! 25: paydesk/queue.Right -/
noncomputable def c25 : Code := Try.f25.body.getD .skip
noncomputable def mi25 : Msk := ⟨[(.tmp 0, .val (.st (.cons (.int .i64) (.cons (.slice (.slice (.int .u8))) .nil))))], []⟩
noncomputable def mo25 : Msk := ⟨[(.tmp 2, .val .bool)], []⟩
noncomputable def L25 (k : Nat) : LOrc := fun _ _ _ _ => none
noncomputable def F25 (k : Nat) (v : mi25.den) : Option mo25.den := runF TI (O_0 k) (L25 k) c25 mi25 mo25 v
theorem lk25 (k : Nat) : LinksOK Try.prog 19 (L25 k) c25 := (And.intro True.intro (And.intro True.intro True.intro))
theorem fn25 (k : Nat) (args : List AV) (x : mi25.den) (r : mo25.den) (h1 : args.length = mi25.items.length) (h2 : mi25.dec (Th.start args) = some x) (h3 : F25 k x = some r) : CallOK Try.prog 25 args (ansOf (outL mo25.items r)) :=
  call_of hm hT (ok_O_0 k) (fn := Try.f25) (c := c25) rfl rfl rfl rfl (lk25 k) rfl (by decide) rfl h1 h2 h3
noncomputable def O25 (k : Nat) : Orc := fun R f args K => bif Nat.beq f 25 then callF mi25 mo25 (F25 k) args K else O_0 k R f args K
theorem ok_O25 (k : Nat) : OrcOK (O25 k) (CallOK Try.prog) := orc_add (fn25 k) (ok_O_0 k)

/-! 18: paydesk/queue.New -/
noncomputable def c18 : Code := Try.f18.body.getD .skip
noncomputable def mi18 : Msk := ⟨[(.tmp 0, .val (.int .i64))], []⟩
noncomputable def mo18 : Msk := ⟨[(.res 2, .val (.st (.cons (.int .i64) (.cons (.slice (.slice (.int .u8))) .nil)))), (.tmp 3, .val (.int .i64))], []⟩
noncomputable def L18 (k : Nat) : LOrc := fun _ _ _ _ => none
noncomputable def F18 (k : Nat) (v : mi18.den) : Option mo18.den := runF TI (O25 k) (L18 k) c18 mi18 mo18 v
theorem lk18 (k : Nat) : LinksOK Try.prog 11 (L18 k) c18 := (And.intro True.intro (And.intro (And.intro True.intro (And.intro True.intro (And.intro (And.intro True.intro True.intro) True.intro))) (And.intro True.intro True.intro)))
theorem fn18 (k : Nat) (args : List AV) (x : mi18.den) (r : mo18.den) (h1 : args.length = mi18.items.length) (h2 : mi18.dec (Th.start args) = some x) (h3 : F18 k x = some r) : CallOK Try.prog 18 args (ansOf (outL mo18.items r)) :=
  call_of hm hT (ok_O25 k) (fn := Try.f18) (c := c18) rfl rfl rfl rfl (lk18 k) rfl (by decide) rfl h1 h2 h3
noncomputable def O18 (k : Nat) : Orc := fun R f args K => bif Nat.beq f 18 then callF mi18 mo18 (F18 k) args K else O25 k R f args K
theorem ok_O18 (k : Nat) : OrcOK (O18 k) (CallOK Try.prog) := orc_add (fn18 k) (ok_O25 k)

/-! 26: paydesk/queue.Left -/
noncomputable def c26 : Code := Try.f26.body.getD .skip
noncomputable def mi26 : Msk := ⟨[(.tmp 0, .val (.st (.cons (.int .i64) (.cons (.slice (.slice (.int .u8))) .nil))))], []⟩
noncomputable def mo26 : Msk := ⟨[(.tmp 2, .val (.int .i64))], []⟩
noncomputable def L26 (k : Nat) : LOrc := fun _ _ _ _ => none
noncomputable def F26 (k : Nat) (v : mi26.den) : Option mo26.den := runF TI (O18 k) (L26 k) c26 mi26 mo26 v
theorem lk26 (k : Nat) : LinksOK Try.prog 12 (L26 k) c26 := (And.intro True.intro (And.intro (And.intro True.intro (And.intro (And.intro True.intro True.intro) True.intro)) (And.intro True.intro True.intro)))
theorem fn26 (k : Nat) (args : List AV) (x : mi26.den) (r : mo26.den) (h1 : args.length = mi26.items.length) (h2 : mi26.dec (Th.start args) = some x) (h3 : F26 k x = some r) : CallOK Try.prog 26 args (ansOf (outL mo26.items r)) :=
  call_of hm hT (ok_O18 k) (fn := Try.f26) (c := c26) rfl rfl rfl rfl (lk26 k) rfl (by decide) rfl h1 h2 h3
noncomputable def O26 (k : Nat) : Orc := fun R f args K => bif Nat.beq f 26 then callF mi26 mo26 (F26 k) args K else O18 k R f args K
theorem ok_O26 (k : Nat) : OrcOK (O26 k) (CallOK Try.prog) := orc_add (fn26 k) (ok_O18 k)

/-! 72: slices.Clone[[][]byte,[]byte] -/
noncomputable def c72 : Code := Try.f72.body.getD .skip
noncomputable def mo72 : Msk := ⟨[(.tmp 2, .row false (.slice (.int .u8)))], []⟩
noncomputable def L72 : LOrc := fun _ _ _ _ => none
noncomputable def F72 (k : Nat) (l : List (Ty.den (.slice (.int .u8)))) : Option mo72.den := run TI (O26 k) L72 c72 (Th.start [.nsl (.slice (.int .u8)) l]) (endF mo72)
theorem fn72 (k : Nat) (l : List (Ty.den (.slice (.int .u8)))) (r : mo72.den) (h : F72 k l = some r) : CallOK Try.prog 72 [.sl (.slice (.int .u8)) l] (ansOf (outL mo72.items r)) :=
  call_nil hm hT (ok_O26 k) (fn := Try.f72) (c := c72) rfl rfl rfl rfl ((And.intro True.intro (And.intro (And.intro True.intro (And.intro (And.intro True.intro True.intro) True.intro)) (And.intro True.intro True.intro))) : LinksOK Try.prog 8 L72 c72) (by decide) rfl (fun e => by subst e; exact h) h
noncomputable def O72 (k : Nat) : Orc := fun R f args K => bif Nat.beq f 72 then callN (.slice (.int .u8)) mo72 (F72 k) args K else O26 k R f args K
theorem ok_O72 (k : Nat) : OrcOK (O72 k) (CallOK Try.prog) := orc_addN (fn72 k) (ok_O26 k)

/-! 73: slices.Clone[[]byte,byte] -/
noncomputable def c73 : Code := Try.f73.body.getD .skip
noncomputable def mo73 : Msk := ⟨[(.tmp 2, .row false (.int .u8))], []⟩
noncomputable def L73 : LOrc := fun _ _ _ _ => none
noncomputable def F73 (k : Nat) (l : List (Ty.den (.int .u8))) : Option mo73.den := run TI (O72 k) L73 c73 (Th.start [.nsl (.int .u8) l]) (endF mo73)
theorem fn73 (k : Nat) (l : List (Ty.den (.int .u8))) (r : mo73.den) (h : F73 k l = some r) : CallOK Try.prog 73 [.sl (.int .u8) l] (ansOf (outL mo73.items r)) :=
  call_nil hm hT (ok_O72 k) (fn := Try.f73) (c := c73) rfl rfl rfl rfl ((And.intro True.intro (And.intro (And.intro True.intro (And.intro (And.intro True.intro True.intro) True.intro)) (And.intro True.intro True.intro))) : LinksOK Try.prog 8 L73 c73) (by decide) rfl (fun e => by subst e; exact h) h
noncomputable def O73 (k : Nat) : Orc := fun R f args K => bif Nat.beq f 73 then callN (.int .u8) mo73 (F73 k) args K else O72 k R f args K
theorem ok_O73 (k : Nat) : OrcOK (O73 k) (CallOK Try.prog) := orc_addN (fn73 k) (ok_O72 k)

/-! 21: paydesk/queue.Put -/
noncomputable def c21 : Code := Try.f21.body.getD .skip
noncomputable def mi21 : Msk := ⟨[(.tmp 0, .val (.st (.cons (.int .i64) (.cons (.slice (.slice (.int .u8))) .nil)))), (.tmp 1, .val (.slice (.slice (.int .u8))))], []⟩
noncomputable def mo21 : Msk := ⟨[(.res 4, .val (.st (.cons (.int .i64) (.cons (.slice (.slice (.int .u8))) .nil)))), (.tmp 5, .val (.int .i64))], []⟩
noncomputable def L21_7 (k : Nat) : LOrc := fun _ _ _ _ => none
noncomputable def b21_7 : Code := (findLoop 7 c21).getD .skip
noncomputable def m21_7 : Msk := ⟨[(.tmp 2, .ptr 2 0), (.tmp 4, .ptr 4 0), (.tmp 24, .val (.slice (.slice (.int .u8)))), (.tmp 25, .val (.int .i64)), (.tmp 26, .val (.int .i64)), (.cell 2 0, .val (.int .i64)), (.cell 2 1, .row false (.slice (.int .u8))), (.cell 4 0, .val (.int .i64)), (.cell 4 1, .row false (.slice (.int .u8)))], [(2, 2), (4, 2)]⟩
noncomputable def x21_7 : List (X × Msk) := [(.exit 1, ⟨[(.tmp 2, .ptr 2 0), (.tmp 4, .ptr 4 0), (.cell 2 0, .val (.int .i64)), (.cell 2 1, .row false (.slice (.int .u8))), (.cell 4 0, .val (.int .i64)), (.cell 4 1, .row false (.slice (.int .u8)))], [(2, 2), (4, 2)]⟩)]
noncomputable def F21_7 (k : Nat) : Nat → m21_7.den → Option (denE x21_7)
  | 0, _ => none
  | j + 1, v => round TI (O73 k) (L21_7 k) b21_7 m21_7 x21_7 (F21_7 k j) v
theorem lk21_7_ (k : Nat) : LinksOK Try.prog 39 (L21_7 k) b21_7 := (And.intro True.intro (And.intro (And.intro True.intro True.intro) (And.intro (And.intro True.intro True.intro) True.intro)))
noncomputable def L21 (k : Nat) : LOrc := fun R lk s K => match lk with
  | .loop r => bif Nat.beq r 7 then link m21_7 x21_7 (F21_7 k k) s K else none
  | .label l => none
theorem lk_L21_7 (k : Nat) : LoopOK Try.prog 39 (L21 k) b21_7 := loopOK_of hm hT (ok_O73 k) (fun _ _ _ h => h) rfl (lk21_7_ k) rfl rfl (F := F21_7 k) (fun _ => rfl) (fun _ _ => rfl) (n := k) fun _ _ _ => rfl
noncomputable def F21 (k : Nat) (v : mi21.den) : Option mo21.den := runF TI (O73 k) (L21 k) c21 mi21 mo21 v
theorem lk21 (k : Nat) : LinksOK Try.prog 39 (L21 k) c21 := (And.intro True.intro (And.intro (And.intro True.intro (And.intro (And.intro True.intro True.intro) (And.intro True.intro (And.intro (And.intro True.intro True.intro) True.intro)))) (And.intro True.intro (And.intro (And.intro True.intro (lk_L21_7 k)) (And.intro True.intro True.intro)))))
theorem fn21 (k : Nat) (args : List AV) (x : mi21.den) (r : mo21.den) (h1 : args.length = mi21.items.length) (h2 : mi21.dec (Th.start args) = some x) (h3 : F21 k x = some r) : CallOK Try.prog 21 args (ansOf (outL mo21.items r)) :=
  call_of hm hT (ok_O73 k) (fn := Try.f21) (c := c21) rfl rfl rfl rfl (lk21 k) rfl (by decide) rfl h1 h2 h3
noncomputable def O21 (k : Nat) : Orc := fun R f args K => bif Nat.beq f 21 then callF mi21 mo21 (F21 k) args K else O73 k R f args K
theorem ok_O21 (k : Nat) : OrcOK (O21 k) (CallOK Try.prog) := orc_add (fn21 k) (ok_O73 k)

/-! 23: paydesk/queue.Take -/
noncomputable def c23 : Code := Try.f23.body.getD .skip
noncomputable def mi23 : Msk := ⟨[(.tmp 0, .val (.st (.cons (.int .i64) (.cons (.slice (.slice (.int .u8))) .nil))))], []⟩
noncomputable def mo23 : Msk := ⟨[(.res 2, .val (.st (.cons (.int .i64) (.cons (.slice (.slice (.int .u8))) .nil)))), (.tmp 3, .row false (.int .u8)), (.tmp 4, .val (.int .i64))], []⟩
noncomputable def L23 (k : Nat) : LOrc := fun _ _ _ _ => none
noncomputable def F23 (k : Nat) (v : mi23.den) : Option mo23.den := runF TI (O21 k) (L23 k) c23 mi23 mo23 v
theorem lk23 (k : Nat) : LinksOK Try.prog 29 (L23 k) c23 := (And.intro True.intro (And.intro (And.intro True.intro (And.intro (And.intro True.intro True.intro) (And.intro True.intro (And.intro (And.intro True.intro True.intro) True.intro)))) (And.intro True.intro (And.intro True.intro (And.intro True.intro True.intro)))))
theorem fn23 (k : Nat) (args : List AV) (x : mi23.den) (r : mo23.den) (h1 : args.length = mi23.items.length) (h2 : mi23.dec (Th.start args) = some x) (h3 : F23 k x = some r) : CallOK Try.prog 23 args (ansOf (outL mo23.items r)) :=
  call_of hm hT (ok_O21 k) (fn := Try.f23) (c := c23) rfl rfl rfl rfl (lk23 k) rfl (by decide) rfl h1 h2 h3
noncomputable def O23 (k : Nat) : Orc := fun R f args K => bif Nat.beq f 23 then callF mi23 mo23 (F23 k) args K else O21 k R f args K
theorem ok_O23 (k : Nat) : OrcOK (O23 k) (CallOK Try.prog) := orc_add (fn23 k) (ok_O21 k)

/-! 16: paydesk/paydesklaw13.awake -/
noncomputable def c16 : Code := Try.f16.body.getD .skip
noncomputable def mi16 : Msk := ⟨[], []⟩
noncomputable def mo16 : Msk := ⟨[(.tmp 0, .val .bool)], []⟩
noncomputable def L16 (k : Nat) : LOrc := fun _ _ _ _ => none
noncomputable def F16 (k : Nat) (v : mi16.den) : Option mo16.den := runF TI (O23 k) (L16 k) c16 mi16 mo16 v
theorem lk16 (k : Nat) : LinksOK Try.prog 70 (L16 k) c16 := (And.intro True.intro (And.intro True.intro (And.intro True.intro (And.intro True.intro (And.intro True.intro (And.intro True.intro True.intro))))))
theorem fn16 (k : Nat) (args : List AV) (x : mi16.den) (r : mo16.den) (h1 : args.length = mi16.items.length) (h2 : mi16.dec (Th.start args) = some x) (h3 : F16 k x = some r) : CallOK Try.prog 16 args (ansOf (outL mo16.items r)) :=
  call_of hm hT (ok_O23 k) (fn := Try.f16) (c := c16) rfl rfl rfl rfl (lk16 k) rfl (by decide) rfl h1 h2 h3
noncomputable def O16 (k : Nat) : Orc := fun R f args K => bif Nat.beq f 16 then callF mi16 mo16 (F16 k) args K else O23 k R f args K
theorem ok_O16 (k : Nat) : OrcOK (O16 k) (CallOK Try.prog) := orc_add (fn16 k) (ok_O23 k)

/-! 17: paydesk/paydeskref13.Lists -/
noncomputable def c17 : Code := Try.f17.body.getD .skip
noncomputable def mi17 : Msk := ⟨[(.tmp 0, .val (.slice (.slice (.int .u8))))], []⟩
noncomputable def mo17 : Msk := ⟨[(.tmp 2, .val .bool)], []⟩
noncomputable def L17_2 (k : Nat) : LOrc := fun _ _ _ _ => none
noncomputable def b17_2 : Code := (findLoop 2 c17).getD .skip
noncomputable def m17_2 : Msk := ⟨[(.tmp 0, .val (.slice (.slice (.int .u8)))), (.tmp 3, .val (.int .i64))], []⟩
noncomputable def x17_2 : List (X × Msk) := [(.exit 0, ⟨[(.tmp 0, .val (.slice (.slice (.int .u8))))], []⟩), (.ret, ⟨[(.tmp 2, .val .bool)], []⟩)]
noncomputable def F17_2 (k : Nat) : Nat → m17_2.den → Option (denE x17_2)
  | 0, _ => none
  | j + 1, v => round TI (O16 k) (L17_2 k) b17_2 m17_2 x17_2 (F17_2 k j) v
theorem lk17_2_ (k : Nat) : LinksOK Try.prog 23 (L17_2 k) b17_2 := (And.intro (And.intro True.intro (And.intro True.intro True.intro)) (And.intro (And.intro True.intro (And.intro (And.intro True.intro True.intro) True.intro)) True.intro))
noncomputable def L17 (k : Nat) : LOrc := fun R lk s K => match lk with
  | .loop r => bif Nat.beq r 2 then link m17_2 x17_2 (F17_2 k k) s K else none
  | .label l => none
theorem lk_L17_2 (k : Nat) : LoopOK Try.prog 23 (L17 k) b17_2 := loopOK_of hm hT (ok_O16 k) (fun _ _ _ h => h) rfl (lk17_2_ k) rfl rfl (F := F17_2 k) (fun _ => rfl) (fun _ _ => rfl) (n := k) fun _ _ _ => rfl
noncomputable def F17 (k : Nat) (v : mi17.den) : Option mo17.den := runF TI (O16 k) (L17 k) c17 mi17 mo17 v
theorem lk17 (k : Nat) : LinksOK Try.prog 23 (L17 k) c17 := (And.intro True.intro (And.intro (And.intro True.intro (lk_L17_2 k)) (And.intro True.intro True.intro)))
theorem fn17 (k : Nat) (args : List AV) (x : mi17.den) (r : mo17.den) (h1 : args.length = mi17.items.length) (h2 : mi17.dec (Th.start args) = some x) (h3 : F17 k x = some r) : CallOK Try.prog 17 args (ansOf (outL mo17.items r)) :=
  call_of hm hT (ok_O16 k) (fn := Try.f17) (c := c17) rfl rfl rfl rfl (lk17 k) rfl (by decide) rfl h1 h2 h3
noncomputable def O17 (k : Nat) : Orc := fun R f args K => bif Nat.beq f 17 then callF mi17 mo17 (F17 k) args K else O16 k R f args K
theorem ok_O17 (k : Nat) : OrcOK (O17 k) (CallOK Try.prog) := orc_add (fn17 k) (ok_O16 k)

/-! 27: paydesk/paydeskref05.Lists -/
noncomputable def c27 : Code := Try.f27.body.getD .skip
noncomputable def mi27 : Msk := ⟨[(.tmp 0, .val (.slice (.slice (.int .u8)))), (.tmp 1, .val (.slice (.slice (.int .u8))))], []⟩
noncomputable def mo27 : Msk := ⟨[(.tmp 4, .val .bool)], []⟩
noncomputable def L27_4 (k : Nat) : LOrc := fun _ _ _ _ => none
noncomputable def b27_4 : Code := (findLoop 4 c27).getD .skip
noncomputable def m27_4 : Msk := ⟨[(.tmp 0, .val (.slice (.slice (.int .u8)))), (.tmp 1, .val (.slice (.slice (.int .u8)))), (.tmp 5, .val (.int .i64))], []⟩
noncomputable def x27_4 : List (X × Msk) := [(.exit 0, ⟨[], []⟩), (.ret, ⟨[(.tmp 4, .val .bool)], []⟩)]
noncomputable def F27_4 (k : Nat) : Nat → m27_4.den → Option (denE x27_4)
  | 0, _ => none
  | j + 1, v => round TI (O17 k) (L27_4 k) b27_4 m27_4 x27_4 (F27_4 k j) v
theorem lk27_4_ (k : Nat) : LinksOK Try.prog 28 (L27_4 k) b27_4 := (And.intro (And.intro True.intro (And.intro True.intro True.intro)) (And.intro (And.intro True.intro (And.intro (And.intro True.intro True.intro) True.intro)) True.intro))
noncomputable def L27 (k : Nat) : LOrc := fun R lk s K => match lk with
  | .loop r => bif Nat.beq r 4 then link m27_4 x27_4 (F27_4 k k) s K else none
  | .label l => none
theorem lk_L27_4 (k : Nat) : LoopOK Try.prog 28 (L27 k) b27_4 := loopOK_of hm hT (ok_O17 k) (fun _ _ _ h => h) rfl (lk27_4_ k) rfl rfl (F := F27_4 k) (fun _ => rfl) (fun _ _ => rfl) (n := k) fun _ _ _ => rfl
noncomputable def F27 (k : Nat) (v : mi27.den) : Option mo27.den := runF TI (O17 k) (L27 k) c27 mi27 mo27 v
theorem lk27 (k : Nat) : LinksOK Try.prog 28 (L27 k) c27 := (And.intro True.intro (And.intro (And.intro True.intro (And.intro (And.intro True.intro True.intro) True.intro)) (And.intro (And.intro True.intro (lk_L27_4 k)) (And.intro True.intro True.intro))))
theorem fn27 (k : Nat) (args : List AV) (x : mi27.den) (r : mo27.den) (h1 : args.length = mi27.items.length) (h2 : mi27.dec (Th.start args) = some x) (h3 : F27 k x = some r) : CallOK Try.prog 27 args (ansOf (outL mo27.items r)) :=
  call_of hm hT (ok_O17 k) (fn := Try.f27) (c := c27) rfl rfl rfl rfl (lk27 k) rfl (by decide) rfl h1 h2 h3
noncomputable def O27 (k : Nat) : Orc := fun R f args K => bif Nat.beq f 27 then callF mi27 mo27 (F27 k) args K else O17 k R f args K
theorem ok_O27 (k : Nat) : OrcOK (O27 k) (CallOK Try.prog) := orc_add (fn27 k) (ok_O17 k)

/-! 19: paydesk/paydeskref13.Same -/
noncomputable def c19 : Code := Try.f19.body.getD .skip
noncomputable def mi19 : Msk := ⟨[(.tmp 0, .val (.st (.cons (.int .i64) (.cons (.slice (.slice (.int .u8))) .nil)))), (.tmp 1, .val (.st (.cons (.int .i64) (.cons (.slice (.slice (.int .u8))) .nil))))], []⟩
noncomputable def mo19 : Msk := ⟨[(.tmp 4, .val .bool)], []⟩
noncomputable def L19 (k : Nat) : LOrc := fun _ _ _ _ => none
noncomputable def F19 (k : Nat) (v : mi19.den) : Option mo19.den := runF TI (O27 k) (L19 k) c19 mi19 mo19 v
theorem lk19 (k : Nat) : LinksOK Try.prog 17 (L19 k) c19 := (And.intro True.intro (And.intro True.intro True.intro))
theorem fn19 (k : Nat) (args : List AV) (x : mi19.den) (r : mo19.den) (h1 : args.length = mi19.items.length) (h2 : mi19.dec (Th.start args) = some x) (h3 : F19 k x = some r) : CallOK Try.prog 19 args (ansOf (outL mo19.items r)) :=
  call_of hm hT (ok_O27 k) (fn := Try.f19) (c := c19) rfl rfl rfl rfl (lk19 k) rfl (by decide) rfl h1 h2 h3
noncomputable def O19 (k : Nat) : Orc := fun R f args K => bif Nat.beq f 19 then callF mi19 mo19 (F19 k) args K else O27 k R f args K
theorem ok_O19 (k : Nat) : OrcOK (O19 k) (CallOK Try.prog) := orc_add (fn19 k) (ok_O27 k)

/-! 20: paydesk/paydeskref13.Right -/
noncomputable def c20 : Code := Try.f20.body.getD .skip
noncomputable def mi20 : Msk := ⟨[(.tmp 0, .val (.st (.cons (.int .i64) (.cons (.slice (.slice (.int .u8))) .nil))))], []⟩
noncomputable def mo20 : Msk := ⟨[(.tmp 2, .val .bool)], []⟩
noncomputable def L20 (k : Nat) : LOrc := fun _ _ _ _ => none
noncomputable def F20 (k : Nat) (v : mi20.den) : Option mo20.den := runF TI (O19 k) (L20 k) c20 mi20 mo20 v
theorem lk20 (k : Nat) : LinksOK Try.prog 19 (L20 k) c20 := (And.intro True.intro (And.intro True.intro True.intro))
theorem fn20 (k : Nat) (args : List AV) (x : mi20.den) (r : mo20.den) (h1 : args.length = mi20.items.length) (h2 : mi20.dec (Th.start args) = some x) (h3 : F20 k x = some r) : CallOK Try.prog 20 args (ansOf (outL mo20.items r)) :=
  call_of hm hT (ok_O19 k) (fn := Try.f20) (c := c20) rfl rfl rfl rfl (lk20 k) rfl (by decide) rfl h1 h2 h3
noncomputable def O20 (k : Nat) : Orc := fun R f args K => bif Nat.beq f 20 then callF mi20 mo20 (F20 k) args K else O19 k R f args K
theorem ok_O20 (k : Nat) : OrcOK (O20 k) (CallOK Try.prog) := orc_add (fn20 k) (ok_O19 k)

/-! 22: paydesk/paydeskref13.Put -/
noncomputable def c22 : Code := Try.f22.body.getD .skip
noncomputable def mi22 : Msk := ⟨[(.tmp 0, .val (.st (.cons (.int .i64) (.cons (.slice (.slice (.int .u8))) .nil)))), (.tmp 1, .val (.slice (.slice (.int .u8))))], []⟩
noncomputable def mo22 : Msk := ⟨[(.res 4, .val (.st (.cons (.int .i64) (.cons (.slice (.slice (.int .u8))) .nil)))), (.tmp 5, .val (.int .i64))], []⟩
noncomputable def L22 (k : Nat) : LOrc := fun _ _ _ _ => none
noncomputable def F22 (k : Nat) (v : mi22.den) : Option mo22.den := runF TI (O20 k) (L22 k) c22 mi22 mo22 v
theorem lk22 (k : Nat) : LinksOK Try.prog 29 (L22 k) c22 := (And.intro True.intro (And.intro (And.intro True.intro (And.intro (And.intro True.intro True.intro) True.intro)) (And.intro (And.intro True.intro (And.intro (And.intro True.intro True.intro) True.intro)) (And.intro True.intro True.intro))))
theorem fn22 (k : Nat) (args : List AV) (x : mi22.den) (r : mo22.den) (h1 : args.length = mi22.items.length) (h2 : mi22.dec (Th.start args) = some x) (h3 : F22 k x = some r) : CallOK Try.prog 22 args (ansOf (outL mo22.items r)) :=
  call_of hm hT (ok_O20 k) (fn := Try.f22) (c := c22) rfl rfl rfl rfl (lk22 k) rfl (by decide) rfl h1 h2 h3
noncomputable def O22 (k : Nat) : Orc := fun R f args K => bif Nat.beq f 22 then callF mi22 mo22 (F22 k) args K else O20 k R f args K
theorem ok_O22 (k : Nat) : OrcOK (O22 k) (CallOK Try.prog) := orc_add (fn22 k) (ok_O20 k)

/-! 24: paydesk/paydeskref13.Take -/
noncomputable def c24 : Code := Try.f24.body.getD .skip
noncomputable def mi24 : Msk := ⟨[(.tmp 0, .val (.st (.cons (.int .i64) (.cons (.slice (.slice (.int .u8))) .nil))))], []⟩
noncomputable def mo24 : Msk := ⟨[(.res 2, .val (.st (.cons (.int .i64) (.cons (.slice (.slice (.int .u8))) .nil)))), (.tmp 3, .val (.slice (.int .u8))), (.tmp 4, .val (.int .i64))], []⟩
noncomputable def L24 (k : Nat) : LOrc := fun _ _ _ _ => none
noncomputable def F24 (k : Nat) (v : mi24.den) : Option mo24.den := runF TI (O22 k) (L24 k) c24 mi24 mo24 v
theorem lk24 (k : Nat) : LinksOK Try.prog 24 (L24 k) c24 := (And.intro True.intro (And.intro (And.intro True.intro (And.intro (And.intro True.intro True.intro) True.intro)) (And.intro (And.intro True.intro (And.intro (And.intro True.intro True.intro) True.intro)) (And.intro True.intro True.intro))))
theorem fn24 (k : Nat) (args : List AV) (x : mi24.den) (r : mo24.den) (h1 : args.length = mi24.items.length) (h2 : mi24.dec (Th.start args) = some x) (h3 : F24 k x = some r) : CallOK Try.prog 24 args (ansOf (outL mo24.items r)) :=
  call_of hm hT (ok_O22 k) (fn := Try.f24) (c := c24) rfl rfl rfl rfl (lk24 k) rfl (by decide) rfl h1 h2 h3
noncomputable def O24 (k : Nat) : Orc := fun R f args K => bif Nat.beq f 24 then callF mi24 mo24 (F24 k) args K else O22 k R f args K
theorem ok_O24 (k : Nat) : OrcOK (O24 k) (CallOK Try.prog) := orc_add (fn24 k) (ok_O22 k)

/-! 3: paydesk/paydesklaw13.QueueRight -/
noncomputable def c3 : Code := Try.f3.body.getD .skip
noncomputable def mi3 : Msk := ⟨[(.tmp 0, .val (.st (.cons (.int .i64) (.cons (.slice (.slice (.int .u8))) .nil)))), (.tmp 1, .val (.slice (.slice (.int .u8)))), (.tmp 2, .val (.int .i64))], []⟩
noncomputable def mo3 : Msk := ⟨[(.tmp 6, .val .bool)], []⟩
noncomputable def L3 (k : Nat) : LOrc := fun _ _ _ _ => none
noncomputable def F3 (k : Nat) (v : mi3.den) : Option mo3.den := runF TI (O24 k) (L3 k) c3 mi3 mo3 v
theorem lk3 (k : Nat) : LinksOK Try.prog 129 (L3 k) c3 := (And.intro True.intro (And.intro (And.intro True.intro (And.intro (And.intro True.intro True.intro) True.intro)) (And.intro (And.intro True.intro (And.intro (And.intro True.intro True.intro) True.intro)) (And.intro True.intro (And.intro (And.intro True.intro (And.intro (And.intro True.intro (And.intro (And.intro True.intro True.intro) True.intro)) (And.intro True.intro (And.intro (And.intro True.intro True.intro) True.intro)))) (And.intro True.intro (And.intro (And.intro True.intro (And.intro True.intro True.intro)) (And.intro True.intro (And.intro True.intro (And.intro True.intro (And.intro True.intro (And.intro True.intro True.intro))))))))))))
theorem fn3 (k : Nat) (args : List AV) (x : mi3.den) (r : mo3.den) (h1 : args.length = mi3.items.length) (h2 : mi3.dec (Th.start args) = some x) (h3 : F3 k x = some r) : CallOK Try.prog 3 args (ansOf (outL mo3.items r)) :=
  call_of hm hT (ok_O24 k) (fn := Try.f3) (c := c3) rfl rfl rfl rfl (lk3 k) rfl (by decide) rfl h1 h2 h3
noncomputable def O3 (k : Nat) : Orc := fun R f args K => bif Nat.beq f 3 then callF mi3 mo3 (F3 k) args K else O24 k R f args K
theorem ok_O3 (k : Nat) : OrcOK (O3 k) (CallOK Try.prog) := orc_add (fn3 k) (ok_O24 k)

/-! 4: paydesk/paydesklaw13.QueueRow -/
noncomputable def c4 : Code := Try.f4.body.getD .skip
noncomputable def mi4 : Msk := ⟨[(.tmp 0, .val (.int .u8)), (.tmp 1, .val (.slice (.slice (.int .u8))))], []⟩
noncomputable def mo4 : Msk := ⟨[(.tmp 4, .val .bool)], []⟩
noncomputable def L4_11 (k : Nat) : LOrc := fun _ _ _ _ => none
noncomputable def b4_11 : Code := (findLoop 11 c4).getD .skip
noncomputable def m4_11 : Msk := ⟨[(.tmp 1, .val (.slice (.slice (.int .u8)))), (.tmp 5, .ptr 5 0), (.tmp 7, .ptr 7 0), (.tmp 8, .val (.int .i64)), (.tmp 9, .val (.int .i64)), (.tmp 10, .val (.int .i64)), (.cell 5 0, .val (.int .i64)), (.cell 5 1, .val (.slice (.slice (.int .u8)))), (.cell 7 0, .val (.int .i64)), (.cell 7 1, .val (.slice (.slice (.int .u8))))], [(5, 2), (7, 2)]⟩
noncomputable def x4_11 : List (X × Msk) := [(.exit 0, ⟨[(.tmp 1, .val (.slice (.slice (.int .u8)))), (.tmp 5, .ptr 5 0), (.tmp 7, .ptr 7 0), (.tmp 8, .val (.int .i64)), (.tmp 9, .val (.int .i64)), (.cell 5 0, .val (.int .i64)), (.cell 5 1, .val (.slice (.slice (.int .u8)))), (.cell 7 0, .val (.int .i64)), (.cell 7 1, .val (.slice (.slice (.int .u8))))], [(5, 2), (7, 2)]⟩), (.ret, ⟨[(.tmp 4, .val .bool)], []⟩)]
noncomputable def F4_11 (k : Nat) : Nat → m4_11.den → Option (denE x4_11)
  | 0, _ => none
  | j + 1, v => round TI (O3 k) (L4_11 k) b4_11 m4_11 x4_11 (F4_11 k j) v
theorem lk4_11_ (k : Nat) : LinksOK Try.prog 147 (L4_11 k) b4_11 := (And.intro (And.intro True.intro (And.intro True.intro True.intro)) (And.intro (And.intro True.intro (And.intro (And.intro True.intro (And.intro (And.intro True.intro True.intro) True.intro)) (And.intro (And.intro True.intro (And.intro True.intro True.intro)) True.intro))) True.intro))
noncomputable def L4_23 (k : Nat) : LOrc := fun _ _ _ _ => none
noncomputable def b4_23 : Code := (findLoop 23 c4).getD .skip
noncomputable def m4_23 : Msk := ⟨[(.tmp 1, .val (.slice (.slice (.int .u8)))), (.tmp 5, .ptr 5 0), (.tmp 9, .val (.int .i64)), (.tmp 13, .row false (.slice (.int .u8))), (.tmp 14, .val (.int .i64)), (.cell 5 0, .val (.int .i64)), (.cell 5 1, .val (.slice (.slice (.int .u8))))], [(5, 2)]⟩
noncomputable def x4_23 : List (X × Msk) := [(.exit 2, ⟨[(.tmp 1, .val (.slice (.slice (.int .u8)))), (.tmp 5, .ptr 5 0), (.tmp 9, .val (.int .i64)), (.tmp 13, .row false (.slice (.int .u8))), (.cell 5 0, .val (.int .i64)), (.cell 5 1, .val (.slice (.slice (.int .u8))))], [(5, 2)]⟩), (.ret, ⟨[(.tmp 4, .val .bool)], []⟩)]
noncomputable def F4_23 (k : Nat) : Nat → m4_23.den → Option (denE x4_23)
  | 0, _ => none
  | j + 1, v => round TI (O3 k) (L4_23 k) b4_23 m4_23 x4_23 (F4_23 k j) v
theorem lk4_23_ (k : Nat) : LinksOK Try.prog 147 (L4_23 k) b4_23 := (And.intro (And.intro True.intro (And.intro True.intro True.intro)) (And.intro (And.intro True.intro (And.intro (And.intro True.intro (And.intro (And.intro True.intro True.intro) True.intro)) (And.intro True.intro True.intro))) True.intro))
noncomputable def L4 (k : Nat) : LOrc := fun R lk s K => match lk with
  | .loop r => bif Nat.beq r 11 then link m4_11 x4_11 (F4_11 k k) s K else bif Nat.beq r 23 then link m4_23 x4_23 (F4_23 k k) s K else none
  | .label l => none
theorem lk_L4_11 (k : Nat) : LoopOK Try.prog 147 (L4 k) b4_11 := loopOK_of hm hT (ok_O3 k) (fun _ _ _ h => h) rfl (lk4_11_ k) rfl rfl (F := F4_11 k) (fun _ => rfl) (fun _ _ => rfl) (n := k) fun _ _ _ => rfl
theorem lk_L4_23 (k : Nat) : LoopOK Try.prog 147 (L4 k) b4_23 := loopOK_of hm hT (ok_O3 k) (fun _ _ _ h => h) rfl (lk4_23_ k) rfl rfl (F := F4_23 k) (fun _ => rfl) (fun _ _ => rfl) (n := k) fun _ _ _ => rfl
noncomputable def F4 (k : Nat) (v : mi4.den) : Option mo4.den := runF TI (O3 k) (L4 k) c4 mi4 mo4 v
theorem lk4 (k : Nat) : LinksOK Try.prog 147 (L4 k) c4 := (And.intro True.intro (And.intro (And.intro True.intro (And.intro (And.intro True.intro True.intro) True.intro)) (And.intro (And.intro True.intro (And.intro (And.intro True.intro True.intro) True.intro)) (And.intro True.intro (And.intro (And.intro True.intro (And.intro (And.intro True.intro True.intro) True.intro)) (And.intro True.intro (And.intro True.intro (And.intro (And.intro True.intro (lk_L4_11 k)) (And.intro (And.intro True.intro (And.intro (And.intro True.intro True.intro) True.intro)) (And.intro True.intro (And.intro (And.intro True.intro (lk_L4_23 k)) (And.intro True.intro (And.intro True.intro True.intro)))))))))))))
theorem fn4 (k : Nat) (args : List AV) (x : mi4.den) (r : mo4.den) (h1 : args.length = mi4.items.length) (h2 : mi4.dec (Th.start args) = some x) (h3 : F4 k x = some r) : CallOK Try.prog 4 args (ansOf (outL mo4.items r)) :=
  call_of hm hT (ok_O3 k) (fn := Try.f4) (c := c4) rfl rfl rfl rfl (lk4 k) rfl (by decide) rfl h1 h2 h3
noncomputable def O4 (k : Nat) : Orc := fun R f args K => bif Nat.beq f 4 then callF mi4 mo4 (F4 k) args K else O3 k R f args K
theorem ok_O4 (k : Nat) : OrcOK (O4 k) (CallOK Try.prog) := orc_add (fn4 k) (ok_O3 k)

/-! 38: paydesk/digit.Put -/
noncomputable def c38 : Code := Try.f38.body.getD .skip
noncomputable def mi38 : Msk := ⟨[(.tmp 0, .val (.int .u64)), (.tmp 1, .val (.int .i64))], []⟩
noncomputable def mo38 : Msk := ⟨[(.tmp 4, .val .str), (.tmp 5, .val (.int .i64))], []⟩
noncomputable def L38_5 (k : Nat) : LOrc := fun _ _ _ _ => none
noncomputable def b38_5 : Code := (findLoop 5 c38).getD .skip
noncomputable def m38_5 : Msk := ⟨[(.tmp 0, .val (.int .u64)), (.tmp 6, .row false (.int .u8)), (.tmp 7, .val (.int .i64))], []⟩
noncomputable def x38_5 : List (X × Msk) := [(.exit 0, ⟨[(.tmp 0, .val (.int .u64)), (.tmp 6, .row false (.int .u8))], []⟩)]
noncomputable def F38_5 (k : Nat) : Nat → m38_5.den → Option (denE x38_5)
  | 0, _ => none
  | j + 1, v => round TI (O4 k) (L38_5 k) b38_5 m38_5 x38_5 (F38_5 k j) v
theorem lk38_5_ (k : Nat) : LinksOK Try.prog 35 (L38_5 k) b38_5 := (And.intro (And.intro True.intro (And.intro True.intro True.intro)) (And.intro (And.intro True.intro True.intro) True.intro))
noncomputable def L38 (k : Nat) : LOrc := fun R lk s K => match lk with
  | .loop r => bif Nat.beq r 5 then link m38_5 x38_5 (F38_5 k k) s K else none
  | .label l => none
theorem lk_L38_5 (k : Nat) : LoopOK Try.prog 35 (L38 k) b38_5 := loopOK_of hm hT (ok_O4 k) (fun _ _ _ h => h) rfl (lk38_5_ k) rfl rfl (F := F38_5 k) (fun _ => rfl) (fun _ _ => rfl) (n := k) fun _ _ _ => rfl
noncomputable def F38 (k : Nat) (v : mi38.den) : Option mo38.den := runF TI (O4 k) (L38 k) c38 mi38 mo38 v
theorem lk38 (k : Nat) : LinksOK Try.prog 35 (L38 k) c38 := (And.intro True.intro (And.intro (And.intro True.intro (And.intro (And.intro True.intro True.intro) True.intro)) (And.intro True.intro (And.intro (And.intro True.intro (lk_L38_5 k)) (And.intro (And.intro True.intro (And.intro (And.intro True.intro True.intro) True.intro)) (And.intro True.intro True.intro))))))
theorem fn38 (k : Nat) (args : List AV) (x : mi38.den) (r : mo38.den) (h1 : args.length = mi38.items.length) (h2 : mi38.dec (Th.start args) = some x) (h3 : F38 k x = some r) : CallOK Try.prog 38 args (ansOf (outL mo38.items r)) :=
  call_of hm hT (ok_O4 k) (fn := Try.f38) (c := c38) rfl rfl rfl rfl (lk38 k) rfl (by decide) rfl h1 h2 h3
noncomputable def O38 (k : Nat) : Orc := fun R f args K => bif Nat.beq f 38 then callF mi38 mo38 (F38 k) args K else O4 k R f args K
theorem ok_O38 (k : Nat) : OrcOK (O38 k) (CallOK Try.prog) := orc_add (fn38 k) (ok_O4 k)

/-! 44: paydesk/digit.Is -/
noncomputable def c44 : Code := Try.f44.body.getD .skip
noncomputable def mi44 : Msk := ⟨[(.tmp 0, .val .str)], []⟩
noncomputable def mo44 : Msk := ⟨[(.tmp 2, .val .bool)], []⟩
noncomputable def L44_g0 (k : Nat) : LOrc := fun _ _ _ _ => none
noncomputable def b44_g0 : Code := (findScope 0 c44).getD .skip
noncomputable def l44_g0 : List (X × Msk) := [(.goto 0, ⟨[(.tmp 0, .val .str), (.tmp 3, .val (.int .i64))], []⟩)]
noncomputable def x44_g0 : List (X × Msk) := [(.ret, ⟨[(.tmp 2, .val .bool)], []⟩)]
noncomputable def F44_g0 (k : Nat) : Nat → denE l44_g0 → Option (denE x44_g0)
  | 0, _ => none
  | j + 1, v => pass TI (O38 k) (L44_g0 k) b44_g0 l44_g0 x44_g0 (F44_g0 k j) v
theorem lk44_g0_ (k : Nat) : LinksOK Try.prog 22 (L44_g0 k) b44_g0 := (And.intro True.intro (And.intro True.intro (And.intro (And.intro True.intro (And.intro (And.intro True.intro True.intro) True.intro)) (And.intro (And.intro True.intro (And.intro (And.intro True.intro True.intro) True.intro)) (And.intro True.intro True.intro)))))
noncomputable def L44 (k : Nat) : LOrc := fun R lk s K => match lk with
  | .loop r => none
  | .label l => (match findLabel b44_g0 l with | some _ => linkJ l44_g0 x44_g0 (F44_g0 k k) l s K | none => none)
theorem lk_L44_g0 (k : Nat) : JumpsOK Try.prog 22 (L44 k) b44_g0 := jumpsOK_of hm hT (ok_O38 k) (fun _ _ _ h => h) rfl (lk44_g0_ k) rfl rfl (F := F44_g0 k) (fun _ => rfl) (fun _ _ => rfl) (n := k) fun R l s K rest hf => by
  show (match findLabel b44_g0 l with | some _ => linkJ l44_g0 x44_g0 (F44_g0 k k) l s K | none => none) = _
  rw [hf]
noncomputable def F44 (k : Nat) (v : mi44.den) : Option mo44.den := runF TI (O38 k) (L44 k) c44 mi44 mo44 v
theorem lk44 (k : Nat) : LinksOK Try.prog 22 (L44 k) c44 := (And.intro True.intro (And.intro (lk_L44_g0 k) (And.intro True.intro (And.intro True.intro (And.intro (And.intro True.intro (And.intro (And.intro True.intro True.intro) True.intro)) (And.intro (And.intro True.intro (And.intro (And.intro True.intro True.intro) True.intro)) (And.intro True.intro True.intro)))))))
theorem fn44 (k : Nat) (args : List AV) (x : mi44.den) (r : mo44.den) (h1 : args.length = mi44.items.length) (h2 : mi44.dec (Th.start args) = some x) (h3 : F44 k x = some r) : CallOK Try.prog 44 args (ansOf (outL mo44.items r)) :=
  call_of hm hT (ok_O38 k) (fn := Try.f44) (c := c44) rfl rfl rfl rfl (lk44 k) rfl (by decide) rfl h1 h2 h3
noncomputable def O44 (k : Nat) : Orc := fun R f args K => bif Nat.beq f 44 then callF mi44 mo44 (F44 k) args K else O38 k R f args K
theorem ok_O44 (k : Nat) : OrcOK (O44 k) (CallOK Try.prog) := orc_add (fn44 k) (ok_O38 k)

/-! 40: paydesk/digit.Get -/
noncomputable def c40 : Code := Try.f40.body.getD .skip
noncomputable def mi40 : Msk := ⟨[(.tmp 0, .val .str)], []⟩
noncomputable def mo40 : Msk := ⟨[(.tmp 2, .val (.int .u64)), (.tmp 3, .val (.int .i64))], []⟩
noncomputable def L40_9 (k : Nat) : LOrc := fun _ _ _ _ => none
noncomputable def b40_9 : Code := (findLoop 9 c40).getD .skip
noncomputable def m40_9 : Msk := ⟨[(.tmp 4, .val (.int .u64)), (.tmp 19, .row false (.int .u8)), (.tmp 20, .val (.int .i64)), (.tmp 21, .val (.int .i64))], []⟩
noncomputable def x40_9 : List (X × Msk) := [(.exit 1, ⟨[(.tmp 4, .val (.int .u64))], []⟩)]
noncomputable def F40_9 (k : Nat) : Nat → m40_9.den → Option (denE x40_9)
  | 0, _ => none
  | j + 1, v => round TI (O44 k) (L40_9 k) b40_9 m40_9 x40_9 (F40_9 k j) v
theorem lk40_9_ (k : Nat) : LinksOK Try.prog 33 (L40_9 k) b40_9 := (And.intro True.intro (And.intro (And.intro True.intro True.intro) (And.intro (And.intro True.intro True.intro) True.intro)))
noncomputable def L40 (k : Nat) : LOrc := fun R lk s K => match lk with
  | .loop r => bif Nat.beq r 9 then link m40_9 x40_9 (F40_9 k k) s K else none
  | .label l => none
theorem lk_L40_9 (k : Nat) : LoopOK Try.prog 33 (L40 k) b40_9 := loopOK_of hm hT (ok_O44 k) (fun _ _ _ h => h) rfl (lk40_9_ k) rfl rfl (F := F40_9 k) (fun _ => rfl) (fun _ _ => rfl) (n := k) fun _ _ _ => rfl
noncomputable def F40 (k : Nat) (v : mi40.den) : Option mo40.den := runF TI (O44 k) (L40 k) c40 mi40 mo40 v
theorem lk40 (k : Nat) : LinksOK Try.prog 33 (L40 k) c40 := (And.intro True.intro (And.intro (And.intro True.intro (And.intro (And.intro True.intro True.intro) (And.intro True.intro (And.intro (And.intro True.intro True.intro) (And.intro True.intro (And.intro (And.intro True.intro True.intro) True.intro)))))) (And.intro True.intro (And.intro (And.intro True.intro (lk_L40_9 k)) (And.intro True.intro True.intro)))))
theorem fn40 (k : Nat) (args : List AV) (x : mi40.den) (r : mo40.den) (h1 : args.length = mi40.items.length) (h2 : mi40.dec (Th.start args) = some x) (h3 : F40 k x = some r) : CallOK Try.prog 40 args (ansOf (outL mo40.items r)) :=
  call_of hm hT (ok_O44 k) (fn := Try.f40) (c := c40) rfl rfl rfl rfl (lk40 k) rfl (by decide) rfl h1 h2 h3
noncomputable def O40 (k : Nat) : Orc := fun R f args K => bif Nat.beq f 40 then callF mi40 mo40 (F40 k) args K else O44 k R f args K
theorem ok_O40 (k : Nat) : OrcOK (O40 k) (CallOK Try.prog) := orc_add (fn40 k) (ok_O44 k)

/-! 77: paydesk/digit.sum (walked by hand) -/
noncomputable def F77 (k : Nat) (v : List UInt8 × Bool × Unit) : Option (Int × Unit) := sel (decide (v.1.length ≤ 9223372036854775807)) (some ((Sum.sumOf (Sum.backs (toBytes v.1)) v.2.1).1, ())) none
noncomputable def O77 (k : Nat) : Orc := fun R f args K => bif Nat.beq f 77 then (match args with | [.str b, .bool t] => ocall (F77 k (b, t, ())) fun r => K (.int .i64 r.1) | _ => none) else O40 k R f args K
theorem ok_O77 (k : Nat) : OrcOK (O77 k) (CallOK Try.prog) := by
  intro R f args K r h
  unfold O77 at h
  cases hb : Nat.beq f 77 with
  | false => rw [hb] at h; exact ok_O40 k R f args K r h
  | true =>
    rw [hb] at h
    rw [Nat.eq_of_beq_eq_true hb]
    simp only [cond_true] at h
    split at h
    · rename_i b t
      unfold F77 at h
      by_cases hl : b.length ≤ 9223372036854775807
      · rw [sel_pos hl] at h
        exact ⟨_, Sum.fn77 b hl t, h⟩
      · rw [sel_neg hl] at h; cases h
    · cases h

/-! 42: paydesk/digit.Check -/
noncomputable def c42 : Code := Try.f42.body.getD .skip
noncomputable def mi42 : Msk := ⟨[(.tmp 0, .val .str)], []⟩
noncomputable def mo42 : Msk := ⟨[(.tmp 2, .val .str), (.tmp 3, .val (.int .i64))], []⟩
noncomputable def L42 (k : Nat) : LOrc := fun _ _ _ _ => none
noncomputable def F42 (k : Nat) (v : mi42.den) : Option mo42.den := runF TI (O77 k) (L42 k) c42 mi42 mo42 v
theorem lk42 (k : Nat) : LinksOK Try.prog 16 (L42 k) c42 := (And.intro True.intro (And.intro (And.intro True.intro (And.intro (And.intro True.intro True.intro) True.intro)) (And.intro True.intro True.intro)))
theorem fn42 (k : Nat) (args : List AV) (x : mi42.den) (r : mo42.den) (h1 : args.length = mi42.items.length) (h2 : mi42.dec (Th.start args) = some x) (h3 : F42 k x = some r) : CallOK Try.prog 42 args (ansOf (outL mo42.items r)) :=
  call_of hm hT (ok_O77 k) (fn := Try.f42) (c := c42) rfl rfl rfl rfl (lk42 k) rfl (by decide) rfl h1 h2 h3
noncomputable def O42 (k : Nat) : Orc := fun R f args K => bif Nat.beq f 42 then callF mi42 mo42 (F42 k) args K else O77 k R f args K
theorem ok_O42 (k : Nat) : OrcOK (O42 k) (CallOK Try.prog) := orc_add (fn42 k) (ok_O77 k)

/-! 46: paydesk/digit.Fine -/
noncomputable def c46 : Code := Try.f46.body.getD .skip
noncomputable def mi46 : Msk := ⟨[(.tmp 0, .val .str)], []⟩
noncomputable def mo46 : Msk := ⟨[(.tmp 2, .val .bool)], []⟩
noncomputable def L46 (k : Nat) : LOrc := fun _ _ _ _ => none
noncomputable def F46 (k : Nat) (v : mi46.den) : Option mo46.den := runF TI (O42 k) (L46 k) c46 mi46 mo46 v
theorem lk46 (k : Nat) : LinksOK Try.prog 11 (L46 k) c46 := (And.intro True.intro (And.intro True.intro True.intro))
theorem fn46 (k : Nat) (args : List AV) (x : mi46.den) (r : mo46.den) (h1 : args.length = mi46.items.length) (h2 : mi46.dec (Th.start args) = some x) (h3 : F46 k x = some r) : CallOK Try.prog 46 args (ansOf (outL mo46.items r)) :=
  call_of hm hT (ok_O42 k) (fn := Try.f46) (c := c46) rfl rfl rfl rfl (lk46 k) rfl (by decide) rfl h1 h2 h3
noncomputable def O46 (k : Nat) : Orc := fun R f args K => bif Nat.beq f 46 then callF mi46 mo46 (F46 k) args K else O42 k R f args K
theorem ok_O46 (k : Nat) : OrcOK (O46 k) (CallOK Try.prog) := orc_add (fn46 k) (ok_O42 k)

/-! 37: paydesk/paydesklaw01.awake -/
noncomputable def c37 : Code := Try.f37.body.getD .skip
noncomputable def mi37 : Msk := ⟨[], []⟩
noncomputable def mo37 : Msk := ⟨[(.tmp 0, .val .bool)], []⟩
noncomputable def L37 (k : Nat) : LOrc := fun _ _ _ _ => none
noncomputable def F37 (k : Nat) (v : mi37.den) : Option mo37.den := runF TI (O46 k) (L37 k) c37 mi37 mo37 v
theorem lk37 (k : Nat) : LinksOK Try.prog 61 (L37 k) c37 := (And.intro True.intro (And.intro True.intro (And.intro True.intro (And.intro True.intro (And.intro True.intro (And.intro True.intro True.intro))))))
theorem fn37 (k : Nat) (args : List AV) (x : mi37.den) (r : mo37.den) (h1 : args.length = mi37.items.length) (h2 : mi37.dec (Th.start args) = some x) (h3 : F37 k x = some r) : CallOK Try.prog 37 args (ansOf (outL mo37.items r)) :=
  call_of hm hT (ok_O46 k) (fn := Try.f37) (c := c37) rfl rfl rfl rfl (lk37 k) rfl (by decide) rfl h1 h2 h3
noncomputable def O37 (k : Nat) : Orc := fun R f args K => bif Nat.beq f 37 then callF mi37 mo37 (F37 k) args K else O46 k R f args K
theorem ok_O37 (k : Nat) : OrcOK (O37 k) (CallOK Try.prog) := orc_add (fn37 k) (ok_O46 k)

/-! 39: paydesk/paydeskref01.Put -/
noncomputable def c39 : Code := Try.f39.body.getD .skip
noncomputable def mi39 : Msk := ⟨[(.tmp 0, .val (.int .u64)), (.tmp 1, .val (.int .i64))], []⟩
noncomputable def mo39 : Msk := ⟨[(.tmp 4, .val .str), (.tmp 5, .val (.int .i64))], []⟩
noncomputable def L39_5 (k : Nat) : LOrc := fun _ _ _ _ => none
noncomputable def b39_5 : Code := (findLoop 5 c39).getD .skip
noncomputable def m39_5 : Msk := ⟨[(.tmp 0, .val (.int .u64)), (.tmp 1, .val (.int .i64)), (.tmp 6, .val .str), (.tmp 7, .val (.int .i64))], []⟩
noncomputable def x39_5 : List (X × Msk) := [(.exit 0, ⟨[(.tmp 0, .val (.int .u64)), (.tmp 6, .val .str)], []⟩)]
noncomputable def F39_5 (k : Nat) : Nat → m39_5.den → Option (denE x39_5)
  | 0, _ => none
  | j + 1, v => round TI (O37 k) (L39_5 k) b39_5 m39_5 x39_5 (F39_5 k j) v
theorem lk39_5_ (k : Nat) : LinksOK Try.prog 32 (L39_5 k) b39_5 := (And.intro (And.intro True.intro (And.intro True.intro True.intro)) (And.intro (And.intro True.intro True.intro) True.intro))
noncomputable def L39 (k : Nat) : LOrc := fun R lk s K => match lk with
  | .loop r => bif Nat.beq r 5 then link m39_5 x39_5 (F39_5 k k) s K else none
  | .label l => none
theorem lk_L39_5 (k : Nat) : LoopOK Try.prog 32 (L39 k) b39_5 := loopOK_of hm hT (ok_O37 k) (fun _ _ _ h => h) rfl (lk39_5_ k) rfl rfl (F := F39_5 k) (fun _ => rfl) (fun _ _ => rfl) (n := k) fun _ _ _ => rfl
noncomputable def F39 (k : Nat) (v : mi39.den) : Option mo39.den := runF TI (O37 k) (L39 k) c39 mi39 mo39 v
theorem lk39 (k : Nat) : LinksOK Try.prog 32 (L39 k) c39 := (And.intro True.intro (And.intro (And.intro True.intro (And.intro (And.intro True.intro True.intro) True.intro)) (And.intro True.intro (And.intro (And.intro True.intro (lk_L39_5 k)) (And.intro (And.intro True.intro (And.intro (And.intro True.intro True.intro) True.intro)) (And.intro True.intro True.intro))))))
theorem fn39 (k : Nat) (args : List AV) (x : mi39.den) (r : mo39.den) (h1 : args.length = mi39.items.length) (h2 : mi39.dec (Th.start args) = some x) (h3 : F39 k x = some r) : CallOK Try.prog 39 args (ansOf (outL mo39.items r)) :=
  call_of hm hT (ok_O37 k) (fn := Try.f39) (c := c39) rfl rfl rfl rfl (lk39 k) rfl (by decide) rfl h1 h2 h3
noncomputable def O39 (k : Nat) : Orc := fun R f args K => bif Nat.beq f 39 then callF mi39 mo39 (F39 k) args K else O37 k R f args K
theorem ok_O39 (k : Nat) : OrcOK (O39 k) (CallOK Try.prog) := orc_add (fn39 k) (ok_O37 k)

/-! 45: paydesk/paydeskref01.Is -/
noncomputable def c45 : Code := Try.f45.body.getD .skip
noncomputable def mi45 : Msk := ⟨[(.tmp 0, .val .str)], []⟩
noncomputable def mo45 : Msk := ⟨[(.tmp 2, .val .bool)], []⟩
noncomputable def L45_2 (k : Nat) : LOrc := fun _ _ _ _ => none
noncomputable def b45_2 : Code := (findLoop 2 c45).getD .skip
noncomputable def m45_2 : Msk := ⟨[(.tmp 0, .val .str), (.tmp 3, .val (.int .i64))], []⟩
noncomputable def x45_2 : List (X × Msk) := [(.exit 0, ⟨[(.tmp 0, .val .str)], []⟩), (.ret, ⟨[(.tmp 2, .val .bool)], []⟩)]
noncomputable def F45_2 (k : Nat) : Nat → m45_2.den → Option (denE x45_2)
  | 0, _ => none
  | j + 1, v => round TI (O39 k) (L45_2 k) b45_2 m45_2 x45_2 (F45_2 k j) v
theorem lk45_2_ (k : Nat) : LinksOK Try.prog 23 (L45_2 k) b45_2 := (And.intro (And.intro True.intro (And.intro True.intro True.intro)) (And.intro (And.intro True.intro (And.intro (And.intro True.intro True.intro) True.intro)) True.intro))
noncomputable def L45 (k : Nat) : LOrc := fun R lk s K => match lk with
  | .loop r => bif Nat.beq r 2 then link m45_2 x45_2 (F45_2 k k) s K else none
  | .label l => none
theorem lk_L45_2 (k : Nat) : LoopOK Try.prog 23 (L45 k) b45_2 := loopOK_of hm hT (ok_O39 k) (fun _ _ _ h => h) rfl (lk45_2_ k) rfl rfl (F := F45_2 k) (fun _ => rfl) (fun _ _ => rfl) (n := k) fun _ _ _ => rfl
noncomputable def F45 (k : Nat) (v : mi45.den) : Option mo45.den := runF TI (O39 k) (L45 k) c45 mi45 mo45 v
theorem lk45 (k : Nat) : LinksOK Try.prog 23 (L45 k) c45 := (And.intro True.intro (And.intro (And.intro True.intro (lk_L45_2 k)) (And.intro True.intro True.intro)))
theorem fn45 (k : Nat) (args : List AV) (x : mi45.den) (r : mo45.den) (h1 : args.length = mi45.items.length) (h2 : mi45.dec (Th.start args) = some x) (h3 : F45 k x = some r) : CallOK Try.prog 45 args (ansOf (outL mo45.items r)) :=
  call_of hm hT (ok_O39 k) (fn := Try.f45) (c := c45) rfl rfl rfl rfl (lk45 k) rfl (by decide) rfl h1 h2 h3
noncomputable def O45 (k : Nat) : Orc := fun R f args K => bif Nat.beq f 45 then callF mi45 mo45 (F45 k) args K else O39 k R f args K
theorem ok_O45 (k : Nat) : OrcOK (O45 k) (CallOK Try.prog) := orc_add (fn45 k) (ok_O39 k)

/-! 41: paydesk/paydeskref01.Get -/
noncomputable def c41 : Code := Try.f41.body.getD .skip
noncomputable def mi41 : Msk := ⟨[(.tmp 0, .val .str)], []⟩
noncomputable def mo41 : Msk := ⟨[(.tmp 2, .val (.int .u64)), (.tmp 3, .val (.int .i64))], []⟩
noncomputable def L41_9 (k : Nat) : LOrc := fun _ _ _ _ => none
noncomputable def b41_9 : Code := (findLoop 9 c41).getD .skip
noncomputable def m41_9 : Msk := ⟨[(.tmp 0, .val .str), (.tmp 4, .val (.int .u64)), (.tmp 5, .val (.int .i64))], []⟩
noncomputable def x41_9 : List (X × Msk) := [(.exit 0, ⟨[(.tmp 4, .val (.int .u64))], []⟩)]
noncomputable def F41_9 (k : Nat) : Nat → m41_9.den → Option (denE x41_9)
  | 0, _ => none
  | j + 1, v => round TI (O45 k) (L41_9 k) b41_9 m41_9 x41_9 (F41_9 k j) v
theorem lk41_9_ (k : Nat) : LinksOK Try.prog 30 (L41_9 k) b41_9 := (And.intro (And.intro True.intro (And.intro True.intro True.intro)) (And.intro True.intro True.intro))
noncomputable def L41 (k : Nat) : LOrc := fun R lk s K => match lk with
  | .loop r => bif Nat.beq r 9 then link m41_9 x41_9 (F41_9 k k) s K else none
  | .label l => none
theorem lk_L41_9 (k : Nat) : LoopOK Try.prog 30 (L41 k) b41_9 := loopOK_of hm hT (ok_O45 k) (fun _ _ _ h => h) rfl (lk41_9_ k) rfl rfl (F := F41_9 k) (fun _ => rfl) (fun _ _ => rfl) (n := k) fun _ _ _ => rfl
noncomputable def F41 (k : Nat) (v : mi41.den) : Option mo41.den := runF TI (O45 k) (L41 k) c41 mi41 mo41 v
theorem lk41 (k : Nat) : LinksOK Try.prog 30 (L41 k) c41 := (And.intro True.intro (And.intro (And.intro True.intro (And.intro (And.intro True.intro True.intro) True.intro)) (And.intro (And.intro True.intro (And.intro (And.intro True.intro True.intro) True.intro)) (And.intro (And.intro True.intro (And.intro (And.intro True.intro True.intro) True.intro)) (And.intro True.intro (And.intro (And.intro True.intro (lk_L41_9 k)) (And.intro True.intro True.intro)))))))
theorem fn41 (k : Nat) (args : List AV) (x : mi41.den) (r : mo41.den) (h1 : args.length = mi41.items.length) (h2 : mi41.dec (Th.start args) = some x) (h3 : F41 k x = some r) : CallOK Try.prog 41 args (ansOf (outL mo41.items r)) :=
  call_of hm hT (ok_O45 k) (fn := Try.f41) (c := c41) rfl rfl rfl rfl (lk41 k) rfl (by decide) rfl h1 h2 h3
noncomputable def O41 (k : Nat) : Orc := fun R f args K => bif Nat.beq f 41 then callF mi41 mo41 (F41 k) args K else O45 k R f args K
theorem ok_O41 (k : Nat) : OrcOK (O41 k) (CallOK Try.prog) := orc_add (fn41 k) (ok_O45 k)

/-! 47: paydesk/paydeskref01.Fine -/
noncomputable def c47 : Code := Try.f47.body.getD .skip
noncomputable def mi47 : Msk := ⟨[(.tmp 0, .val .str)], []⟩
noncomputable def mo47 : Msk := ⟨[(.tmp 2, .val .bool)], []⟩
noncomputable def L47_5 (k : Nat) : LOrc := fun _ _ _ _ => none
noncomputable def b47_5 : Code := (findLoop 5 c47).getD .skip
noncomputable def m47_5 : Msk := ⟨[(.tmp 0, .val .str), (.tmp 3, .val (.int .i64)), (.tmp 4, .val (.int .i64))], []⟩
noncomputable def x47_5 : List (X × Msk) := [(.exit 0, ⟨[(.tmp 3, .val (.int .i64))], []⟩)]
noncomputable def F47_5 (k : Nat) : Nat → m47_5.den → Option (denE x47_5)
  | 0, _ => none
  | j + 1, v => round TI (O41 k) (L47_5 k) b47_5 m47_5 x47_5 (F47_5 k j) v
theorem lk47_5_ (k : Nat) : LinksOK Try.prog 38 (L47_5 k) b47_5 := (And.intro (And.intro True.intro (And.intro True.intro True.intro)) (And.intro (And.intro True.intro (And.intro (And.intro True.intro (And.intro (And.intro True.intro (And.intro True.intro (And.intro True.intro True.intro))) True.intro)) True.intro)) True.intro))
noncomputable def L47 (k : Nat) : LOrc := fun R lk s K => match lk with
  | .loop r => bif Nat.beq r 5 then link m47_5 x47_5 (F47_5 k k) s K else none
  | .label l => none
theorem lk_L47_5 (k : Nat) : LoopOK Try.prog 38 (L47 k) b47_5 := loopOK_of hm hT (ok_O41 k) (fun _ _ _ h => h) rfl (lk47_5_ k) rfl rfl (F := F47_5 k) (fun _ => rfl) (fun _ _ => rfl) (n := k) fun _ _ _ => rfl
noncomputable def F47 (k : Nat) (v : mi47.den) : Option mo47.den := runF TI (O41 k) (L47 k) c47 mi47 mo47 v
theorem lk47 (k : Nat) : LinksOK Try.prog 38 (L47 k) c47 := (And.intro True.intro (And.intro (And.intro True.intro (And.intro (And.intro True.intro True.intro) True.intro)) (And.intro True.intro (And.intro (And.intro True.intro (lk_L47_5 k)) (And.intro True.intro True.intro)))))
theorem fn47 (k : Nat) (args : List AV) (x : mi47.den) (r : mo47.den) (h1 : args.length = mi47.items.length) (h2 : mi47.dec (Th.start args) = some x) (h3 : F47 k x = some r) : CallOK Try.prog 47 args (ansOf (outL mo47.items r)) :=
  call_of hm hT (ok_O41 k) (fn := Try.f47) (c := c47) rfl rfl rfl rfl (lk47 k) rfl (by decide) rfl h1 h2 h3
noncomputable def O47 (k : Nat) : Orc := fun R f args K => bif Nat.beq f 47 then callF mi47 mo47 (F47 k) args K else O41 k R f args K
theorem ok_O47 (k : Nat) : OrcOK (O47 k) (CallOK Try.prog) := orc_add (fn47 k) (ok_O41 k)

/-! 43: paydesk/paydeskref01.Check -/
noncomputable def c43 : Code := Try.f43.body.getD .skip
noncomputable def mi43 : Msk := ⟨[(.tmp 0, .val .str)], []⟩
noncomputable def mo43 : Msk := ⟨[(.tmp 2, .val .str), (.tmp 3, .val (.int .i64))], []⟩
noncomputable def L43_4 (k : Nat) : LOrc := fun _ _ _ _ => none
noncomputable def b43_4 : Code := (findLoop 4 c43).getD .skip
noncomputable def m43_4 : Msk := ⟨[(.tmp 0, .val .str), (.tmp 4, .val (.int .u8))], []⟩
noncomputable def x43_4 : List (X × Msk) := [(.exit 0, ⟨[], []⟩), (.ret, ⟨[(.tmp 2, .val .str), (.tmp 3, .val (.int .i64))], []⟩)]
noncomputable def F43_4 (k : Nat) : Nat → m43_4.den → Option (denE x43_4)
  | 0, _ => none
  | j + 1, v => round TI (O47 k) (L43_4 k) b43_4 m43_4 x43_4 (F43_4 k j) v
theorem lk43_4_ (k : Nat) : LinksOK Try.prog 21 (L43_4 k) b43_4 := (And.intro (And.intro True.intro (And.intro True.intro True.intro)) (And.intro (And.intro True.intro (And.intro (And.intro True.intro True.intro) True.intro)) True.intro))
noncomputable def L43 (k : Nat) : LOrc := fun R lk s K => match lk with
  | .loop r => bif Nat.beq r 4 then link m43_4 x43_4 (F43_4 k k) s K else none
  | .label l => none
theorem lk_L43_4 (k : Nat) : LoopOK Try.prog 21 (L43 k) b43_4 := loopOK_of hm hT (ok_O47 k) (fun _ _ _ h => h) rfl (lk43_4_ k) rfl rfl (F := F43_4 k) (fun _ => rfl) (fun _ _ => rfl) (n := k) fun _ _ _ => rfl
noncomputable def F43 (k : Nat) (v : mi43.den) : Option mo43.den := runF TI (O47 k) (L43 k) c43 mi43 mo43 v
theorem lk43 (k : Nat) : LinksOK Try.prog 21 (L43 k) c43 := (And.intro True.intro (And.intro (And.intro True.intro (And.intro (And.intro True.intro True.intro) True.intro)) (And.intro (And.intro True.intro (lk_L43_4 k)) (And.intro True.intro True.intro))))
theorem fn43 (k : Nat) (args : List AV) (x : mi43.den) (r : mo43.den) (h1 : args.length = mi43.items.length) (h2 : mi43.dec (Th.start args) = some x) (h3 : F43 k x = some r) : CallOK Try.prog 43 args (ansOf (outL mo43.items r)) :=
  call_of hm hT (ok_O47 k) (fn := Try.f43) (c := c43) rfl rfl rfl rfl (lk43 k) rfl (by decide) rfl h1 h2 h3
noncomputable def O43 (k : Nat) : Orc := fun R f args K => bif Nat.beq f 43 then callF mi43 mo43 (F43 k) args K else O47 k R f args K
theorem ok_O43 (k : Nat) : OrcOK (O43 k) (CallOK Try.prog) := orc_add (fn43 k) (ok_O47 k)

/-! 7: paydesk/paydesklaw01.DigitRight -/
noncomputable def c7 : Code := Try.f7.body.getD .skip
noncomputable def mi7 : Msk := ⟨[(.tmp 0, .val .str), (.tmp 1, .val (.int .u64)), (.tmp 2, .val (.int .i64))], []⟩
noncomputable def mo7 : Msk := ⟨[(.tmp 6, .val .bool)], []⟩
noncomputable def L7 (k : Nat) : LOrc := fun _ _ _ _ => none
noncomputable def F7 (k : Nat) (v : mi7.den) : Option mo7.den := runF TI (O43 k) (L7 k) c7 mi7 mo7 v
theorem lk7 (k : Nat) : LinksOK Try.prog 98 (L7 k) c7 := (And.intro True.intro (And.intro (And.intro True.intro (And.intro (And.intro True.intro True.intro) True.intro)) (And.intro (And.intro True.intro (And.intro (And.intro True.intro True.intro) True.intro)) (And.intro True.intro (And.intro True.intro (And.intro True.intro (And.intro True.intro (And.intro True.intro (And.intro True.intro (And.intro True.intro True.intro))))))))))
theorem fn7 (k : Nat) (args : List AV) (x : mi7.den) (r : mo7.den) (h1 : args.length = mi7.items.length) (h2 : mi7.dec (Th.start args) = some x) (h3 : F7 k x = some r) : CallOK Try.prog 7 args (ansOf (outL mo7.items r)) :=
  call_of hm hT (ok_O43 k) (fn := Try.f7) (c := c7) rfl rfl rfl rfl (lk7 k) rfl (by decide) rfl h1 h2 h3
noncomputable def O7 (k : Nat) : Orc := fun R f args K => bif Nat.beq f 7 then callF mi7 mo7 (F7 k) args K else O43 k R f args K
theorem ok_O7 (k : Nat) : OrcOK (O7 k) (CallOK Try.prog) := orc_add (fn7 k) (ok_O43 k)

/-! 8: paydesk/paydesklaw01.DigitBack -/
noncomputable def c8 : Code := Try.f8.body.getD .skip
noncomputable def mi8 : Msk := ⟨[(.tmp 0, .val (.int .u64)), (.tmp 1, .val (.int .u64)), (.tmp 2, .val (.int .u8)), (.tmp 3, .val .str)], []⟩
noncomputable def mo8 : Msk := ⟨[(.tmp 8, .val .bool)], []⟩
noncomputable def L8 (k : Nat) : LOrc := fun _ _ _ _ => none
noncomputable def F8 (k : Nat) (v : mi8.den) : Option mo8.den := runF TI (O7 k) (L8 k) c8 mi8 mo8 v
theorem lk8 (k : Nat) : LinksOK Try.prog 99 (L8 k) c8 := (And.intro True.intro (And.intro (And.intro True.intro (And.intro (And.intro True.intro True.intro) True.intro)) (And.intro True.intro (And.intro True.intro (And.intro True.intro (And.intro (And.intro True.intro (And.intro (And.intro True.intro (And.intro True.intro (And.intro (And.intro True.intro True.intro) True.intro))) True.intro)) (And.intro True.intro (And.intro (And.intro True.intro (And.intro (And.intro True.intro True.intro) True.intro)) (And.intro True.intro (And.intro True.intro True.intro))))))))))
theorem fn8 (k : Nat) (args : List AV) (x : mi8.den) (r : mo8.den) (h1 : args.length = mi8.items.length) (h2 : mi8.dec (Th.start args) = some x) (h3 : F8 k x = some r) : CallOK Try.prog 8 args (ansOf (outL mo8.items r)) :=
  call_of hm hT (ok_O7 k) (fn := Try.f8) (c := c8) rfl rfl rfl rfl (lk8 k) rfl (by decide) rfl h1 h2 h3
noncomputable def O8 (k : Nat) : Orc := fun R f args K => bif Nat.beq f 8 then callF mi8 mo8 (F8 k) args K else O7 k R f args K
theorem ok_O8 (k : Nat) : OrcOK (O8 k) (CallOK Try.prog) := orc_add (fn8 k) (ok_O7 k)

/-! 9: paydesk/paydesklaw01.DigitFine -/
noncomputable def c9 : Code := Try.f9.body.getD .skip
noncomputable def mi9 : Msk := ⟨[(.tmp 0, .val .str), (.tmp 1, .val (.int .u16)), (.tmp 2, .val (.int .u8))], []⟩
noncomputable def mo9 : Msk := ⟨[(.tmp 6, .val .bool)], []⟩
noncomputable def L9 (k : Nat) : LOrc := fun _ _ _ _ => none
noncomputable def F9 (k : Nat) (v : mi9.den) : Option mo9.den := runF TI (O8 k) (L9 k) c9 mi9 mo9 v
theorem lk9 (k : Nat) : LinksOK Try.prog 86 (L9 k) c9 := (And.intro True.intro (And.intro (And.intro True.intro (And.intro (And.intro True.intro True.intro) True.intro)) (And.intro (And.intro True.intro (And.intro (And.intro True.intro True.intro) True.intro)) (And.intro True.intro (And.intro (And.intro True.intro (And.intro (And.intro True.intro True.intro) True.intro)) (And.intro (And.intro True.intro (And.intro (And.intro True.intro True.intro) True.intro)) (And.intro True.intro (And.intro True.intro (And.intro True.intro (And.intro True.intro (And.intro True.intro (And.intro True.intro True.intro))))))))))))
theorem fn9 (k : Nat) (args : List AV) (x : mi9.den) (r : mo9.den) (h1 : args.length = mi9.items.length) (h2 : mi9.dec (Th.start args) = some x) (h3 : F9 k x = some r) : CallOK Try.prog 9 args (ansOf (outL mo9.items r)) :=
  call_of hm hT (ok_O8 k) (fn := Try.f9) (c := c9) rfl rfl rfl rfl (lk9 k) rfl (by decide) rfl h1 h2 h3
noncomputable def O9 (k : Nat) : Orc := fun R f args K => bif Nat.beq f 9 then callF mi9 mo9 (F9 k) args K else O8 k R f args K
theorem ok_O9 (k : Nat) : OrcOK (O9 k) (CallOK Try.prog) := orc_add (fn9 k) (ok_O8 k)

end Go.Proofs.Ythglkecbfakmpaa.G
