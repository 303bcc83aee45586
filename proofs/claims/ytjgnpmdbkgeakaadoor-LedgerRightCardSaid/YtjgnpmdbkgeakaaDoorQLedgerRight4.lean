/- The statement LedgerRight, out of what its function answers. No condition. -/
import Derived.Test.YtjgnpmdbkgeakaaDoorQLedgerRight3
import Derived.Test.YtjgnpmdbkgeakaaDoorRows
import Derived.JoinedOf
import Derived.LaidMore
import Derived.FnData
import Derived.ChangeBears2
import Derived.Stop.Joined
import Derived.Carry
import Derived.Test.YtjgnpmdbkgeakaaDoorCards
import Derived.Test.YtjgnpmdbkgeakaaDoorTie
import Derived.SevenTiedAt
section
set_option linter.unusedVariables false
set_option linter.unusedSimpArgs false
namespace Go.Proofs.YtjgnpmdbkgeakaaDoor.G
open Go Go.Proofs.YtjgnpmdbkgeakaaDoor.Th
def til3 : List (Nat × TInfo) := [
  (3, ⟨.int .i64, 1, 8, (.int .i64), [.int .i64 0], [], [], true, false, [], []⟩),
  (4, ⟨.bool, 1, 1, .bool, [.bool false], [], [], true, false, [], []⟩),
  (5, ⟨.int .u8, 1, 1, (.int .u8), [.int .u8 0], [], [], true, false, [], []⟩),
  (9, ⟨.str, 1, 16, .str, [.str []], [], [], true, false, [], [(229, 8)]⟩),
  (22, ⟨.int .u64, 1, 8, (.int .u64), [.int .u64 0], [], [], true, false, [], []⟩),
  (23, ⟨.int .u32, 1, 4, (.int .u32), [.int .u32 0], [], [], true, false, [], []⟩),
  (25, ⟨.struct, 6, 72, (.st (.cons (.int .i64) (.cons .str (.cons (.int .u64) (.cons (.int .u32) (.cons .str (.cons .str .nil))))))), [.int .i64 0, .str [], .int .u64 0, .int .u32 0, .str [], .str []], [(0, 3), (1, 9), (2, 22), (3, 23), (4, 9), (5, 9)], [1, 1, 1, 1, 1, 1], true, true, [], []⟩),
  (27, ⟨.struct, 2, 24, (.st (.cons (.int .u32) (.cons .str .nil))), [.int .u32 0, .str []], [(0, 23), (1, 9)], [1, 1], true, true, [], []⟩),
  (37, ⟨.slice 160, 1, 24, (.slice (.st (.cons (.int .i64) (.cons .str .nil)))), [.nilsl], [], [], true, false, [], []⟩),
  (39, ⟨.struct, 2, 40, (.st (.cons .str (.cons (.slice (.st (.cons (.int .i64) (.cons .str .nil)))) .nil))), [.str [], .nilsl], [(0, 9), (1, 37)], [1, 1], true, false, [], []⟩),
  (41, ⟨.int .i64, 1, 8, (.int .i64), [.int .i64 0], [], [], true, false, [], []⟩),
  (54, ⟨.struct, 8, 88, (.st (.cons (.st (.cons (.int .u32) (.cons .str .nil))) (.cons (.int .i64) (.cons .str (.cons (.int .u64) (.cons .str (.cons (.int .i64) (.cons (.int .i64) .nil)))))))), [.int .u32 0, .str [], .int .i64 0, .str [], .int .u64 0, .str [], .int .i64 0, .int .i64 0], [(0, 27), (2, 3), (3, 9), (4, 22), (5, 9), (6, 3), (7, 3)], [2, 1, 1, 1, 1, 1, 1], true, true, [], []⟩),
  (56, ⟨.struct, 7, 80, (.st (.cons (.int .i64) (.cons (.st (.cons (.int .i64) (.cons .str (.cons (.int .u64) (.cons (.int .u32) (.cons .str (.cons .str .nil))))))) .nil))), [.int .i64 0, .int .i64 0, .str [], .int .u64 0, .int .u32 0, .str [], .str []], [(0, 3), (1, 25)], [1, 6], true, true, [], []⟩),
  (58, ⟨.slice 25, 1, 24, (.slice (.st (.cons (.int .i64) (.cons .str (.cons (.int .u64) (.cons (.int .u32) (.cons .str (.cons .str .nil)))))))), [.nilsl], [], [], true, false, [], []⟩),
  (60, ⟨.struct, 12, 152, (.st (.cons (.st (.cons (.st (.cons (.int .u32) (.cons .str .nil))) (.cons (.int .i64) (.cons .str (.cons (.int .u64) (.cons .str (.cons (.int .i64) (.cons (.int .i64) .nil)))))))) (.cons (.slice (.st (.cons (.int .i64) (.cons .str (.cons (.int .u64) (.cons (.int .u32) (.cons .str (.cons .str .nil)))))))) (.cons (.slice (.st (.cons (.int .i64) (.cons .str (.cons (.int .u64) (.cons (.int .u32) (.cons .str (.cons .str .nil)))))))) (.cons (.int .i64) (.cons .bool .nil)))))), [.int .u32 0, .str [], .int .i64 0, .str [], .int .u64 0, .str [], .int .i64 0, .int .i64 0, .nilsl, .nilsl, .int .i64 0, .bool false], [(0, 54), (8, 58), (9, 58), (10, 3), (11, 4)], [8, 1, 1, 1, 1], true, false, [], []⟩),
  (69, ⟨.slice 56, 1, 24, (.slice (.st (.cons (.int .i64) (.cons (.st (.cons (.int .i64) (.cons .str (.cons (.int .u64) (.cons (.int .u32) (.cons .str (.cons .str .nil))))))) .nil)))), [.nilsl], [], [], true, false, [], []⟩),
  (71, ⟨.slice 54, 1, 24, (.slice (.st (.cons (.st (.cons (.int .u32) (.cons .str .nil))) (.cons (.int .i64) (.cons .str (.cons (.int .u64) (.cons .str (.cons (.int .i64) (.cons (.int .i64) .nil))))))))), [.nilsl], [], [], true, false, [], []⟩),
  (87, ⟨.slice 92, 1, 24, (.slice (.st (.cons (.st (.cons (.int .u32) (.cons .str .nil))) (.cons (.int .u64) (.cons (.int .i64) .nil))))), [.nilsl], [], [], true, false, [], []⟩),
  (89, ⟨.struct, 1, 24, (.st (.cons (.slice (.st (.cons (.st (.cons (.int .u32) (.cons .str .nil))) (.cons (.int .u64) (.cons (.int .i64) .nil))))) .nil)), [.nilsl], [(0, 87)], [1], true, false, [], []⟩),
  (92, ⟨.struct, 4, 40, (.st (.cons (.st (.cons (.int .u32) (.cons .str .nil))) (.cons (.int .u64) (.cons (.int .i64) .nil)))), [.int .u32 0, .str [], .int .u64 0, .int .i64 0], [(0, 27), (2, 22), (3, 3)], [2, 1, 1], true, true, [], []⟩),
  (99, ⟨.struct, 8, 104, (.st (.cons (.st (.cons (.slice (.st (.cons (.st (.cons (.int .u32) (.cons .str .nil))) (.cons (.int .u64) (.cons (.int .i64) .nil))))) .nil)) (.cons (.st (.cons (.int .i64) (.cons .str (.cons (.int .u64) (.cons (.int .u32) (.cons .str (.cons .str .nil))))))) (.cons (.int .i64) .nil)))), [.nilsl, .int .i64 0, .str [], .int .u64 0, .int .u32 0, .str [], .str [], .int .i64 0], [(0, 89), (1, 25), (7, 3)], [1, 6, 1], true, false, [], []⟩),
  (101, ⟨.cpx, 1, 16, .cpx, [.cpx 0 0], [], [], true, false, [], []⟩),
  (102, ⟨.flt, 1, 8, .flt, [.flt 0], [], [], true, false, [], []⟩),
  (107, ⟨.slice 4, 1, 24, (.slice .bool), [.nilsl], [], [], true, false, [], []⟩),
  (110, ⟨.slice 5, 1, 24, (.slice (.int .u8)), [.nilsl], [], [], true, false, [], []⟩),
  (115, ⟨.struct, 2, 32, (.st (.cons (.slice (.int .u8)) (.cons .bool .nil))), [.nilsl, .bool false], [(0, 110), (1, 4)], [1, 1], true, false, [], []⟩),
  (121, ⟨.struct, 5, 88, (.st (.cons (.st (.cons (.slice (.int .u8)) (.cons .bool .nil))) (.cons (.slice (.int .u8)) (.cons (.slice (.int .u8)) (.cons (.int .i64) .nil))))), [.nilsl, .bool false, .nilsl, .nilsl, .int .i64 0], [(0, 115), (2, 110), (3, 110), (4, 3)], [2, 1, 1, 1], true, false, [], []⟩),
  (126, ⟨.slice 110, 1, 24, (.slice (.slice (.int .u8))), [.nilsl], [], [], true, false, [], []⟩),
  (136, ⟨.struct, 2, 32, (.st (.cons (.int .i64) (.cons (.slice (.slice (.int .u8))) .nil))), [.int .i64 0, .nilsl], [(0, 3), (1, 126)], [1, 1], true, false, [], []⟩),
  (160, ⟨.struct, 2, 24, (.st (.cons (.int .i64) (.cons .str .nil))), [.int .i64 0, .str []], [(0, 3), (1, 9)], [1, 1], true, true, [], []⟩),
  (161, ⟨.slice 9, 1, 24, (.slice .str), [.nilsl], [], [], true, false, [], []⟩),
  (169, ⟨.slice 3, 1, 24, (.slice (.int .i64)), [.nilsl], [], [], true, false, [], []⟩),
  (175, ⟨.struct, 20, 240, (.st (.cons (.st (.cons (.st (.cons (.st (.cons (.int .u32) (.cons .str .nil))) (.cons (.int .i64) (.cons .str (.cons (.int .u64) (.cons .str (.cons (.int .i64) (.cons (.int .i64) .nil)))))))) (.cons (.slice (.st (.cons (.int .i64) (.cons .str (.cons (.int .u64) (.cons (.int .u32) (.cons .str (.cons .str .nil)))))))) (.cons (.slice (.st (.cons (.int .i64) (.cons .str (.cons (.int .u64) (.cons (.int .u32) (.cons .str (.cons .str .nil)))))))) (.cons (.int .i64) (.cons .bool .nil)))))) (.cons (.st (.cons (.int .i64) (.cons (.st (.cons (.int .i64) (.cons .str (.cons (.int .u64) (.cons (.int .u32) (.cons .str (.cons .str .nil))))))) .nil))) (.cons (.int .i64) .nil)))), [.int .u32 0, .str [], .int .i64 0, .str [], .int .u64 0, .str [], .int .i64 0, .int .i64 0, .nilsl, .nilsl, .int .i64 0, .bool false, .int .i64 0, .int .i64 0, .str [], .int .u64 0, .int .u32 0, .str [], .str [], .int .i64 0], [(0, 60), (12, 56), (19, 3)], [12, 7, 1], true, false, [], []⟩),
  (196, ⟨.struct, 2, 16, (.st (.cons (.int .u64) (.cons (.int .u64) .nil))), [.int .u64 0, .int .u64 0], [(0, 22), (1, 22)], [1, 1], true, true, [], []⟩),
  (222, ⟨.struct, 3, 24, (.st (.cons (.int .i64) (.cons (.int .i64) (.cons (.int .i64) .nil)))), [.int .i64 0, .int .i64 0, .int .i64 0], [(0, 3), (1, 3), (2, 3)], [1, 1, 1], true, true, [], []⟩),
  (258, ⟨.int .u64, 1, 8, (.int .u64), [.int .u64 0], [], [], true, false, [], []⟩),
  (266, ⟨.slice 222, 1, 24, (.slice (.st (.cons (.int .i64) (.cons (.int .i64) (.cons (.int .i64) .nil))))), [.nilsl], [], [], true, false, [], []⟩),
  (268, ⟨.struct, 2, 16, (.st (.cons (.int .i64) (.cons (.int .i64) .nil))), [.int .i64 0, .int .i64 0], [(0, 3), (1, 3)], [1, 1], true, true, [("paydesk/field.ahead", 245), ("paydesk/field.sized", 246)], []⟩),
  (270, ⟨.struct, 1, 8, (.st (.cons (.int .i64) .nil)), [.int .i64 0], [(0, 3)], [1], true, true, [("paydesk/field.ahead", 247), ("paydesk/field.sized", 248)], []⟩)
]
noncomputable def TI3 : TEnv := tiOf til3
theorem hT3 : TIok Tryd.prog TI3 := TIok.of (by kernel_rfl)
noncomputable def c76 : Code := Tryd.f76.body.getD .skip
noncomputable def mi76 : Msk := ⟨[(.tmp 0, .val (.st (.cons (.slice (.st (.cons (.st (.cons (.int .u32) (.cons .str .nil))) (.cons (.int .u64) (.cons (.int .i64) .nil))))) .nil)))], []⟩
noncomputable def mo76 : Msk := ⟨[(.tmp 2, .val .bool)], []⟩
noncomputable def L76_2 (k : Nat) : LOrc := fun _ _ _ _ => none
noncomputable def b76_2 : Code := (findLoop 2 c76).getD .skip
noncomputable def m76_2 : Msk := ⟨[(.tmp 1, .ptr 1 0), (.tmp 6, .val (.slice (.st (.cons (.st (.cons (.int .u32) (.cons .str .nil))) (.cons (.int .u64) (.cons (.int .i64) .nil)))))), (.tmp 7, .val (.int .i64)), (.tmp 8, .val (.int .i64)), (.cell 1 0, .val (.slice (.st (.cons (.st (.cons (.int .u32) (.cons .str .nil))) (.cons (.int .u64) (.cons (.int .i64) .nil))))))], [(1, 1)]⟩
noncomputable def x76_2 : List (X × Msk) := [(.exit 0, ⟨[(.tmp 1, .ptr 1 0), (.cell 1 0, .val (.slice (.st (.cons (.st (.cons (.int .u32) (.cons .str .nil))) (.cons (.int .u64) (.cons (.int .i64) .nil))))))], [(1, 1)]⟩), (.ret, ⟨[(.tmp 2, .val .bool)], []⟩)]
noncomputable def F76_2 (k : Nat) : Nat → m76_2.den → Option (denE x76_2)
  | 0, _ => none
  | j + 1, v => round TI3 (O9 k) (L76_2 k) b76_2 m76_2 x76_2 (F76_2 k j) v
theorem lk76_2_ (k : Nat) : LinksOK Tryd.prog 54 (L76_2 k) b76_2 := (And.intro True.intro (And.intro (And.intro True.intro True.intro) (And.intro (And.intro True.intro (And.intro True.intro (And.intro (And.intro True.intro True.intro) True.intro))) True.intro)))
noncomputable def L76 (k : Nat) : LOrc := fun R lk s K => match lk with
  | .loop r => bif Nat.beq r 2 then link m76_2 x76_2 (F76_2 k k) s K else none
  | .label l => none
theorem lk_L76_2 (k : Nat) : LoopOK Tryd.prog 54 (L76 k) b76_2 := loopOK_of hm hT3 (ok_O9 k) (fun _ _ _ h => h) rfl (lk76_2_ k) rfl rfl (F := F76_2 k) (fun _ => rfl) (fun _ _ => rfl) (n := k) fun _ _ _ => rfl
noncomputable def F76 (k : Nat) (v : mi76.den) : Option mo76.den := runF TI3 (O9 k) (L76 k) c76 mi76 mo76 v
theorem lk76 (k : Nat) : LinksOK Tryd.prog 54 (L76 k) c76 := (And.intro True.intro (And.intro (And.intro True.intro (lk_L76_2 k)) (And.intro True.intro True.intro)))
theorem fn76 (k : Nat) (args : List AV) (x : mi76.den) (r : mo76.den) (h1 : args.length = mi76.items.length) (h2 : mi76.dec (Th.start args) = some x) (h3 : F76 k x = some r) : CallOK Tryd.prog 76 args (ansOf (outL mo76.items r)) :=
  call_of hm hT3 (ok_O9 k) (fn := Tryd.f76) (c := c76) Tryd.func76 rfl rfl rfl (lk76 k) rfl (by decide) rfl h1 h2 h3
noncomputable def O76 (k : Nat) : Orc := fun R f args K => bif Nat.beq f 76 then callF mi76 mo76 (F76 k) args K else O9 k R f args K
theorem ok_O76 (k : Nat) : OrcOK (O76 k) (CallOK Tryd.prog) := orc_add (fn76 k) (ok_O9 k)
noncomputable def c70 : Code := Tryd.f70.body.getD .skip
noncomputable def mi70 : Msk := ⟨[(.tmp 0, .val (.st (.cons (.slice (.st (.cons (.st (.cons (.int .u32) (.cons .str .nil))) (.cons (.int .u64) (.cons (.int .i64) .nil))))) .nil))), (.tmp 1, .val (.st (.cons (.int .u32) (.cons .str .nil))))], []⟩
noncomputable def mo70 : Msk := ⟨[(.res 4, .val (.st (.cons (.st (.cons (.int .u32) (.cons .str .nil))) (.cons (.int .u64) (.cons (.int .i64) .nil))))), (.tmp 5, .val .bool)], []⟩
noncomputable def L70_2 (k : Nat) : LOrc := fun _ _ _ _ => none
noncomputable def b70_2 : Code := (findLoop 2 c70).getD .skip
noncomputable def m70_2 : Msk := ⟨[(.tmp 3, .ptr 3 0), (.tmp 4, .ptr 4 0), (.tmp 9, .val (.slice (.st (.cons (.st (.cons (.int .u32) (.cons .str .nil))) (.cons (.int .u64) (.cons (.int .i64) .nil)))))), (.tmp 10, .val (.int .i64)), (.tmp 11, .val (.int .i64)), (.cell 3 0, .val (.int .u32)), (.cell 3 1, .val .str), (.cell 4 0, .val (.int .u32)), (.cell 4 1, .val .str), (.cell 4 2, .val (.int .u64)), (.cell 4 3, .val (.int .i64))], [(3, 2), (4, 4)]⟩
noncomputable def x70_2 : List (X × Msk) := [(.exit 0, ⟨[(.tmp 4, .ptr 4 0), (.cell 4 0, .val (.int .u32)), (.cell 4 1, .val .str), (.cell 4 2, .val (.int .u64)), (.cell 4 3, .val (.int .i64))], [(4, 4)]⟩), (.ret, ⟨[(.tmp 4, .ptr 4 0), (.tmp 5, .val .bool), (.cell 4 0, .val (.int .u32)), (.cell 4 1, .val .str), (.cell 4 2, .val (.int .u64)), (.cell 4 3, .val (.int .i64))], [(4, 4)]⟩)]
noncomputable def F70_2 (k : Nat) : Nat → m70_2.den → Option (denE x70_2)
  | 0, _ => none
  | j + 1, v => round TI3 (O76 k) (L70_2 k) b70_2 m70_2 x70_2 (F70_2 k j) v
theorem lk70_2_ (k : Nat) : LinksOK Tryd.prog 22 (L70_2 k) b70_2 := (And.intro True.intro (And.intro (And.intro True.intro True.intro) (And.intro (And.intro True.intro (And.intro True.intro (And.intro (And.intro True.intro True.intro) True.intro))) True.intro)))
noncomputable def L70 (k : Nat) : LOrc := fun R lk s K => match lk with
  | .loop r => bif Nat.beq r 2 then link m70_2 x70_2 (F70_2 k k) s K else none
  | .label l => none
theorem lk_L70_2 (k : Nat) : LoopOK Tryd.prog 22 (L70 k) b70_2 := loopOK_of hm hT3 (ok_O76 k) (fun _ _ _ h => h) rfl (lk70_2_ k) rfl rfl (F := F70_2 k) (fun _ => rfl) (fun _ _ => rfl) (n := k) fun _ _ _ => rfl
noncomputable def F70 (k : Nat) (v : mi70.den) : Option mo70.den := runF TI3 (O76 k) (L70 k) c70 mi70 mo70 v
theorem lk70 (k : Nat) : LinksOK Tryd.prog 22 (L70 k) c70 := (And.intro True.intro (And.intro (And.intro True.intro (lk_L70_2 k)) (And.intro True.intro True.intro)))
theorem fn70 (k : Nat) (args : List AV) (x : mi70.den) (r : mo70.den) (h1 : args.length = mi70.items.length) (h2 : mi70.dec (Th.start args) = some x) (h3 : F70 k x = some r) : CallOK Tryd.prog 70 args (ansOf (outL mo70.items r)) :=
  call_of hm hT3 (ok_O76 k) (fn := Tryd.f70) (c := c70) Tryd.func70 rfl rfl rfl (lk70 k) rfl (by decide) rfl h1 h2 h3
noncomputable def O70 (k : Nat) : Orc := fun R f args K => bif Nat.beq f 70 then callF mi70 mo70 (F70 k) args K else O76 k R f args K
theorem ok_O70 (k : Nat) : OrcOK (O70 k) (CallOK Tryd.prog) := orc_add (fn70 k) (ok_O76 k)
noncomputable def c225 : Code := Tryd.f225.body.getD .skip
noncomputable def mi225 : Msk := ⟨[(.tmp 0, .val (.st (.cons (.st (.cons (.int .u32) (.cons .str .nil))) (.cons (.int .u64) (.cons (.int .i64) .nil))))), (.tmp 1, .val (.st (.cons (.int .u32) (.cons .str .nil))))], []⟩
noncomputable def mo225 : Msk := ⟨[(.tmp 4, .val (.int .i64))], []⟩
noncomputable def L225 (k : Nat) : LOrc := fun _ _ _ _ => none
noncomputable def F225 (k : Nat) (v : mi225.den) : Option mo225.den := runF TI3 (O70 k) (L225 k) c225 mi225 mo225 v
theorem lk225 (k : Nat) : LinksOK Tryd.prog 9 (L225 k) c225 := (And.intro True.intro (And.intro True.intro True.intro))
theorem fn225 (k : Nat) (args : List AV) (x : mi225.den) (r : mo225.den) (h1 : args.length = mi225.items.length) (h2 : mi225.dec (Th.start args) = some x) (h3 : F225 k x = some r) : CallOK Tryd.prog 225 args (ansOf (outL mo225.items r)) :=
  call_of hm hT3 (ok_O70 k) (fn := Tryd.f225) (c := c225) Tryd.func225 rfl rfl rfl (lk225 k) rfl (by decide) rfl h1 h2 h3
noncomputable def O225 (k : Nat) : Orc := fun R f args K => bif Nat.beq f 225 then callF mi225 mo225 (F225 k) args K else O70 k R f args K
theorem ok_O225 (k : Nat) : OrcOK (O225 k) (CallOK Tryd.prog) := orc_add (fn225 k) (ok_O70 k)
noncomputable def c7000002 : Code := Tryd.f224.body.getD .skip
noncomputable def mi7000002 : Msk := ⟨[(.tmp 0, .val (.slice (.st (.cons (.st (.cons (.int .u32) (.cons .str .nil))) (.cons (.int .u64) (.cons (.int .i64) .nil)))))), (.tmp 1, .val (.st (.cons (.int .u32) (.cons .str .nil)))), (.tmp 2, .val (.clo 225 .nil))], []⟩
noncomputable def mo7000002 : Msk := ⟨[(.tmp 6, .val (.int .i64)), (.tmp 7, .val .bool)], []⟩
noncomputable def L7000002_3 (k : Nat) : LOrc := fun _ _ _ _ => none
noncomputable def b7000002_3 : Code := (findLoop 3 c7000002).getD .skip
noncomputable def m7000002_3 : Msk := ⟨[(.tmp 0, .val (.slice (.st (.cons (.st (.cons (.int .u32) (.cons .str .nil))) (.cons (.int .u64) (.cons (.int .i64) .nil)))))), (.tmp 2, .val (.clo 225 .nil)), (.tmp 4, .ptr 4 0), (.tmp 8, .val (.int .i64)), (.tmp 9, .val (.int .i64)), (.tmp 10, .val (.int .i64)), (.cell 4 0, .val (.int .u32)), (.cell 4 1, .val .str)], [(4, 2)]⟩
noncomputable def x7000002_3 : List (X × Msk) := [(.exit 0, ⟨[(.tmp 0, .val (.slice (.st (.cons (.st (.cons (.int .u32) (.cons .str .nil))) (.cons (.int .u64) (.cons (.int .i64) .nil)))))), (.tmp 2, .val (.clo 225 .nil)), (.tmp 4, .ptr 4 0), (.tmp 8, .val (.int .i64)), (.tmp 9, .val (.int .i64)), (.cell 4 0, .val (.int .u32)), (.cell 4 1, .val .str)], [(4, 2)]⟩)]
noncomputable def F7000002_3 (k : Nat) : Nat → m7000002_3.den → Option (denE x7000002_3)
  | 0, _ => none
  | j + 1, v => round TI3 (O225 k) (L7000002_3 k) b7000002_3 m7000002_3 x7000002_3 (F7000002_3 k j) v
theorem lk7000002_3_ (k : Nat) : LinksOK Tryd.prog 49 (L7000002_3 k) b7000002_3 := (And.intro (And.intro True.intro (And.intro True.intro True.intro)) (And.intro True.intro (And.intro True.intro (And.intro True.intro True.intro))))
noncomputable def L7000002 (k : Nat) : LOrc := fun R lk s K => match lk with
  | .loop r => bif Nat.beq r 3 then link m7000002_3 x7000002_3 (F7000002_3 k k) s K else none
  | .label l => none
theorem lk_L7000002_3 (k : Nat) : LoopOK Tryd.prog 49 (L7000002 k) b7000002_3 := loopOK_of hm hT3 (ok_O225 k) (fun _ _ _ h => h) rfl (lk7000002_3_ k) rfl rfl (F := F7000002_3 k) (fun _ => rfl) (fun _ _ => rfl) (n := k) fun _ _ _ => rfl
noncomputable def F7000002 (k : Nat) (v : mi7000002.den) : Option mo7000002.den := runF TI3 (O225 k) (L7000002 k) c7000002 mi7000002 mo7000002 v
theorem lk7000002 (k : Nat) : LinksOK Tryd.prog 49 (L7000002 k) c7000002 := (And.intro True.intro (And.intro True.intro (And.intro True.intro (And.intro (lk_L7000002_3 k) (And.intro True.intro True.intro)))))
theorem fn7000002 (k : Nat) (args : List AV) (x : mi7000002.den) (r : mo7000002.den) (h1 : args.length = mi7000002.items.length) (h2 : mi7000002.dec (Th.start args) = some x) (h3 : F7000002 k x = some r) : CallOK Tryd.prog 224 args (ansOf (outL mo7000002.items r)) :=
  call_of hm hT3 (ok_O225 k) (fn := Tryd.f224) (c := c7000002) Tryd.func224 rfl rfl rfl (lk7000002 k) rfl (by decide) rfl h1 h2 h3
noncomputable def O7000002 (k : Nat) : Orc := fun R f args K => bif (bif Nat.beq f 224 then isClo 2 225 args else false) then callF mi7000002 mo7000002 (F7000002 k) args K else O225 k R f args K
theorem ok_O7000002 (k : Nat) : OrcOK (O7000002 k) (CallOK Tryd.prog) := orc_addP (fn7000002 k) (ok_O225 k)
noncomputable def c209 : Code := Tryd.f209.body.getD .skip
noncomputable def mi209 : Msk := ⟨[(.tmp 0, .val (.st (.cons (.slice (.st (.cons (.st (.cons (.int .u32) (.cons .str .nil))) (.cons (.int .u64) (.cons (.int .i64) .nil))))) .nil))), (.tmp 1, .val (.st (.cons (.int .u32) (.cons .str .nil))))], []⟩
noncomputable def mo209 : Msk := ⟨[(.tmp 4, .val (.int .i64)), (.tmp 5, .val .bool)], []⟩
noncomputable def L209 (k : Nat) : LOrc := fun _ _ _ _ => none
noncomputable def F209 (k : Nat) (v : mi209.den) : Option mo209.den := runF TI3 (O7000002 k) (L209 k) c209 mi209 mo209 v
theorem lk209 (k : Nat) : LinksOK Tryd.prog 12 (L209 k) c209 := (And.intro True.intro (And.intro True.intro True.intro))
theorem fn209 (k : Nat) (args : List AV) (x : mi209.den) (r : mo209.den) (h1 : args.length = mi209.items.length) (h2 : mi209.dec (Th.start args) = some x) (h3 : F209 k x = some r) : CallOK Tryd.prog 209 args (ansOf (outL mo209.items r)) :=
  call_of hm hT3 (ok_O7000002 k) (fn := Tryd.f209) (c := c209) Tryd.func209 rfl rfl rfl (lk209 k) rfl (by decide) rfl h1 h2 h3
noncomputable def O209 (k : Nat) : Orc := fun R f args K => bif Nat.beq f 209 then callF mi209 mo209 (F209 k) args K else O7000002 k R f args K
theorem ok_O209 (k : Nat) : OrcOK (O209 k) (CallOK Tryd.prog) := orc_add (fn209 k) (ok_O7000002 k)
noncomputable def c210 : Code := Tryd.f210.body.getD .skip
noncomputable def mo210 : Msk := ⟨[(.tmp 2, .row false (.st (.cons (.st (.cons (.int .u32) (.cons .str .nil))) (.cons (.int .u64) (.cons (.int .i64) .nil)))))], []⟩
noncomputable def L210 : LOrc := fun _ _ _ _ => none
noncomputable def F210 (k : Nat) (l : List (Ty.den (.st (.cons (.st (.cons (.int .u32) (.cons .str .nil))) (.cons (.int .u64) (.cons (.int .i64) .nil)))))) : Option mo210.den := run TI3 (O209 k) L210 c210 (Th.start [.nsl (.st (.cons (.st (.cons (.int .u32) (.cons .str .nil))) (.cons (.int .u64) (.cons (.int .i64) .nil)))) l]) (endF mo210)
theorem fn210 (k : Nat) (l : List (Ty.den (.st (.cons (.st (.cons (.int .u32) (.cons .str .nil))) (.cons (.int .u64) (.cons (.int .i64) .nil)))))) (r : mo210.den) (h : F210 k l = some r) : CallOK Tryd.prog 210 [.sl (.st (.cons (.st (.cons (.int .u32) (.cons .str .nil))) (.cons (.int .u64) (.cons (.int .i64) .nil)))) l] (ansOf (outL mo210.items r)) :=
  call_nil hm hT3 (ok_O209 k) (fn := Tryd.f210) (c := c210) Tryd.func210 rfl rfl rfl ((And.intro True.intro (And.intro (And.intro True.intro (And.intro (And.intro True.intro True.intro) True.intro)) (And.intro True.intro True.intro))) : LinksOK Tryd.prog 8 L210 c210) (by decide) rfl (fun e => by subst e; exact h) h
noncomputable def O210 (k : Nat) : Orc := fun R f args K => bif Nat.beq f 210 then callN (.st (.cons (.st (.cons (.int .u32) (.cons .str .nil))) (.cons (.int .u64) (.cons (.int .i64) .nil)))) mo210 (F210 k) args K else O209 k R f args K
theorem ok_O210 (k : Nat) : OrcOK (O210 k) (CallOK Tryd.prog) := orc_addN (fn210 k) (ok_O209 k)
noncomputable def F211 (k : Nat) (v : List (Ty.den (.st (.cons (.st (.cons (.int .u32) (.cons .str .nil))) (.cons (.int .u64) (.cons (.int .i64) .nil))))) × Int × List (Ty.den (.st (.cons (.st (.cons (.int .u32) (.cons .str .nil))) (.cons (.int .u64) (.cons (.int .i64) .nil))))) × Unit) : Option (List (Ty.den (.st (.cons (.st (.cons (.int .u32) (.cons .str .nil))) (.cons (.int .u64) (.cons (.int .i64) .nil))))) × Unit) := sel (decide (0 ≤ v.2.1)) (sel (decide (v.2.1 ≤ Int.ofNat v.1.length)) (sel (decide (v.1.length ≤ 1000000)) (sel (decide (v.2.2.1.length = 1)) (some (v.1.take v.2.1.toNat ++ v.2.2.1 ++ v.1.drop v.2.1.toNat, ())) none) none) none) none
noncomputable def O211 (k : Nat) : Orc := fun R f args K => bif Nat.beq f 211 then (match args with | [.own T' l, .int .i64 i, .sl T'' q] => (match T'.dec (.st (.cons (.st (.cons (.int .u32) (.cons .str .nil))) (.cons (.int .u64) (.cons (.int .i64) .nil)))) with | some h => (match T''.dec (.st (.cons (.st (.cons (.int .u32) (.cons .str .nil))) (.cons (.int .u64) (.cons (.int .i64) .nil)))) with | some h2 => ocall (F211 k (h.down ▸ l, i, h2.down ▸ q, ())) fun r => K (.back (.own (.st (.cons (.st (.cons (.int .u32) (.cons .str .nil))) (.cons (.int .u64) (.cons (.int .i64) .nil)))) r.1) [.lent []]) | none => none) | none => none) | _ => none) else O210 k R f args K
theorem ok_O211 (k : Nat) : OrcOK (O211 k) (CallOK Tryd.prog) := by
  intro R f args K r h
  unfold O211 at h
  cases hb : Nat.beq f 211 with
  | false => rw [hb] at h; exact ok_O210 k R f args K r h
  | true =>
    rw [hb] at h
    rw [Nat.eq_of_beq_eq_true hb]
    simp only [cond_true] at h
    split at h
    · rename_i T' l i T'' q
      cases hd : T'.dec (.st (.cons (.st (.cons (.int .u32) (.cons .str .nil))) (.cons (.int .u64) (.cons (.int .i64) .nil)))) with
      | none => rw [hd] at h; cases h
      | some hh =>
        obtain ⟨rfl⟩ := hh
        rw [hd] at h
        simp only [] at h
        cases hd2 : T''.dec (.st (.cons (.st (.cons (.int .u32) (.cons .str .nil))) (.cons (.int .u64) (.cons (.int .i64) .nil)))) with
        | none => rw [hd2] at h; cases h
        | some hh2 =>
        obtain ⟨rfl⟩ := hh2
        rw [hd2] at h
        obtain ⟨y, hy, h⟩ := obind_some h
        unfold F211 at hy
        by_cases c1 : 0 ≤ i
        · rw [sel_pos c1] at hy
          by_cases c2 : i ≤ Int.ofNat (l : List (Ty.den (.st (.cons (.st (.cons (.int .u32) (.cons .str .nil))) (.cons (.int .u64) (.cons (.int .i64) .nil)))))).length
          · rw [sel_pos c2] at hy
            by_cases c3 : (l : List (Ty.den (.st (.cons (.st (.cons (.int .u32) (.cons .str .nil))) (.cons (.int .u64) (.cons (.int .i64) .nil)))))).length ≤ 1000000
            · rw [sel_pos c3] at hy
              by_cases c4 : (q : List (Ty.den (.st (.cons (.st (.cons (.int .u32) (.cons .str .nil))) (.cons (.int .u64) (.cons (.int .i64) .nil)))))).length = 1
              · rw [sel_pos c4] at hy
                cases hy
                obtain ⟨x, rfl⟩ : ∃ x, q = [x] := List.length_eq_one_iff.1 c4
                obtain ⟨ti, d, z, E⟩ := hT3.get (t := 92) (i := ⟨.struct, 4, 40, (.st (.cons (.st (.cons (.int .u32) (.cons .str .nil))) (.cons (.int .u64) (.cons (.int .i64) .nil)))), [.int .u32 0, .str [], .int .u64 0, .int .i64 0], [(0, 27), (2, 22), (3, 3)], [2, 1, 1], true, true, [], []⟩) rfl
                exact ⟨_, Ins211.calls E rfl (fun e => by cases e) (by decide) (by decide) l i x c1 c2 c3, h⟩
              · rw [sel_neg c4] at hy; cases hy
            · rw [sel_neg c3] at hy; cases hy
          · rw [sel_neg c2] at hy; cases hy
        · rw [sel_neg c1] at hy; cases hy
    · cases h
noncomputable def c188 : Code := Tryd.f188.body.getD .skip
noncomputable def mi188 : Msk := ⟨[(.tmp 0, .val (.st (.cons (.slice (.st (.cons (.st (.cons (.int .u32) (.cons .str .nil))) (.cons (.int .u64) (.cons (.int .i64) .nil))))) .nil))), (.tmp 1, .val (.st (.cons (.st (.cons (.int .u32) (.cons .str .nil))) (.cons (.int .u64) (.cons (.int .i64) .nil)))))], []⟩
noncomputable def mo188 : Msk := ⟨[(.res 4, .val (.st (.cons (.slice (.st (.cons (.st (.cons (.int .u32) (.cons .str .nil))) (.cons (.int .u64) (.cons (.int .i64) .nil))))) .nil))), (.tmp 5, .val .bool)], []⟩
noncomputable def L188 (k : Nat) : LOrc := fun _ _ _ _ => none
noncomputable def F188 (k : Nat) (v : mi188.den) : Option mo188.den := runF TI3 (O211 k) (L188 k) c188 mi188 mo188 v
theorem lk188 (k : Nat) : LinksOK Tryd.prog 41 (L188 k) c188 := (And.intro True.intro (And.intro True.intro (And.intro (And.intro True.intro (And.intro (And.intro True.intro True.intro) (And.intro True.intro (And.intro (And.intro True.intro True.intro) True.intro)))) (And.intro True.intro True.intro))))
theorem fn188 (k : Nat) (args : List AV) (x : mi188.den) (r : mo188.den) (h1 : args.length = mi188.items.length) (h2 : mi188.dec (Th.start args) = some x) (h3 : F188 k x = some r) : CallOK Tryd.prog 188 args (ansOf (outL mo188.items r)) :=
  call_of hm hT3 (ok_O211 k) (fn := Tryd.f188) (c := c188) Tryd.func188 rfl rfl rfl (lk188 k) rfl (by decide) rfl h1 h2 h3
noncomputable def O188 (k : Nat) : Orc := fun R f args K => bif Nat.beq f 188 then callF mi188 mo188 (F188 k) args K else O211 k R f args K
theorem ok_O188 (k : Nat) : OrcOK (O188 k) (CallOK Tryd.prog) := orc_add (fn188 k) (ok_O211 k)
noncomputable def c136 : Code := Tryd.f136.body.getD .skip
noncomputable def mi136 : Msk := ⟨[(.tmp 0, .val (.st (.cons (.slice (.st (.cons (.st (.cons (.int .u32) (.cons .str .nil))) (.cons (.int .u64) (.cons (.int .i64) .nil))))) .nil))), (.tmp 1, .val (.st (.cons (.int .i64) (.cons .str (.cons (.int .u64) (.cons (.int .u32) (.cons .str (.cons .str .nil)))))))), (.tmp 2, .val .bool)], []⟩
noncomputable def mo136 : Msk := ⟨[(.res 6, .val (.st (.cons (.slice (.st (.cons (.st (.cons (.int .u32) (.cons .str .nil))) (.cons (.int .u64) (.cons (.int .i64) .nil))))) .nil))), (.tmp 7, .val .str)], []⟩
noncomputable def L136 (k : Nat) : LOrc := fun _ _ _ _ => none
noncomputable def F136 (k : Nat) (v : mi136.den) : Option mo136.den := runF TI3 (O188 k) (L136 k) c136 mi136 mo136 v
theorem lk136 (k : Nat) : LinksOK Tryd.prog 59 (L136 k) c136 := (And.intro True.intro (And.intro True.intro (And.intro (And.intro True.intro (And.intro (And.intro True.intro True.intro) (And.intro True.intro (And.intro (And.intro True.intro True.intro) (And.intro True.intro (And.intro (And.intro True.intro True.intro) True.intro)))))) (And.intro True.intro (And.intro True.intro (And.intro (And.intro True.intro (And.intro True.intro True.intro)) (And.intro True.intro (And.intro (And.intro True.intro (And.intro (And.intro True.intro True.intro) True.intro)) (And.intro True.intro True.intro)))))))))
theorem fn136 (k : Nat) (args : List AV) (x : mi136.den) (r : mo136.den) (h1 : args.length = mi136.items.length) (h2 : mi136.dec (Th.start args) = some x) (h3 : F136 k x = some r) : CallOK Tryd.prog 136 args (ansOf (outL mo136.items r)) :=
  call_of hm hT3 (ok_O188 k) (fn := Tryd.f136) (c := c136) Tryd.func136 rfl rfl rfl (lk136 k) rfl (by decide) rfl h1 h2 h3
noncomputable def O136 (k : Nat) : Orc := fun R f args K => bif Nat.beq f 136 then callF mi136 mo136 (F136 k) args K else O188 k R f args K
theorem ok_O136 (k : Nat) : OrcOK (O136 k) (CallOK Tryd.prog) := orc_add (fn136 k) (ok_O188 k)
noncomputable def c137 : Code := Tryd.f137.body.getD .skip
noncomputable def mi137 : Msk := ⟨[(.tmp 0, .val (.st (.cons (.slice (.st (.cons (.st (.cons (.int .u32) (.cons .str .nil))) (.cons (.int .u64) (.cons (.int .i64) .nil))))) .nil))), (.tmp 1, .val (.st (.cons (.int .i64) (.cons .str (.cons (.int .u64) (.cons (.int .u32) (.cons .str (.cons .str .nil))))))))], []⟩
noncomputable def mo137 : Msk := ⟨[(.res 4, .val (.st (.cons (.slice (.st (.cons (.st (.cons (.int .u32) (.cons .str .nil))) (.cons (.int .u64) (.cons (.int .i64) .nil))))) .nil))), (.tmp 5, .val .str)], []⟩
noncomputable def L137 (k : Nat) : LOrc := fun _ _ _ _ => none
noncomputable def F137 (k : Nat) (v : mi137.den) : Option mo137.den := runF TI3 (O136 k) (L137 k) c137 mi137 mo137 v
theorem lk137 (k : Nat) : LinksOK Tryd.prog 35 (L137 k) c137 := (And.intro True.intro (And.intro True.intro (And.intro (And.intro True.intro (And.intro True.intro True.intro)) (And.intro True.intro (And.intro True.intro (And.intro (And.intro True.intro (And.intro (And.intro True.intro True.intro) True.intro)) (And.intro True.intro True.intro)))))))
theorem fn137 (k : Nat) (args : List AV) (x : mi137.den) (r : mo137.den) (h1 : args.length = mi137.items.length) (h2 : mi137.dec (Th.start args) = some x) (h3 : F137 k x = some r) : CallOK Tryd.prog 137 args (ansOf (outL mo137.items r)) :=
  call_of hm hT3 (ok_O136 k) (fn := Tryd.f137) (c := c137) Tryd.func137 rfl rfl rfl (lk137 k) rfl (by decide) rfl h1 h2 h3
noncomputable def O137 (k : Nat) : Orc := fun R f args K => bif Nat.beq f 137 then callF mi137 mo137 (F137 k) args K else O136 k R f args K
theorem ok_O137 (k : Nat) : OrcOK (O137 k) (CallOK Tryd.prog) := orc_add (fn137 k) (ok_O136 k)
noncomputable def c72 : Code := Tryd.f72.body.getD .skip
noncomputable def mi72 : Msk := ⟨[(.tmp 0, .val (.st (.cons (.slice (.st (.cons (.st (.cons (.int .u32) (.cons .str .nil))) (.cons (.int .u64) (.cons (.int .i64) .nil))))) .nil))), (.tmp 1, .val (.st (.cons (.int .i64) (.cons .str (.cons (.int .u64) (.cons (.int .u32) (.cons .str (.cons .str .nil)))))))), (.tmp 2, .val .bool)], []⟩
noncomputable def mo72 : Msk := ⟨[(.res 6, .val (.st (.cons (.slice (.st (.cons (.st (.cons (.int .u32) (.cons .str .nil))) (.cons (.int .u64) (.cons (.int .i64) .nil))))) .nil))), (.res 7, .val (.st (.cons (.int .i64) (.cons .str (.cons (.int .u64) (.cons (.int .u32) (.cons .str (.cons .str .nil)))))))), (.tmp 8, .val (.int .i64))], []⟩
noncomputable def L72 (k : Nat) : LOrc := fun _ _ _ _ => none
noncomputable def F72 (k : Nat) (v : mi72.den) : Option mo72.den := runF TI3 (O137 k) (L72 k) c72 mi72 mo72 v
theorem lk72 (k : Nat) : LinksOK Tryd.prog 52 (L72 k) c72 := (And.intro True.intro (And.intro (And.intro True.intro (And.intro (And.intro True.intro True.intro) True.intro)) (And.intro True.intro (And.intro (And.intro True.intro (And.intro True.intro (And.intro (And.intro True.intro True.intro) (And.intro (And.intro True.intro (And.intro True.intro True.intro)) (And.intro True.intro (And.intro True.intro True.intro)))))) (And.intro True.intro True.intro)))))
theorem fn72 (k : Nat) (args : List AV) (x : mi72.den) (r : mo72.den) (h1 : args.length = mi72.items.length) (h2 : mi72.dec (Th.start args) = some x) (h3 : F72 k x = some r) : CallOK Tryd.prog 72 args (ansOf (outL mo72.items r)) :=
  call_of hm hT3 (ok_O137 k) (fn := Tryd.f72) (c := c72) Tryd.func72 rfl rfl rfl (lk72 k) rfl (by decide) rfl h1 h2 h3
noncomputable def O72 (k : Nat) : Orc := fun R f args K => bif Nat.beq f 72 then callF mi72 mo72 (F72 k) args K else O137 k R f args K
theorem ok_O72 (k : Nat) : OrcOK (O72 k) (CallOK Tryd.prog) := orc_add (fn72 k) (ok_O137 k)
noncomputable def c78 : Code := Tryd.f78.body.getD .skip
noncomputable def mi78 : Msk := ⟨[(.tmp 0, .val (.st (.cons (.slice (.st (.cons (.st (.cons (.int .u32) (.cons .str .nil))) (.cons (.int .u64) (.cons (.int .i64) .nil))))) .nil)))], []⟩
noncomputable def mo78 : Msk := ⟨[(.tmp 2, .val .cpx)], []⟩
noncomputable def L78_5 (k : Nat) : LOrc := fun _ _ _ _ => none
noncomputable def b78_5 : Code := (findLoop 5 c78).getD .skip
noncomputable def m78_5 : Msk := ⟨[(.tmp 3, .val .cpx), (.tmp 12, .val (.slice (.st (.cons (.st (.cons (.int .u32) (.cons .str .nil))) (.cons (.int .u64) (.cons (.int .i64) .nil)))))), (.tmp 13, .val (.int .i64)), (.tmp 14, .val (.int .i64))], []⟩
noncomputable def x78_5 : List (X × Msk) := [(.exit 0, ⟨[(.tmp 3, .val .cpx)], []⟩)]
noncomputable def F78_5 (k : Nat) : Nat → m78_5.den → Option (denE x78_5)
  | 0, _ => none
  | j + 1, v => round TI3 (O72 k) (L78_5 k) b78_5 m78_5 x78_5 (F78_5 k j) v
theorem lk78_5_ (k : Nat) : LinksOK Tryd.prog 37 (L78_5 k) b78_5 := (And.intro True.intro (And.intro (And.intro True.intro True.intro) (And.intro (And.intro True.intro (And.intro True.intro (And.intro True.intro (And.intro True.intro (And.intro True.intro (And.intro True.intro (And.intro True.intro True.intro))))))) True.intro)))
noncomputable def L78 (k : Nat) : LOrc := fun R lk s K => match lk with
  | .loop r => bif Nat.beq r 5 then link m78_5 x78_5 (F78_5 k k) s K else none
  | .label l => none
theorem lk_L78_5 (k : Nat) : LoopOK Tryd.prog 37 (L78 k) b78_5 := loopOK_of hm hT3 (ok_O72 k) (fun _ _ _ h => h) rfl (lk78_5_ k) rfl rfl (F := F78_5 k) (fun _ => rfl) (fun _ _ => rfl) (n := k) fun _ _ _ => rfl
noncomputable def F78 (k : Nat) (v : mi78.den) : Option mo78.den := runF TI3 (O72 k) (L78 k) c78 mi78 mo78 v
theorem lk78 (k : Nat) : LinksOK Tryd.prog 37 (L78 k) c78 := (And.intro True.intro (And.intro True.intro (And.intro (And.intro True.intro (And.intro (And.intro True.intro True.intro) True.intro)) (And.intro (And.intro True.intro (lk_L78_5 k)) (And.intro True.intro True.intro)))))
theorem fn78 (k : Nat) (args : List AV) (x : mi78.den) (r : mo78.den) (h1 : args.length = mi78.items.length) (h2 : mi78.dec (Th.start args) = some x) (h3 : F78 k x = some r) : CallOK Tryd.prog 78 args (ansOf (outL mo78.items r)) :=
  call_of hm hT3 (ok_O72 k) (fn := Tryd.f78) (c := c78) Tryd.func78 rfl rfl rfl (lk78 k) rfl (by decide) rfl h1 h2 h3
noncomputable def O78 (k : Nat) : Orc := fun R f args K => bif Nat.beq f 78 then callF mi78 mo78 (F78 k) args K else O72 k R f args K
theorem ok_O78 (k : Nat) : OrcOK (O78 k) (CallOK Tryd.prog) := orc_add (fn78 k) (ok_O72 k)
noncomputable def c68 : Code := Tryd.f68.body.getD .skip
noncomputable def mi68 : Msk := ⟨[], []⟩
noncomputable def mo68 : Msk := ⟨[(.tmp 0, .val .bool)], []⟩
noncomputable def L68 (k : Nat) : LOrc := fun _ _ _ _ => none
noncomputable def F68 (k : Nat) (v : mi68.den) : Option mo68.den := runF TI3 (O78 k) (L68 k) c68 mi68 mo68 v
theorem lk68 (k : Nat) : LinksOK Tryd.prog 107 (L68 k) c68 := (And.intro True.intro (And.intro True.intro (And.intro True.intro (And.intro True.intro (And.intro True.intro (And.intro True.intro (And.intro True.intro (And.intro True.intro (And.intro True.intro True.intro)))))))))
theorem fn68 (k : Nat) (args : List AV) (x : mi68.den) (r : mo68.den) (h1 : args.length = mi68.items.length) (h2 : mi68.dec (Th.start args) = some x) (h3 : F68 k x = some r) : CallOK Tryd.prog 68 args (ansOf (outL mo68.items r)) :=
  call_of hm hT3 (ok_O78 k) (fn := Tryd.f68) (c := c68) Tryd.func68 rfl rfl rfl (lk68 k) rfl (by decide) rfl h1 h2 h3
noncomputable def O68 (k : Nat) : Orc := fun R f args K => bif Nat.beq f 68 then callF mi68 mo68 (F68 k) args K else O78 k R f args K
theorem ok_O68 (k : Nat) : OrcOK (O68 k) (CallOK Tryd.prog) := orc_add (fn68 k) (ok_O78 k)
noncomputable def c69 : Code := Tryd.f69.body.getD .skip
noncomputable def mi69 : Msk := ⟨[(.tmp 0, .val (.st (.cons (.slice (.st (.cons (.st (.cons (.int .u32) (.cons .str .nil))) (.cons (.int .u64) (.cons (.int .i64) .nil))))) .nil)))], []⟩
noncomputable def mo69 : Msk := ⟨[(.tmp 2, .val .bool)], []⟩
noncomputable def L69_2 (k : Nat) : LOrc := fun _ _ _ _ => none
noncomputable def b69_2 : Code := (findLoop 2 c69).getD .skip
noncomputable def m69_2 : Msk := ⟨[(.tmp 1, .ptr 1 0), (.tmp 3, .val (.int .i64)), (.cell 1 0, .val (.slice (.st (.cons (.st (.cons (.int .u32) (.cons .str .nil))) (.cons (.int .u64) (.cons (.int .i64) .nil))))))], [(1, 1)]⟩
noncomputable def x69_2 : List (X × Msk) := [(.exit 0, ⟨[(.tmp 1, .ptr 1 0), (.cell 1 0, .val (.slice (.st (.cons (.st (.cons (.int .u32) (.cons .str .nil))) (.cons (.int .u64) (.cons (.int .i64) .nil))))))], [(1, 1)]⟩), (.ret, ⟨[(.tmp 2, .val .bool)], []⟩)]
noncomputable def F69_2 (k : Nat) : Nat → m69_2.den → Option (denE x69_2)
  | 0, _ => none
  | j + 1, v => round TI3 (O68 k) (L69_2 k) b69_2 m69_2 x69_2 (F69_2 k j) v
theorem lk69_2_ (k : Nat) : LinksOK Tryd.prog 27 (L69_2 k) b69_2 := (And.intro (And.intro True.intro (And.intro True.intro True.intro)) (And.intro (And.intro True.intro (And.intro (And.intro True.intro True.intro) True.intro)) True.intro))
noncomputable def L69 (k : Nat) : LOrc := fun R lk s K => match lk with
  | .loop r => bif Nat.beq r 2 then link m69_2 x69_2 (F69_2 k k) s K else none
  | .label l => none
theorem lk_L69_2 (k : Nat) : LoopOK Tryd.prog 27 (L69 k) b69_2 := loopOK_of hm hT3 (ok_O68 k) (fun _ _ _ h => h) rfl (lk69_2_ k) rfl rfl (F := F69_2 k) (fun _ => rfl) (fun _ _ => rfl) (n := k) fun _ _ _ => rfl
noncomputable def F69 (k : Nat) (v : mi69.den) : Option mo69.den := runF TI3 (O68 k) (L69 k) c69 mi69 mo69 v
theorem lk69 (k : Nat) : LinksOK Tryd.prog 27 (L69 k) c69 := (And.intro True.intro (And.intro (And.intro True.intro (lk_L69_2 k)) (And.intro True.intro True.intro)))
theorem fn69 (k : Nat) (args : List AV) (x : mi69.den) (r : mo69.den) (h1 : args.length = mi69.items.length) (h2 : mi69.dec (Th.start args) = some x) (h3 : F69 k x = some r) : CallOK Tryd.prog 69 args (ansOf (outL mo69.items r)) :=
  call_of hm hT3 (ok_O68 k) (fn := Tryd.f69) (c := c69) Tryd.func69 rfl rfl rfl (lk69 k) rfl (by decide) rfl h1 h2 h3
noncomputable def O69 (k : Nat) : Orc := fun R f args K => bif Nat.beq f 69 then callF mi69 mo69 (F69 k) args K else O68 k R f args K
theorem ok_O69 (k : Nat) : OrcOK (O69 k) (CallOK Tryd.prog) := orc_add (fn69 k) (ok_O68 k)
noncomputable def c71 : Code := Tryd.f71.body.getD .skip
noncomputable def mi71 : Msk := ⟨[(.tmp 0, .val (.st (.cons (.slice (.st (.cons (.st (.cons (.int .u32) (.cons .str .nil))) (.cons (.int .u64) (.cons (.int .i64) .nil))))) .nil))), (.tmp 1, .val (.st (.cons (.int .u32) (.cons .str .nil))))], []⟩
noncomputable def mo71 : Msk := ⟨[(.tmp 4, .val (.int .i64))], []⟩
noncomputable def L71_2 (k : Nat) : LOrc := fun _ _ _ _ => none
noncomputable def b71_2 : Code := (findLoop 2 c71).getD .skip
noncomputable def m71_2 : Msk := ⟨[(.tmp 2, .ptr 2 0), (.tmp 3, .ptr 3 0), (.tmp 5, .val (.int .i64)), (.cell 2 0, .val (.slice (.st (.cons (.st (.cons (.int .u32) (.cons .str .nil))) (.cons (.int .u64) (.cons (.int .i64) .nil)))))), (.cell 3 0, .val (.int .u32)), (.cell 3 1, .val .str)], [(2, 1), (3, 2)]⟩
noncomputable def x71_2 : List (X × Msk) := [(.exit 0, ⟨[], []⟩), (.ret, ⟨[(.tmp 4, .val (.int .i64))], []⟩)]
noncomputable def F71_2 (k : Nat) : Nat → m71_2.den → Option (denE x71_2)
  | 0, _ => none
  | j + 1, v => round TI3 (O69 k) (L71_2 k) b71_2 m71_2 x71_2 (F71_2 k j) v
theorem lk71_2_ (k : Nat) : LinksOK Tryd.prog 22 (L71_2 k) b71_2 := (And.intro (And.intro True.intro (And.intro True.intro True.intro)) (And.intro (And.intro True.intro (And.intro (And.intro True.intro True.intro) True.intro)) True.intro))
noncomputable def L71 (k : Nat) : LOrc := fun R lk s K => match lk with
  | .loop r => bif Nat.beq r 2 then link m71_2 x71_2 (F71_2 k k) s K else none
  | .label l => none
theorem lk_L71_2 (k : Nat) : LoopOK Tryd.prog 22 (L71 k) b71_2 := loopOK_of hm hT3 (ok_O69 k) (fun _ _ _ h => h) rfl (lk71_2_ k) rfl rfl (F := F71_2 k) (fun _ => rfl) (fun _ _ => rfl) (n := k) fun _ _ _ => rfl
noncomputable def F71 (k : Nat) (v : mi71.den) : Option mo71.den := runF TI3 (O69 k) (L71 k) c71 mi71 mo71 v
theorem lk71 (k : Nat) : LinksOK Tryd.prog 22 (L71 k) c71 := (And.intro True.intro (And.intro (And.intro True.intro (lk_L71_2 k)) (And.intro True.intro True.intro)))
theorem fn71 (k : Nat) (args : List AV) (x : mi71.den) (r : mo71.den) (h1 : args.length = mi71.items.length) (h2 : mi71.dec (Th.start args) = some x) (h3 : F71 k x = some r) : CallOK Tryd.prog 71 args (ansOf (outL mo71.items r)) :=
  call_of hm hT3 (ok_O69 k) (fn := Tryd.f71) (c := c71) Tryd.func71 rfl rfl rfl (lk71 k) rfl (by decide) rfl h1 h2 h3
noncomputable def O71 (k : Nat) : Orc := fun R f args K => bif Nat.beq f 71 then callF mi71 mo71 (F71 k) args K else O69 k R f args K
theorem ok_O71 (k : Nat) : OrcOK (O71 k) (CallOK Tryd.prog) := orc_add (fn71 k) (ok_O69 k)
noncomputable def c74 : Code := Tryd.f74.body.getD .skip
noncomputable def mi74 : Msk := ⟨[(.tmp 0, .val (.st (.cons (.slice (.st (.cons (.st (.cons (.int .u32) (.cons .str .nil))) (.cons (.int .u64) (.cons (.int .i64) .nil))))) .nil)))], []⟩
noncomputable def mo74 : Msk := ⟨[(.tmp 2, .val .bool)], []⟩
noncomputable def L74_2 (k : Nat) : LOrc := fun _ _ _ _ => none
noncomputable def b74_2 : Code := (findLoop 2 c74).getD .skip
noncomputable def m74_2 : Msk := ⟨[(.tmp 1, .ptr 1 0), (.tmp 3, .val (.int .i64)), (.cell 1 0, .val (.slice (.st (.cons (.st (.cons (.int .u32) (.cons .str .nil))) (.cons (.int .u64) (.cons (.int .i64) .nil))))))], [(1, 1)]⟩
noncomputable def x74_2 : List (X × Msk) := [(.exit 0, ⟨[(.tmp 1, .ptr 1 0), (.cell 1 0, .val (.slice (.st (.cons (.st (.cons (.int .u32) (.cons .str .nil))) (.cons (.int .u64) (.cons (.int .i64) .nil))))))], [(1, 1)]⟩), (.ret, ⟨[(.tmp 2, .val .bool)], []⟩)]
noncomputable def F74_2 (k : Nat) : Nat → m74_2.den → Option (denE x74_2)
  | 0, _ => none
  | j + 1, v => round TI3 (O71 k) (L74_2 k) b74_2 m74_2 x74_2 (F74_2 k j) v
theorem lk74_2_ (k : Nat) : LinksOK Tryd.prog 57 (L74_2 k) b74_2 := (And.intro (And.intro True.intro (And.intro True.intro True.intro)) (And.intro (And.intro True.intro (And.intro True.intro (And.intro (And.intro True.intro True.intro) True.intro))) True.intro))
noncomputable def L74 (k : Nat) : LOrc := fun R lk s K => match lk with
  | .loop r => bif Nat.beq r 2 then link m74_2 x74_2 (F74_2 k k) s K else none
  | .label l => none
theorem lk_L74_2 (k : Nat) : LoopOK Tryd.prog 57 (L74 k) b74_2 := loopOK_of hm hT3 (ok_O71 k) (fun _ _ _ h => h) rfl (lk74_2_ k) rfl rfl (F := F74_2 k) (fun _ => rfl) (fun _ _ => rfl) (n := k) fun _ _ _ => rfl
noncomputable def F74 (k : Nat) (v : mi74.den) : Option mo74.den := runF TI3 (O71 k) (L74 k) c74 mi74 mo74 v
theorem lk74 (k : Nat) : LinksOK Tryd.prog 57 (L74 k) c74 := (And.intro True.intro (And.intro (And.intro True.intro (lk_L74_2 k)) (And.intro True.intro True.intro)))
theorem fn74 (k : Nat) (args : List AV) (x : mi74.den) (r : mo74.den) (h1 : args.length = mi74.items.length) (h2 : mi74.dec (Th.start args) = some x) (h3 : F74 k x = some r) : CallOK Tryd.prog 74 args (ansOf (outL mo74.items r)) :=
  call_of hm hT3 (ok_O71 k) (fn := Tryd.f74) (c := c74) Tryd.func74 rfl rfl rfl (lk74 k) rfl (by decide) rfl h1 h2 h3
noncomputable def O74 (k : Nat) : Orc := fun R f args K => bif Nat.beq f 74 then callF mi74 mo74 (F74 k) args K else O71 k R f args K
theorem ok_O74 (k : Nat) : OrcOK (O74 k) (CallOK Tryd.prog) := orc_add (fn74 k) (ok_O71 k)
noncomputable def c138 : Code := Tryd.f138.body.getD .skip
noncomputable def mi138 : Msk := ⟨[(.tmp 0, .val (.st (.cons (.slice (.st (.cons (.st (.cons (.int .u32) (.cons .str .nil))) (.cons (.int .u64) (.cons (.int .i64) .nil))))) .nil))), (.tmp 1, .val (.st (.cons (.st (.cons (.int .u32) (.cons .str .nil))) (.cons (.int .u64) (.cons (.int .i64) .nil)))))], []⟩
noncomputable def mo138 : Msk := ⟨[(.res 4, .val (.st (.cons (.slice (.st (.cons (.st (.cons (.int .u32) (.cons .str .nil))) (.cons (.int .u64) (.cons (.int .i64) .nil))))) .nil)))], []⟩
noncomputable def L138_4 (k : Nat) : LOrc := fun _ _ _ _ => none
noncomputable def b138_4 : Code := (findLoop 4 c138).getD .skip
noncomputable def m138_4 : Msk := ⟨[(.tmp 2, .ptr 2 0), (.tmp 3, .ptr 3 0), (.tmp 4, .ptr 4 0), (.tmp 5, .row false (.st (.cons (.st (.cons (.int .u32) (.cons .str .nil))) (.cons (.int .u64) (.cons (.int .i64) .nil))))), (.tmp 6, .val .bool), (.tmp 7, .val (.int .i64)), (.cell 2 0, .val (.slice (.st (.cons (.st (.cons (.int .u32) (.cons .str .nil))) (.cons (.int .u64) (.cons (.int .i64) .nil)))))), (.cell 3 0, .val (.int .u32)), (.cell 3 1, .val .str), (.cell 3 2, .val (.int .u64)), (.cell 3 3, .val (.int .i64)), (.cell 4 0, .row false (.st (.cons (.st (.cons (.int .u32) (.cons .str .nil))) (.cons (.int .u64) (.cons (.int .i64) .nil)))))], [(2, 1), (3, 4), (4, 1)]⟩
noncomputable def x138_4 : List (X × Msk) := [(.exit 0, ⟨[(.tmp 3, .ptr 3 0), (.tmp 4, .ptr 4 0), (.tmp 5, .row false (.st (.cons (.st (.cons (.int .u32) (.cons .str .nil))) (.cons (.int .u64) (.cons (.int .i64) .nil))))), (.tmp 6, .val .bool), (.cell 3 0, .val (.int .u32)), (.cell 3 1, .val .str), (.cell 3 2, .val (.int .u64)), (.cell 3 3, .val (.int .i64)), (.cell 4 0, .row false (.st (.cons (.st (.cons (.int .u32) (.cons .str .nil))) (.cons (.int .u64) (.cons (.int .i64) .nil)))))], [(3, 4), (4, 1)]⟩)]
noncomputable def F138_4 (k : Nat) : Nat → m138_4.den → Option (denE x138_4)
  | 0, _ => none
  | j + 1, v => round TI3 (O74 k) (L138_4 k) b138_4 m138_4 x138_4 (F138_4 k j) v
theorem lk138_4_ (k : Nat) : LinksOK Tryd.prog 53 (L138_4 k) b138_4 := (And.intro (And.intro True.intro (And.intro True.intro True.intro)) (And.intro (And.intro True.intro (And.intro (And.intro True.intro (And.intro (And.intro True.intro True.intro) True.intro)) (And.intro True.intro (And.intro True.intro True.intro)))) True.intro))
noncomputable def L138 (k : Nat) : LOrc := fun R lk s K => match lk with
  | .loop r => bif Nat.beq r 4 then link m138_4 x138_4 (F138_4 k k) s K else none
  | .label l => none
theorem lk_L138_4 (k : Nat) : LoopOK Tryd.prog 53 (L138 k) b138_4 := loopOK_of hm hT3 (ok_O74 k) (fun _ _ _ h => h) rfl (lk138_4_ k) rfl rfl (F := F138_4 k) (fun _ => rfl) (fun _ _ => rfl) (n := k) fun _ _ _ => rfl
noncomputable def F138 (k : Nat) (v : mi138.den) : Option mo138.den := runF TI3 (O74 k) (L138 k) c138 mi138 mo138 v
theorem lk138 (k : Nat) : LinksOK Tryd.prog 53 (L138 k) c138 := (And.intro True.intro (And.intro True.intro (And.intro True.intro (And.intro (And.intro True.intro (lk_L138_4 k)) (And.intro (And.intro True.intro (And.intro True.intro True.intro)) (And.intro True.intro True.intro))))))
theorem fn138 (k : Nat) (args : List AV) (x : mi138.den) (r : mo138.den) (h1 : args.length = mi138.items.length) (h2 : mi138.dec (Th.start args) = some x) (h3 : F138 k x = some r) : CallOK Tryd.prog 138 args (ansOf (outL mo138.items r)) :=
  call_of hm hT3 (ok_O74 k) (fn := Tryd.f138) (c := c138) Tryd.func138 rfl rfl rfl (lk138 k) rfl (by decide) rfl h1 h2 h3
noncomputable def O138 (k : Nat) : Orc := fun R f args K => bif Nat.beq f 138 then callF mi138 mo138 (F138 k) args K else O74 k R f args K
theorem ok_O138 (k : Nat) : OrcOK (O138 k) (CallOK Tryd.prog) := orc_add (fn138 k) (ok_O74 k)
noncomputable def c73 : Code := Tryd.f73.body.getD .skip
noncomputable def mi73 : Msk := ⟨[(.tmp 0, .val (.st (.cons (.slice (.st (.cons (.st (.cons (.int .u32) (.cons .str .nil))) (.cons (.int .u64) (.cons (.int .i64) .nil))))) .nil))), (.tmp 1, .val (.st (.cons (.int .i64) (.cons .str (.cons (.int .u64) (.cons (.int .u32) (.cons .str (.cons .str .nil)))))))), (.tmp 2, .val .bool)], []⟩
noncomputable def mo73 : Msk := ⟨[(.res 6, .val (.st (.cons (.st (.cons (.slice (.st (.cons (.st (.cons (.int .u32) (.cons .str .nil))) (.cons (.int .u64) (.cons (.int .i64) .nil))))) .nil)) (.cons (.st (.cons (.int .i64) (.cons .str (.cons (.int .u64) (.cons (.int .u32) (.cons .str (.cons .str .nil))))))) (.cons (.int .i64) .nil)))))], []⟩
noncomputable def L73 (k : Nat) : LOrc := fun _ _ _ _ => none
noncomputable def F73 (k : Nat) (v : mi73.den) : Option mo73.den := runF TI3 (O138 k) (L73 k) c73 mi73 mo73 v
theorem lk73 (k : Nat) : LinksOK Tryd.prog 129 (L73 k) c73 := (And.intro True.intro (And.intro (And.intro True.intro (And.intro (And.intro True.intro True.intro) True.intro)) (And.intro (And.intro True.intro (And.intro (And.intro True.intro True.intro) True.intro)) (And.intro True.intro (And.intro True.intro (And.intro True.intro (And.intro (And.intro True.intro (And.intro True.intro True.intro)) (And.intro (And.intro True.intro (And.intro (And.intro True.intro (And.intro True.intro True.intro)) True.intro)) (And.intro (And.intro True.intro (And.intro (And.intro True.intro (And.intro (And.intro True.intro (And.intro True.intro True.intro)) (And.intro True.intro True.intro))) True.intro)) (And.intro (And.intro True.intro (And.intro (And.intro (And.intro True.intro (And.intro True.intro (And.intro True.intro (And.intro True.intro True.intro)))) (And.intro True.intro True.intro)) True.intro)) (And.intro (And.intro True.intro (And.intro (And.intro True.intro True.intro) True.intro)) (And.intro True.intro (And.intro True.intro True.intro)))))))))))))
theorem fn73 (k : Nat) (args : List AV) (x : mi73.den) (r : mo73.den) (h1 : args.length = mi73.items.length) (h2 : mi73.dec (Th.start args) = some x) (h3 : F73 k x = some r) : CallOK Tryd.prog 73 args (ansOf (outL mo73.items r)) :=
  call_of hm hT3 (ok_O138 k) (fn := Tryd.f73) (c := c73) Tryd.func73 rfl rfl rfl (lk73 k) rfl (by decide) rfl h1 h2 h3
noncomputable def O73 (k : Nat) : Orc := fun R f args K => bif Nat.beq f 73 then callF mi73 mo73 (F73 k) args K else O138 k R f args K
theorem ok_O73 (k : Nat) : OrcOK (O73 k) (CallOK Tryd.prog) := orc_add (fn73 k) (ok_O138 k)
noncomputable def c75 : Code := Tryd.f75.body.getD .skip
noncomputable def mi75 : Msk := ⟨[(.tmp 0, .val (.st (.cons (.slice (.st (.cons (.st (.cons (.int .u32) (.cons .str .nil))) (.cons (.int .u64) (.cons (.int .i64) .nil))))) .nil))), (.tmp 1, .val (.int .i64))], []⟩
noncomputable def mo75 : Msk := ⟨[(.tmp 4, .val (.int .u64))], []⟩
noncomputable def L75_3 (k : Nat) : LOrc := fun _ _ _ _ => none
noncomputable def b75_3 : Code := (findLoop 3 c75).getD .skip
noncomputable def m75_3 : Msk := ⟨[(.tmp 1, .val (.int .i64)), (.tmp 2, .ptr 2 0), (.tmp 5, .val (.int .u64)), (.tmp 6, .val (.int .i64)), (.cell 2 0, .val (.slice (.st (.cons (.st (.cons (.int .u32) (.cons .str .nil))) (.cons (.int .u64) (.cons (.int .i64) .nil))))))], [(2, 1)]⟩
noncomputable def x75_3 : List (X × Msk) := [(.exit 0, ⟨[(.tmp 5, .val (.int .u64))], []⟩)]
noncomputable def F75_3 (k : Nat) : Nat → m75_3.den → Option (denE x75_3)
  | 0, _ => none
  | j + 1, v => round TI3 (O73 k) (L75_3 k) b75_3 m75_3 x75_3 (F75_3 k j) v
theorem lk75_3_ (k : Nat) : LinksOK Tryd.prog 31 (L75_3 k) b75_3 := (And.intro (And.intro True.intro (And.intro True.intro True.intro)) (And.intro (And.intro True.intro (And.intro True.intro True.intro)) True.intro))
noncomputable def L75 (k : Nat) : LOrc := fun R lk s K => match lk with
  | .loop r => bif Nat.beq r 3 then link m75_3 x75_3 (F75_3 k k) s K else none
  | .label l => none
theorem lk_L75_3 (k : Nat) : LoopOK Tryd.prog 31 (L75 k) b75_3 := loopOK_of hm hT3 (ok_O73 k) (fun _ _ _ h => h) rfl (lk75_3_ k) rfl rfl (F := F75_3 k) (fun _ => rfl) (fun _ _ => rfl) (n := k) fun _ _ _ => rfl
noncomputable def F75 (k : Nat) (v : mi75.den) : Option mo75.den := runF TI3 (O73 k) (L75 k) c75 mi75 mo75 v
theorem lk75 (k : Nat) : LinksOK Tryd.prog 31 (L75 k) c75 := (And.intro True.intro (And.intro True.intro (And.intro (And.intro True.intro (lk_L75_3 k)) (And.intro True.intro True.intro))))
theorem fn75 (k : Nat) (args : List AV) (x : mi75.den) (r : mo75.den) (h1 : args.length = mi75.items.length) (h2 : mi75.dec (Th.start args) = some x) (h3 : F75 k x = some r) : CallOK Tryd.prog 75 args (ansOf (outL mo75.items r)) :=
  call_of hm hT3 (ok_O73 k) (fn := Tryd.f75) (c := c75) Tryd.func75 rfl rfl rfl (lk75 k) rfl (by decide) rfl h1 h2 h3
noncomputable def O75 (k : Nat) : Orc := fun R f args K => bif Nat.beq f 75 then callF mi75 mo75 (F75 k) args K else O73 k R f args K
theorem ok_O75 (k : Nat) : OrcOK (O75 k) (CallOK Tryd.prog) := orc_add (fn75 k) (ok_O73 k)
noncomputable def c77 : Code := Tryd.f77.body.getD .skip
noncomputable def mi77 : Msk := ⟨[(.tmp 0, .val (.st (.cons (.slice (.st (.cons (.st (.cons (.int .u32) (.cons .str .nil))) (.cons (.int .u64) (.cons (.int .i64) .nil))))) .nil))), (.tmp 1, .val (.st (.cons (.slice (.st (.cons (.st (.cons (.int .u32) (.cons .str .nil))) (.cons (.int .u64) (.cons (.int .i64) .nil))))) .nil)))], []⟩
noncomputable def mo77 : Msk := ⟨[(.tmp 4, .val .bool)], []⟩
noncomputable def L77_4 (k : Nat) : LOrc := fun _ _ _ _ => none
noncomputable def b77_4 : Code := (findLoop 4 c77).getD .skip
noncomputable def m77_4 : Msk := ⟨[(.tmp 2, .ptr 2 0), (.tmp 3, .ptr 3 0), (.tmp 5, .val (.int .i64)), (.cell 2 0, .val (.slice (.st (.cons (.st (.cons (.int .u32) (.cons .str .nil))) (.cons (.int .u64) (.cons (.int .i64) .nil)))))), (.cell 3 0, .val (.slice (.st (.cons (.st (.cons (.int .u32) (.cons .str .nil))) (.cons (.int .u64) (.cons (.int .i64) .nil))))))], [(2, 1), (3, 1)]⟩
noncomputable def x77_4 : List (X × Msk) := [(.exit 0, ⟨[], []⟩), (.ret, ⟨[(.tmp 4, .val .bool)], []⟩)]
noncomputable def F77_4 (k : Nat) : Nat → m77_4.den → Option (denE x77_4)
  | 0, _ => none
  | j + 1, v => round TI3 (O75 k) (L77_4 k) b77_4 m77_4 x77_4 (F77_4 k j) v
theorem lk77_4_ (k : Nat) : LinksOK Tryd.prog 31 (L77_4 k) b77_4 := (And.intro (And.intro True.intro (And.intro True.intro True.intro)) (And.intro (And.intro True.intro (And.intro (And.intro True.intro True.intro) True.intro)) True.intro))
noncomputable def L77 (k : Nat) : LOrc := fun R lk s K => match lk with
  | .loop r => bif Nat.beq r 4 then link m77_4 x77_4 (F77_4 k k) s K else none
  | .label l => none
theorem lk_L77_4 (k : Nat) : LoopOK Tryd.prog 31 (L77 k) b77_4 := loopOK_of hm hT3 (ok_O75 k) (fun _ _ _ h => h) rfl (lk77_4_ k) rfl rfl (F := F77_4 k) (fun _ => rfl) (fun _ _ => rfl) (n := k) fun _ _ _ => rfl
noncomputable def F77 (k : Nat) (v : mi77.den) : Option mo77.den := runF TI3 (O75 k) (L77 k) c77 mi77 mo77 v
theorem lk77 (k : Nat) : LinksOK Tryd.prog 31 (L77 k) c77 := (And.intro True.intro (And.intro (And.intro True.intro (And.intro (And.intro True.intro True.intro) True.intro)) (And.intro (And.intro True.intro (lk_L77_4 k)) (And.intro True.intro True.intro))))
theorem fn77 (k : Nat) (args : List AV) (x : mi77.den) (r : mo77.den) (h1 : args.length = mi77.items.length) (h2 : mi77.dec (Th.start args) = some x) (h3 : F77 k x = some r) : CallOK Tryd.prog 77 args (ansOf (outL mo77.items r)) :=
  call_of hm hT3 (ok_O75 k) (fn := Tryd.f77) (c := c77) Tryd.func77 rfl rfl rfl (lk77 k) rfl (by decide) rfl h1 h2 h3
noncomputable def O77 (k : Nat) : Orc := fun R f args K => bif Nat.beq f 77 then callF mi77 mo77 (F77 k) args K else O75 k R f args K
theorem ok_O77 (k : Nat) : OrcOK (O77 k) (CallOK Tryd.prog) := orc_add (fn77 k) (ok_O75 k)
noncomputable def c14 : Code := Tryd.f14.body.getD .skip
noncomputable def mi14 : Msk := ⟨[(.tmp 0, .val (.st (.cons (.slice (.st (.cons (.st (.cons (.int .u32) (.cons .str .nil))) (.cons (.int .u64) (.cons (.int .i64) .nil))))) .nil))), (.tmp 1, .val (.st (.cons (.int .i64) (.cons .str (.cons (.int .u64) (.cons (.int .u32) (.cons .str (.cons .str .nil)))))))), (.tmp 2, .val .bool), (.tmp 3, .val (.st (.cons (.int .u32) (.cons .str .nil))))], []⟩
noncomputable def mo14 : Msk := ⟨[(.tmp 8, .val .bool)], []⟩
noncomputable def L14 (k : Nat) : LOrc := fun _ _ _ _ => none
noncomputable def F14 (k : Nat) (v : mi14.den) : Option mo14.den := runF TI3 (O77 k) (L14 k) c14 mi14 mo14 v
theorem lk14 (k : Nat) : LinksOK Tryd.prog 116 (L14 k) c14 := (And.intro True.intro (And.intro (And.intro True.intro (And.intro (And.intro True.intro True.intro) True.intro)) (And.intro (And.intro True.intro (And.intro (And.intro True.intro True.intro) True.intro)) (And.intro True.intro (And.intro True.intro (And.intro (And.intro True.intro (And.intro (And.intro True.intro True.intro) True.intro)) (And.intro True.intro (And.intro True.intro (And.intro True.intro (And.intro (And.intro True.intro (And.intro True.intro True.intro)) (And.intro True.intro True.intro)))))))))))
theorem fn14 (k : Nat) (args : List AV) (x : mi14.den) (r : mo14.den) (h1 : args.length = mi14.items.length) (h2 : mi14.dec (Th.start args) = some x) (h3 : F14 k x = some r) : CallOK Tryd.prog 14 args (ansOf (outL mo14.items r)) :=
  call_of hm hT3 (ok_O77 k) (fn := Tryd.f14) (c := c14) Tryd.func14 rfl rfl rfl (lk14 k) rfl (by decide) rfl h1 h2 h3
noncomputable def O14 (k : Nat) : Orc := fun R f args K => bif Nat.beq f 14 then callF mi14 mo14 (F14 k) args K else O77 k R f args K
theorem ok_O14 (k : Nat) : OrcOK (O14 k) (CallOK Tryd.prog) := orc_add (fn14 k) (ok_O77 k)
end Go.Proofs.YtjgnpmdbkgeakaaDoor.G
end
section
set_option maxRecDepth 1000000
set_option linter.unusedVariables false
set_option linter.unusedSimpArgs false
namespace Go.Proofs.YtjgnpmdbkgeakaaDoor.G
open Go Go.Proofs.YtjgnpmdbkgeakaaDoor Th
noncomputable def G76_2 (k : Nat) (j : Nat) (v : List ((Int × List UInt8 × Unit) × Int × Int × Unit) × Int × Int × List ((Int × List UInt8 × Unit) × Int × Int × Unit) × Unit) : Option (List ((Int × List UInt8 × Unit) × Int × Int × Unit) × Unit ⊕ Bool × Unit) := F76_2 k j v
theorem G76_2_eq (k : Nat) (j : Nat) (v0 : List ((Int × List UInt8 × Unit) × Int × Int × Unit)) (v1 v2 : Int) (v3 : List ((Int × List UInt8 × Unit) × Int × Int × Unit)) : G76_2 k (j + 1) (v0, v1, v2, v3, ()) = sel (decide (v2 < v1)) (sel (decide (0 ≤ v2)) (sel (decide (v2 < Int.ofNat
 v0.length)) (ocall (G27 k (((v0.getD v2.toNat ((0, [], ()), 0, 0, ())).1.1, (v0.getD v2.toNat ((0, [], ()), 0, 0, ())).1.2.1, ()), ())) fun r => sel (!r.1) (some (Sum.inr (false, ()))) (sel (decide (1000000000000 ≤ (v0.getD v2.toNat ((0, [],
 ()), 0, 0, ())).2.1)) (some (Sum.inr (false, ()))) (sel (decide ((v0.getD v2.toNat ((0, [], ()), 0, 0, ())).2.2.1 < 1)) (some (Sum.inr (false, ()))) (sel (decide (3 < (v0.getD v2.toNat ((0, [], ()), 0, 0, ())).2.2.1)) (some (Sum.inr
 (false, ()))) (sel (decide (0 < v2)) (sel (decide (0 ≤ IntKind.i64.wrap (v2 - 1))) (sel (decide (IntKind.i64.wrap (v2 - 1) < Int.ofNat v3.length)) (ocall (G29 k (((v3.getD (IntKind.i64.wrap (v2 - 1)).toNat ((0, [], ()), 0, 0, ())).1.1, (v3.getD (IntKind.i64.wrap (v2 -
 1)).toNat ((0, [], ()), 0, 0, ())).1.2.1, ()), ((v0.getD v2.toNat ((0, [], ()), 0, 0, ())).1.1, (v0.getD v2.toNat ((0, [], ()), 0, 0, ())).1.2.1, ()), ())) fun r => sel (decide (0 ≤ r.1)) (some (Sum.inr (false, ())))
 (G76_2 k j (v0, v1, IntKind.i64.wrap (v2 + 1), v3, ()))) none) none) (G76_2 k j (v0, v1, IntKind.i64.wrap (v2 + 1), v3, ()))))))) none) none) (some (Sum.inl (v3, ()))) := by kernel_rfl
noncomputable def G76 (k : Nat) (v : (List ((Int × List UInt8 × Unit) × Int × Int × Unit) × Unit) × Unit) : Option (Bool × Unit) := F76 k v
theorem G76_eq (k : Nat) (v0 : List ((Int × List UInt8 × Unit) × Int × Int × Unit)) : G76 k ((v0, ()), ()) = ocall (G76_2 k k (v0, Int.ofNat v0.length, 0, v0, ())) fun e => esel e (fun v => some (decide (Int.ofNat v.1.length ≤ 256), ())) fun e => some (e.1,
 ()) := by kernel_rfl
noncomputable def G70_2 (k : Nat) (j : Nat) (v : List ((Int × List UInt8 × Unit) × Int × Int × Unit) × Int × Int × Int × List UInt8 × Int × List UInt8 × Int × Int × Unit) : Option (Int × List UInt8 × Int × Int × Unit ⊕ Bool × Int × List UInt8 × Int × Int × Unit) := F70_2 k j v
theorem G70_2_eq (k : Nat) (j : Nat) (v0 : List ((Int × List UInt8 × Unit) × Int × Int × Unit)) (v1 v2 v3 : Int) (v4 : List UInt8) (v5 : Int) (v6 : List UInt8) (v7 v8 : Int) : G70_2 k (j + 1) (v0, v1, v2, v3, v4, v5, v6, v7, v8, ()) = sel (decide (v2 < v1)) (sel (decide (0 ≤ v2)) (sel
 (decide (v2 < Int.ofNat v0.length)) (sel (sameI (v0.getD v2.toNat ((0, [], ()), 0, 0, ())).1.1 v3 && (sameS (v0.getD v2.toNat ((0, [], ()), 0, 0, ())).1.2.1 v4 && true)) (some (Sum.inr (true, (v0.getD v2.toNat ((0, [], ()), 0, 0, ())).1.1, (v0.getD
 v2.toNat ((0, [], ()), 0, 0, ())).1.2.1, (v0.getD v2.toNat ((0, [], ()), 0, 0, ())).2.1, (v0.getD v2.toNat ((0, [], ()), 0, 0, ())).2.2.1, ()))) (G70_2 k j (v0, v1, IntKind.i64.wrap (v2 + 1), v3, v4, v5, v6, v7, v8, ()))) none) none)
 (some (Sum.inl (v5, v6, v7, v8, ()))) := by kernel_rfl
noncomputable def G70 (k : Nat) (v : (List ((Int × List UInt8 × Unit) × Int × Int × Unit) × Unit) × (Int × List UInt8 × Unit) × Unit) : Option (((Int × List UInt8 × Unit) × Int × Int × Unit) × Bool × Unit) := F70 k v
theorem G70_eq (k : Nat) (v0 : List ((Int × List UInt8 × Unit) × Int × Int × Unit)) (v1 : Int) (v2 : List UInt8) : G70 k ((v0, ()), (v1, v2, ()), ()) = ocall (G70_2 k k (v0, Int.ofNat v0.length, 0, v1, v2, 0, [], 0, 0, ())) fun e => esel e (fun v => some (((0, [],
 ()), 0, 0, ()), false, ())) fun e => some (((e.2.1, e.2.2.1, ()), e.2.2.2.1, e.2.2.2.2.1, ()), e.1, ()) := by kernel_rfl
noncomputable def G225 (k : Nat) (v : ((Int × List UInt8 × Unit) × Int × Int × Unit) × (Int × List UInt8 × Unit) × Unit) : Option (Int × Unit) := F225 k v
theorem G225_eq (k : Nat) (v0 : Int) (v1 : List UInt8) (v2 v3 v4 : Int) (v5 : List UInt8) : G225 k (((v0, v1, ()), v2, v3, ()), (v4, v5, ()), ()) = ocall (G29 k ((v0, v1, ()), (v4, v5, ()), ())) fun r => some (r.1, ()) := by kernel_rfl
noncomputable def G7000002_3 (k : Nat) (j : Nat) (v : List ((Int × List UInt8 × Unit) × Int × Int × Unit) × Unit × Int × Int × Int × Int × List UInt8 × Unit) : Option (List ((Int × List UInt8 × Unit) × Int × Int × Unit) × Unit × Int × Int × Int × List UInt8 × Unit) := F7000002_3 k j v
theorem G7000002_3_eq (k : Nat) (j : Nat) (v0 : List ((Int × List UInt8 × Unit) × Int × Int × Unit)) (v1 v2 v3 v4 : Int) (v5 : List UInt8) : G7000002_3 k (j + 1) (v0, (), v1, v2, v3, v4, v5, ()) = sel (decide (v2 < v3)) (sel (decide (0 ≤ IntKind.i64.wrap ((IntKind.u64.wrap
 (IntKind.i64.wrap (v2 + v3))).fdiv (2 ^ min (Int.toNat 1) 64)))) (sel (decide (IntKind.i64.wrap ((IntKind.u64.wrap (IntKind.i64.wrap (v2 + v3))).fdiv (2 ^ min (Int.toNat 1) 64)) < Int.ofNat v0.length)) (ocall (G225 k ((((v0.getD (IntKind.i64.wrap ((IntKind.u64.wrap (IntKind.i64.wrap (v2 + v3))).fdiv
 (2 ^ min (Int.toNat 1) 64))).toNat ((0, [], ()), 0, 0, ())).1.1, (v0.getD (IntKind.i64.wrap ((IntKind.u64.wrap (IntKind.i64.wrap (v2 + v3))).fdiv (2 ^ min (Int.toNat 1) 64))).toNat ((0, [], ()), 0, 0, ())).1.2.1, ()), (v0.getD (IntKind.i64.wrap
 ((IntKind.u64.wrap (IntKind.i64.wrap (v2 + v3))).fdiv (2 ^ min (Int.toNat 1) 64))).toNat ((0, [], ()), 0, 0, ())).2.1, (v0.getD (IntKind.i64.wrap ((IntKind.u64.wrap (IntKind.i64.wrap (v2 + v3))).fdiv (2 ^ min (Int.toNat 1) 64))).toNat ((0, [], ()), 0, 0, ())).2.2.1,
 ()), (v4, v5, ()), ())) fun r => sel (decide (r.1 < 0)) (G7000002_3 k j (v0, (), v1, IntKind.i64.wrap (IntKind.i64.wrap ((IntKind.u64.wrap (IntKind.i64.wrap (v2 + v3))).fdiv (2 ^ min (Int.toNat 1) 64)) + 1), v3, v4, v5, ())) (G7000002_3 k j (v0, (),
 v1, v2, IntKind.i64.wrap ((IntKind.u64.wrap (IntKind.i64.wrap (v2 + v3))).fdiv (2 ^ min (Int.toNat 1) 64)), v4, v5, ()))) none) none) (some (v0, (), v1, v2, v4, v5, ())) := by kernel_rfl
noncomputable def G7000002 (k : Nat) (v : List ((Int × List UInt8 × Unit) × Int × Int × Unit) × (Int × List UInt8 × Unit) × Unit × Unit) : Option (Int × Bool × Unit) := F7000002 k v
theorem G7000002_eq (k : Nat) (v0 : List ((Int × List UInt8 × Unit) × Int × Int × Unit)) (v1 : Int) (v2 : List UInt8) : G7000002 k (v0, (v1, v2, ()), (), ()) = ocall (G7000002_3 k k (v0, (), Int.ofNat v0.length, 0, Int.ofNat v0.length, v1, v2, ())) fun e =>
 sel (decide (e.2.2.2.1 < e.2.2.1)) (sel (decide (0 ≤ e.2.2.2.1)) (sel (decide (e.2.2.2.1 < Int.ofNat e.1.length)) (ocall (G225 k ((((e.1.getD e.2.2.2.1.toNat ((0, [], ()), 0, 0, ())).1.1, (e.1.getD e.2.2.2.1.toNat ((0, [], ()), 0, 0, ())).1.2.1, ()), (e.1.getD
 e.2.2.2.1.toNat ((0, [], ()), 0, 0, ())).2.1, (e.1.getD e.2.2.2.1.toNat ((0, [], ()), 0, 0, ())).2.2.1, ()), (e.2.2.2.2.1, e.2.2.2.2.2.1, ()), ())) fun r => some (e.2.2.2.1, decide (r.1 = 0), ())) none) none) (some (e.2.2.2.1, false,
 ())) := by kernel_rfl
noncomputable def G209 (k : Nat) (v : (List ((Int × List UInt8 × Unit) × Int × Int × Unit) × Unit) × (Int × List UInt8 × Unit) × Unit) : Option (Int × Bool × Unit) := F209 k v
theorem G209_eq (k : Nat) (v0 : List ((Int × List UInt8 × Unit) × Int × Int × Unit)) (v1 : Int) (v2 : List UInt8) : G209 k ((v0, ()), (v1, v2, ()), ()) = ocall (G7000002 k (v0, (v1, v2, ()), (), ())) fun r => some (r.1, r.2.1, ()) := by
 kernel_rfl
noncomputable def G210 (k : Nat) (v : List ((Int × List UInt8 × Unit) × Int × Int × Unit)) : Option (List ((Int × List UInt8 × Unit) × Int × Int × Unit) × Unit) := F210 k v
theorem G210_eq (k : Nat) (v0 : List ((Int × List UInt8 × Unit) × Int × Int × Unit)) : G210 k v0 = sel (decide ((0 + v0.length) * 40 ≤ 140737488355328)) (some (v0, ())) none := by kernel_rfl
noncomputable def G211 (k : Nat) (v : List ((Int × List UInt8 × Unit) × Int × Int × Unit) × Int × List ((Int × List UInt8 × Unit) × Int × Int × Unit) × Unit) : Option (List ((Int × List UInt8 × Unit) × Int × Int × Unit) × Unit) := F211 k v
theorem G211_eq (k : Nat) (v0 : List ((Int × List UInt8 × Unit) × Int × Int × Unit)) (v1 : Int) (v2 : List ((Int × List UInt8 × Unit) × Int × Int × Unit)) : G211 k (v0, v1, v2, ()) = sel (decide (0 ≤ v1)) (sel (decide (v1 ≤ Int.ofNat v0.length)) (sel (decide (v0.length ≤ 1000000)) (sel
 (decide (v2.length = 1)) (some (List.take v1.toNat v0 ++ v2 ++ List.drop v1.toNat v0, ())) none) none) none) none := by kernel_rfl
noncomputable def G188 (k : Nat) (v : (List ((Int × List UInt8 × Unit) × Int × Int × Unit) × Unit) × ((Int × List UInt8 × Unit) × Int × Int × Unit) × Unit) : Option ((List ((Int × List UInt8 × Unit) × Int × Int × Unit) × Unit) × Bool × Unit) := F188 k v
theorem G188_eq (k : Nat) (v0 : List ((Int × List UInt8 × Unit) × Int × Int × Unit)) (v1 : Int) (v2 : List UInt8) (v3 v4 : Int) : G188 k ((v0, ()), ((v1, v2, ()), v3, v4, ()), ()) = ocall (G209 k ((v0, ()), (v1, v2, ()), ())) fun r => sel
 r.2.1 (ocall (G210 k v0) fun r_1 => sel (decide (0 ≤ r.1)) (sel (decide (r.1 < Int.ofNat r_1.1.length)) (sel (decide (r.1.toNat < r_1.1.length)) (some ((r_1.1.set r.1.toNat ((v1, v2, ()), v3, v4, ()), ()), true, ())) none) none) none) (sel (decide (Int.ofNat v0.length
 = 256)) (some ((v0, ()), false, ())) (ocall (G210 k v0) fun r_1 => ocall (G211 k (r_1.1, r.1, [((v1, v2, ()), v3, v4, ())], ())) fun r => some ((r.1, ()), true, ()))) := by kernel_rfl
noncomputable def G136 (k : Nat) (v : (List ((Int × List UInt8 × Unit) × Int × Int × Unit) × Unit) × (Int × List UInt8 × Int × Int × List UInt8 × List UInt8 × Unit) × Bool × Unit) : Option ((List ((Int × List UInt8 × Unit) × Int × Int × Unit) × Unit) × List UInt8 × Unit) := F136 k v
theorem G136_eq (k : Nat) (v0 : List ((Int × List UInt8 × Unit) × Int × Int × Unit)) (v1 : Int) (v2 : List UInt8) (v3 v4 : Int) (v5 v6 : List UInt8) (v7 : Bool) : G136 k ((v0, ()), (v1, v2, v3, v4, v5, v6, ()), v7, ()) = ocall (G26 k ((v1, v2, v3, v4, v5, v6, ()),
 ())) fun r => ocall (G70 k ((v0, ()), (r.1.1, r.1.2.1, ()), ())) fun r => sel r.2.1 (sel (!decide (r.1.2.2.1 = 1)) (some ((v0, ()), [48, 53], ())) (sel r.2.1 (sel (!decide (r.1.2.1 = v3)) (some ((v0, ()), [57, 52], ())) (sel r.2.1 (some
 ((v0, ()), [48, 48], ())) (ocall (G26 k ((v1, v2, v3, v4, v5, v6, ()), ())) fun r => sel v7 (ocall (G188 k ((v0, ()), ((r.1.1, r.1.2.1, ()), v3, 1, ()), ())) fun r => sel (!r.2.1) (some ((v0, ()), [57, 54], ())) (some
 ((r.1.1, ()), [48, 48], ()))) (ocall (G188 k ((v0, ()), ((r.1.1, r.1.2.1, ()), v3, 2, ()), ())) fun r => sel (!r.2.1) (some ((v0, ()), [57, 54], ())) (some ((r.1.1, ()), [48, 53], ())))))) (sel r.2.1 (some ((v0,
 ()), [48, 48], ())) (ocall (G26 k ((v1, v2, v3, v4, v5, v6, ()), ())) fun r => sel v7 (ocall (G188 k ((v0, ()), ((r.1.1, r.1.2.1, ()), v3, 1, ()), ())) fun r => sel (!r.2.1) (some ((v0, ()), [57, 54], ())) (some ((r.1.1,
 ()), [48, 48], ()))) (ocall (G188 k ((v0, ()), ((r.1.1, r.1.2.1, ()), v3, 2, ()), ())) fun r => sel (!r.2.1) (some ((v0, ()), [57, 54], ())) (some ((r.1.1, ()), [48, 53], ()))))))) (sel r.2.1 (sel (!decide (r.1.2.1 =
 v3)) (some ((v0, ()), [57, 52], ())) (sel r.2.1 (some ((v0, ()), [48, 48], ())) (ocall (G26 k ((v1, v2, v3, v4, v5, v6, ()), ())) fun r => sel v7 (ocall (G188 k ((v0, ()), ((r.1.1, r.1.2.1, ()), v3, 1, ()), ())) fun r =>
 sel (!r.2.1) (some ((v0, ()), [57, 54], ())) (some ((r.1.1, ()), [48, 48], ()))) (ocall (G188 k ((v0, ()), ((r.1.1, r.1.2.1, ()), v3, 2, ()), ())) fun r => sel (!r.2.1) (some ((v0, ()), [57, 54], ())) (some ((r.1.1,
 ()), [48, 53], ())))))) (sel r.2.1 (some ((v0, ()), [48, 48], ())) (ocall (G26 k ((v1, v2, v3, v4, v5, v6, ()), ())) fun r => sel v7 (ocall (G188 k ((v0, ()), ((r.1.1, r.1.2.1, ()), v3, 1, ()), ())) fun r => sel (!r.2.1)
 (some ((v0, ()), [57, 54], ())) (some ((r.1.1, ()), [48, 48], ()))) (ocall (G188 k ((v0, ()), ((r.1.1, r.1.2.1, ()), v3, 2, ()), ())) fun r => sel (!r.2.1) (some ((v0, ()), [57, 54], ())) (some ((r.1.1, ()), [48,
 53], ())))))) := by kernel_rfl
noncomputable def G137 (k : Nat) (v : (List ((Int × List UInt8 × Unit) × Int × Int × Unit) × Unit) × (Int × List UInt8 × Int × Int × List UInt8 × List UInt8 × Unit) × Unit) : Option ((List ((Int × List UInt8 × Unit) × Int × Int × Unit) × Unit) × List UInt8 × Unit) := F137 k v
theorem G137_eq (k : Nat) (v0 : List ((Int × List UInt8 × Unit) × Int × Int × Unit)) (v1 : Int) (v2 : List UInt8) (v3 v4 : Int) (v5 v6 : List UInt8) : G137 k ((v0, ()), (v1, v2, v3, v4, v5, v6, ()), ()) = ocall (G26 k ((v1, v2, v3, v4, v5, v6, ()), ())) fun
 r => ocall (G70 k ((v0, ()), (r.1.1, r.1.2.1, ()), ())) fun r => sel (!r.2.1) (ocall (G26 k ((v1, v2, v3, v4, v5, v6, ()), ())) fun r => ocall (G188 k ((v0, ()), ((r.1.1, r.1.2.1, ()), v3, 3, ()), ())) fun r => sel (!r.2.1)
 (some ((v0, ()), [57, 54], ())) (some ((r.1.1, ()), [48, 48], ()))) (ocall (G188 k ((v0, ()), ((r.1.1.1, r.1.1.2.1, ()), r.1.2.1, 3, ()), ())) fun r => sel (!r.2.1) (some ((v0, ()), [57, 54], ())) (some ((r.1.1,
 ()), [48, 48], ()))) := by kernel_rfl
noncomputable def G72 (k : Nat) (v : (List ((Int × List UInt8 × Unit) × Int × Int × Unit) × Unit) × (Int × List UInt8 × Int × Int × List UInt8 × List UInt8 × Unit) × Bool × Unit) : Option ((List ((Int × List UInt8 × Unit) × Int × Int × Unit) × Unit) × (Int × List UInt8 × Int × Int × List
 UInt8 × List UInt8 × Unit) × Int × Unit) := F72 k v
theorem G72_eq (k : Nat) (v0 : List ((Int × List UInt8 × Unit) × Int × Int × Unit)) (v1 : Int) (v2 : List UInt8) (v3 v4 : Int) (v5 v6 : List UInt8) (v7 : Bool) : G72 k ((v0, ()), (v1, v2, v3, v4, v5, v6, ()), v7, ()) = ocall (G76 k ((v0, ()), ())) fun r =>
 sel (!r.1) (some ((v0, ()), (0, [], 0, 0, [], [], ()), 1, ())) (ocall (G33 k ((v1, v2, v3, v4, v5, v6, ()), ())) fun r => sel (!r.1) (some ((v0, ()), (0, [], 0, 0, [], [], ()), 1, ())) (sel (decide (v1 = 1)) (ocall (G136 k ((v0,
 ()), (v1, v2, v3, v4, v5, v6, ()), v7, ())) fun r => some ((r.1.1, ()), (2, [], 0, v4, v5, r.2.1, ()), 0, ())) (sel (decide (v1 = 5)) (sel (decide (v1 = 5)) (ocall (G137 k ((v0, ()), (v1, v2, v3, v4, v5, v6, ()), ())) fun r =>
 some ((r.1.1, ()), (7, [], 0, v4, v5, r.2.1, ()), 0, ())) (some ((v0, ()), (0, [], 0, 0, [], [], ()), 3, ()))) (sel (decide (v1 = 6)) (ocall (G137 k ((v0, ()), (v1, v2, v3, v4, v5, v6, ()), ())) fun r => some ((r.1.1,
 ()), (7, [], 0, v4, v5, r.2.1, ()), 0, ())) (some ((v0, ()), (0, [], 0, 0, [], [], ()), 3, ())))))) := by kernel_rfl
noncomputable def G78_5 (k : Nat) (j : Nat) (v : (Nat × Nat) × List ((Int × List UInt8 × Unit) × Int × Int × Unit) × Int × Int × Unit) : Option ((Nat × Nat) × Unit) := F78_5 k j v
theorem G78_5_eq (k : Nat) (j : Nat) (v0 v1 : Nat) (v2 : List ((Int × List UInt8 × Unit) × Int × Int × Unit)) (v3 v4 : Int) : G78_5 k (j + 1) ((v0, v1), v2, v3, v4, ()) = sel (decide (v4 < v3)) (sel (decide (0 ≤ v4)) (sel (decide (v4 < Int.ofNat v2.length)) (sel (decide ((v2.getD v4.toNat
 ((0, [], ()), 0, 0, ())).2.2.1 = 1)) (sel (cOK BinOp.add v0 v1 (fltOf (v2.getD v4.toNat ((0, [], ()), 0, 0, ())).2.1) 0) (G78_5 k j (((cVal BinOp.add v0 v1 (fltOf (v2.getD v4.toNat ((0, [], ()), 0, 0, ())).2.1) 0).1, (cVal BinOp.add v0 v1 (fltOf
 (v2.getD v4.toNat ((0, [], ()), 0, 0, ())).2.1) 0).2), v2, v3, IntKind.i64.wrap (v4 + 1), ())) none) (sel (decide ((v2.getD v4.toNat ((0, [], ()), 0, 0, ())).2.2.1 = 3)) (sel (cOK BinOp.mul (fltOf (v2.getD v4.toNat ((0, [], ()), 0, 0, ())).2.1)
 0 0 4607182418800017408) (sel (cOK BinOp.add v0 v1 (cVal BinOp.mul (fltOf (v2.getD v4.toNat ((0, [], ()), 0, 0, ())).2.1) 0 0 4607182418800017408).1 (cVal BinOp.mul (fltOf (v2.getD v4.toNat ((0, [], ()), 0, 0, ())).2.1) 0 0 4607182418800017408).2) (G78_5 k j (((cVal
 BinOp.add v0 v1 (cVal BinOp.mul (fltOf (v2.getD v4.toNat ((0, [], ()), 0, 0, ())).2.1) 0 0 4607182418800017408).1 (cVal BinOp.mul (fltOf (v2.getD v4.toNat ((0, [], ()), 0, 0, ())).2.1) 0 0 4607182418800017408).2).1, (cVal BinOp.add v0 v1 (cVal BinOp.mul (fltOf
 (v2.getD v4.toNat ((0, [], ()), 0, 0, ())).2.1) 0 0 4607182418800017408).1 (cVal BinOp.mul (fltOf (v2.getD v4.toNat ((0, [], ()), 0, 0, ())).2.1) 0 0 4607182418800017408).2).2), v2, v3, IntKind.i64.wrap (v4 + 1), ())) none) none) (G78_5 k j ((v0, v1), v2, v3,
 IntKind.i64.wrap (v4 + 1), ())))) none) none) (some ((v0, v1), ())) := by kernel_rfl
noncomputable def G78 (k : Nat) (v : (List ((Int × List UInt8 × Unit) × Int × Int × Unit) × Unit) × Unit) : Option ((Nat × Nat) × Unit) := F78 k v
theorem G78_eq (k : Nat) (v0 : List ((Int × List UInt8 × Unit) × Int × Int × Unit)) : G78 k ((v0, ()), ()) = ocall (G76 k ((v0, ()), ())) fun r => sel (!r.1) (some ((0, 0), ())) (ocall (G78_5 k k ((0, 0), v0, Int.ofNat v0.length, 0, ())) fun e =>
 some ((e.1.1, e.1.2), ())) := by kernel_rfl
noncomputable def G68 (k : Nat) (v : Unit) : Option (Bool × Unit) := F68 k v
theorem G68_eq (k : Nat) : G68 k () = ocall (G72 k (([], ()), (1, [49, 56], 500, 1, [82, 82, 78, 48, 48, 48, 48, 48, 48, 48, 48, 49], [], ()), true, ())) fun r => ocall (G72 k ((r.1.1, ()), (5, [49, 56], 500, 1, [82, 82, 78, 48, 48, 48, 48, 48, 48, 48, 48,
 49], [], ()), true, ())) fun r_1 => ocall (G72 k ((r_1.1.1, ()), (1, [49, 56], 500, 1, [82, 82, 78, 48, 48, 48, 48, 48, 48, 48, 48, 49], [], ()), true, ())) fun r_2 => ocall (G26 k ((1, [49, 56], 500, 1, [82, 82, 78, 48, 48, 48, 48, 48, 48, 48, 48, 49], [],
 ()), ())) fun r_3 => ocall (G70 k ((r_1.1.1, ()), (r_3.1.1, r_3.1.2.1, ()), ())) fun r_4 => sel (decide (r.2.2.1 = 0)) (sel (decide (r_1.2.2.1 = 0)) (sel (decide (r_2.2.2.1 = 0)) (sel (decide (r.2.1.1 = 2)) (sel (decide (r.2.1.2.2.2.2.2.1 = [48, 48])) (sel
 (decide (r_1.2.1.1 = 7)) (sel (decide (r_1.2.1.2.2.2.2.2.1 = [48, 48])) (sel (decide (r_2.2.1.2.2.2.2.2.1 = [48, 53])) (sel r_4.2.1 (sel (decide (r_4.1.2.2.1 = 3)) (sel (decide (r_4.1.2.1 = 500)) (ocall (G78 k ((r.1.1, ()), ())) fun r => sel (cSame r.1.1 r.1.2 4647503709213818880 0)
 (ocall (G78 k ((r_1.1.1, ()), ())) fun r => sel (cSame r.1.1 r.1.2 0 4647503709213818880) (ocall (G76 k ((r_1.1.1, ()), ())) fun r => some (r.1, ())) (some (false, ()))) (some (false, ()))) (some (false, ()))) (some (false,
 ()))) (some (false, ()))) (some (false, ()))) (some (false, ()))) (some (false, ()))) (some (false, ()))) (some (false, ()))) (some (false, ()))) (some (false, ()))) (some (false, ())) := by kernel_rfl
noncomputable def G69_2 (k : Nat) (j : Nat) (v : Int × List ((Int × List UInt8 × Unit) × Int × Int × Unit) × Unit) : Option (List ((Int × List UInt8 × Unit) × Int × Int × Unit) × Unit ⊕ Bool × Unit) := F69_2 k j v
theorem G69_2_eq (k : Nat) (j : Nat) (v0 : Int) (v1 : List ((Int × List UInt8 × Unit) × Int × Int × Unit)) : G69_2 k (j + 1) (v0, v1, ()) = sel (decide (v0 < Int.ofNat v1.length)) (sel (decide (v0 < 300)) (sel (decide (0 ≤ v0)) (sel (decide (v0 < Int.ofNat v1.length)) (ocall (G25 k
 (((v1.getD v0.toNat ((0, [], ()), 0, 0, ())).1.1, (v1.getD v0.toNat ((0, [], ()), 0, 0, ())).1.2.1, ()), ())) fun r => sel (!r.1) (some (Sum.inr (false, ()))) (G69_2 k j (IntKind.i64.wrap (v0 + 1), v1, ()))) none) none) (some (Sum.inl
 (v1, ())))) (some (Sum.inl (v1, ()))) := by kernel_rfl
noncomputable def G69 (k : Nat) (v : (List ((Int × List UInt8 × Unit) × Int × Int × Unit) × Unit) × Unit) : Option (Bool × Unit) := F69 k v
theorem G69_eq (k : Nat) (v0 : List ((Int × List UInt8 × Unit) × Int × Int × Unit)) : G69 k ((v0, ()), ()) = ocall (G69_2 k k (0, v0, ())) fun e => esel e (fun v => some (decide (Int.ofNat v.1.length ≤ 300), ())) fun e => some (e.1, ()) := by kernel_rfl
noncomputable def G71_2 (k : Nat) (j : Nat) (v : Int × List ((Int × List UInt8 × Unit) × Int × Int × Unit) × Int × List UInt8 × Unit) : Option (Unit ⊕ Int × Unit) := F71_2 k j v
theorem G71_2_eq (k : Nat) (j : Nat) (v0 : Int) (v1 : List ((Int × List UInt8 × Unit) × Int × Int × Unit)) (v2 : Int) (v3 : List UInt8) : G71_2 k (j + 1) (v0, v1, v2, v3, ()) = sel (decide (v0 < Int.ofNat v1.length)) (sel (decide (0 ≤ v0)) (sel (decide (v0 < Int.ofNat v1.length)) (sel
 (sameI (v1.getD v0.toNat ((0, [], ()), 0, 0, ())).1.1 v2 && (sameS (v1.getD v0.toNat ((0, [], ()), 0, 0, ())).1.2.1 v3 && true)) (some (Sum.inr (v0, ()))) (G71_2 k j (IntKind.i64.wrap (v0 + 1), v1, v2, v3, ()))) none) none) (some (Sum.inl ()))
 := by kernel_rfl
noncomputable def G71 (k : Nat) (v : (List ((Int × List UInt8 × Unit) × Int × Int × Unit) × Unit) × (Int × List UInt8 × Unit) × Unit) : Option (Int × Unit) := F71 k v
theorem G71_eq (k : Nat) (v0 : List ((Int × List UInt8 × Unit) × Int × Int × Unit)) (v1 : Int) (v2 : List UInt8) : G71 k ((v0, ()), (v1, v2, ()), ()) = ocall (G71_2 k k (0, v0, v1, v2, ())) fun e => esel e (fun v => some ((-1 : Int), ())) fun e => some (e.1,
 ()) := by kernel_rfl
noncomputable def G74_2 (k : Nat) (j : Nat) (v : Int × List ((Int × List UInt8 × Unit) × Int × Int × Unit) × Unit) : Option (List ((Int × List UInt8 × Unit) × Int × Int × Unit) × Unit ⊕ Bool × Unit) := F74_2 k j v
theorem G74_2_eq (k : Nat) (j : Nat) (v0 : Int) (v1 : List ((Int × List UInt8 × Unit) × Int × Int × Unit)) : G74_2 k (j + 1) (v0, v1, ()) = sel (decide (v0 < Int.ofNat v1.length)) (sel (decide (0 ≤ v0)) (sel (decide (v0 < Int.ofNat v1.length)) (ocall (G28 k (((v1.getD v0.toNat ((0, [],
 ()), 0, 0, ())).1.1, (v1.getD v0.toNat ((0, [], ()), 0, 0, ())).1.2.1, ()), ())) fun r => sel (!r.1) (some (Sum.inr (false, ()))) (sel (decide (999999999999 < (v1.getD v0.toNat ((0, [], ()), 0, 0, ())).2.1)) (some (Sum.inr
 (false, ()))) (sel (decide ((v1.getD v0.toNat ((0, [], ()), 0, 0, ())).2.2.1 < 1)) (some (Sum.inr (false, ()))) (sel (decide (3 < (v1.getD v0.toNat ((0, [], ()), 0, 0, ())).2.2.1)) (some (Sum.inr (false, ()))) (sel (decide (0 < v0)) (sel
 (decide (0 ≤ IntKind.i64.wrap (v0 - 1))) (sel (decide (IntKind.i64.wrap (v0 - 1) < Int.ofNat v1.length)) (ocall (G30 k (((v1.getD (IntKind.i64.wrap (v0 - 1)).toNat ((0, [], ()), 0, 0, ())).1.1, (v1.getD (IntKind.i64.wrap (v0 - 1)).toNat ((0, [], ()), 0, 0, ())).1.2.1,
 ()), ((v1.getD v0.toNat ((0, [], ()), 0, 0, ())).1.1, (v1.getD v0.toNat ((0, [], ()), 0, 0, ())).1.2.1, ()), ())) fun r => sel (!decide (r.1 = (-1 : Int))) (some (Sum.inr (false, ()))) (G74_2 k j (IntKind.i64.wrap (v0 + 1), v1,
 ()))) none) none) (G74_2 k j (IntKind.i64.wrap (v0 + 1), v1, ()))))))) none) none) (some (Sum.inl (v1, ()))) := by kernel_rfl
noncomputable def G74 (k : Nat) (v : (List ((Int × List UInt8 × Unit) × Int × Int × Unit) × Unit) × Unit) : Option (Bool × Unit) := F74 k v
theorem G74_eq (k : Nat) (v0 : List ((Int × List UInt8 × Unit) × Int × Int × Unit)) : G74 k ((v0, ()), ()) = ocall (G74_2 k k (0, v0, ())) fun e => esel e (fun v => some (decide (Int.ofNat v.1.length < 257), ())) fun e => some (e.1, ()) := by kernel_rfl
noncomputable def G138_4 (k : Nat) (j : Nat) (v : List ((Int × List UInt8 × Unit) × Int × Int × Unit) × Bool × Int × List ((Int × List UInt8 × Unit) × Int × Int × Unit) × Int × List UInt8 × Int × Int × List ((Int × List UInt8 × Unit) × Int × Int × Unit) × Unit) : Option (List ((Int × List
 UInt8 × Unit) × Int × Int × Unit) × Bool × Int × List UInt8 × Int × Int × List ((Int × List UInt8 × Unit) × Int × Int × Unit) × Unit) := F138_4 k j v
theorem G138_4_eq (k : Nat) (j : Nat) (v0 : List ((Int × List UInt8 × Unit) × Int × Int × Unit)) (v1 : Bool) (v2 : Int) (v3 : List ((Int × List UInt8 × Unit) × Int × Int × Unit)) (v4 : Int) (v5 : List UInt8) (v6 v7 : Int) (v8 : List ((Int × List UInt8 × Unit) × Int × Int × Unit)) : G138_4 k (j
 + 1) (v0, v1, v2, v3, v4, v5, v6, v7, v8, ()) = sel (decide (v2 < Int.ofNat v3.length)) (sel (decide (0 ≤ v2)) (sel (decide (v2 < Int.ofNat v3.length)) (ocall (G30 k ((v4, v5, ()), ((v3.getD v2.toNat ((0, [], ()), 0, 0, ())).1.1, (v3.getD v2.toNat ((0, [],
 ()), 0, 0, ())).1.2.1, ()), ())) fun r => sel (decide (r.1 ≤ 0)) (sel (!v1) (sel (decide ((v0.length + 1) * 40 ≤ 140737488355328)) (sel (!decide (r.1 = 0)) (sel (decide (0 ≤ v2)) (sel (decide (v2 < Int.ofNat v3.length)) (sel (decide (((v0 ++ [((v4, v5, ()),
 v6, v7, ())]).length + 1) * 40 ≤ 140737488355328)) (G138_4 k j (v0 ++ [((v4, v5, ()), v6, v7, ())] ++ [(((v3.getD v2.toNat ((0, [], ()), 0, 0, ())).1.1, (v3.getD v2.toNat ((0, [], ()), 0, 0, ())).1.2.1, ()), (v3.getD v2.toNat ((0, [],
 ()), 0, 0, ())).2.1, (v3.getD v2.toNat ((0, [], ()), 0, 0, ())).2.2.1, ())], true, IntKind.i64.wrap (v2 + 1), v3, v4, v5, v6, v7, v8, ())) none) none) none) (G138_4 k j (v0 ++ [((v4, v5, ()), v6, v7, ())], true, IntKind.i64.wrap (v2 +
 1), v3, v4, v5, v6, v7, v8, ()))) none) (sel (!decide (r.1 = 0)) (sel (decide (0 ≤ v2)) (sel (decide (v2 < Int.ofNat v3.length)) (sel (decide ((v0.length + 1) * 40 ≤ 140737488355328)) (G138_4 k j (v0 ++ [(((v3.getD v2.toNat ((0, [], ()), 0, 0, ())).1.1, (v3.getD v2.toNat ((0,
 [], ()), 0, 0, ())).1.2.1, ()), (v3.getD v2.toNat ((0, [], ()), 0, 0, ())).2.1, (v3.getD v2.toNat ((0, [], ()), 0, 0, ())).2.2.1, ())], v1, IntKind.i64.wrap (v2 + 1), v3, v4, v5, v6, v7, v8, ())) none) none) none) (G138_4 k j
 (v0, v1, IntKind.i64.wrap (v2 + 1), v3, v4, v5, v6, v7, v8, ())))) (sel (!decide (r.1 = 0)) (sel (decide (0 ≤ v2)) (sel (decide (v2 < Int.ofNat v3.length)) (sel (decide ((v0.length + 1) * 40 ≤ 140737488355328)) (G138_4 k j (v0 ++ [(((v3.getD v2.toNat ((0, [], ()), 0, 0,
 ())).1.1, (v3.getD v2.toNat ((0, [], ()), 0, 0, ())).1.2.1, ()), (v3.getD v2.toNat ((0, [], ()), 0, 0, ())).2.1, (v3.getD v2.toNat ((0, [], ()), 0, 0, ())).2.2.1, ())], v1, IntKind.i64.wrap (v2 + 1), v3, v4, v5, v6, v7, v8,
 ())) none) none) none) (G138_4 k j (v0, v1, IntKind.i64.wrap (v2 + 1), v3, v4, v5, v6, v7, v8, ())))) none) none) (some (v0, v1, v4, v5, v6, v7, v8, ())) := by kernel_rfl
noncomputable def G138 (k : Nat) (v : (List ((Int × List UInt8 × Unit) × Int × Int × Unit) × Unit) × ((Int × List UInt8 × Unit) × Int × Int × Unit) × Unit) : Option ((List ((Int × List UInt8 × Unit) × Int × Int × Unit) × Unit) × Unit) := F138 k v
theorem G138_eq (k : Nat) (v0 : List ((Int × List UInt8 × Unit) × Int × Int × Unit)) (v1 : Int) (v2 : List UInt8) (v3 v4 : Int) : G138 k ((v0, ()), ((v1, v2, ()), v3, v4, ()), ()) = ocall (G138_4 k k ([], false, 0, v0, v1, v2, v3, v4, [], ())) fun e => sel
 (!e.2.1) (sel (decide ((e.1.length + 1) * 40 ≤ 140737488355328)) (some ((e.1 ++ [((e.2.2.1, e.2.2.2.1, ()), e.2.2.2.2.1, e.2.2.2.2.2.1, ())], ()), ())) none) (some ((e.1, ()), ())) := by kernel_rfl
noncomputable def G73 (k : Nat) (v : (List ((Int × List UInt8 × Unit) × Int × Int × Unit) × Unit) × (Int × List UInt8 × Int × Int × List UInt8 × List UInt8 × Unit) × Bool × Unit) : Option (((List ((Int × List UInt8 × Unit) × Int × Int × Unit) × Unit) × (Int × List UInt8 × Int × Int × List
 UInt8 × List UInt8 × Unit) × Int × Unit) × Unit) := F73 k v
theorem G73_eq (k : Nat) (v0 : List ((Int × List UInt8 × Unit) × Int × Int × Unit)) (v1 : Int) (v2 : List UInt8) (v3 v4 : Int) (v5 v6 : List UInt8) (v7 : Bool) : G73 k ((v0, ()), (v1, v2, v3, v4, v5, v6, ()), v7, ()) = ocall (G74 k ((v0, ()), ())) fun r =>
 sel (!r.1) (some (((v0, ()), (0, [], 0, 0, [], [], ()), 1, ()), ())) (ocall (G36 k ((v1, v2, v3, v4, v5, v6, ()), ())) fun r => sel (!r.1) (some (((v0, ()), (0, [], 0, 0, [], [], ()), 1, ()), ())) (sel (!decide (v1 = 1))
 (sel (!decide (v1 = 5)) (sel (!decide (v1 = 6)) (some (((v0, ()), (0, [], 0, 0, [], [], ()), 3, ()), ())) (ocall (G71 k ((v0, ()), (v4, v5, ()), ())) fun r => sel (decide (v1 = 1)) (sel (decide (r.1 < 0)) (sel (decide (Int.ofNat v0.length =
 256)) (some (((v0, ()), (2, [], 0, v4, v5, [57, 54], ()), 0, ()), ())) (sel (!decide (v1 = 1)) (sel (decide (0 ≤ r.1)) (sel (decide (0 ≤ r.1)) (sel (decide (r.1 < Int.ofNat v0.length)) (ocall (G138 k ((v0, ()), ((v4, v5, ()), (v0.getD r.1.toNat ((0,
 [], ()), 0, 0, ())).2.1, 3, ()), ())) fun r => some (((r.1.1, ()), (2, [], 0, v4, v5, [48, 48], ()), 0, ()), ())) none) none) (ocall (G138 k ((v0, ()), ((v4, v5, ()), v3, 3, ()), ())) fun r => some
 (((r.1.1, ()), (2, [], 0, v4, v5, [48, 48], ()), 0, ()), ()))) (sel (decide (0 ≤ r.1)) (sel (decide (0 ≤ r.1)) (sel (decide (r.1 < Int.ofNat v0.length)) (sel (!decide ((v0.getD r.1.toNat ((0, [], ()), 0, 0, ())).2.2.1 = 1)) (some (((v0, ()),
 (2, [], 0, v4, v5, [48, 53], ()), 0, ()), ())) (sel (decide (0 ≤ r.1)) (sel (decide (r.1 < Int.ofNat v0.length)) (sel (!decide ((v0.getD r.1.toNat ((0, [], ()), 0, 0, ())).2.1 = v3)) (some (((v0, ()), (2, [], 0, v4, v5, [57, 52], ()), 0,
 ()), ())) (some (((v0, ()), (2, [], 0, v4, v5, [48, 48], ()), 0, ()), ()))) none) none)) none) none) (sel v7 (ocall (G138 k ((v0, ()), ((v4, v5, ()), v3, 1, ()), ())) fun r => some (((r.1.1, ()), (2, [], 0, v4,
 v5, [48, 48], ()), 0, ()), ())) (ocall (G138 k ((v0, ()), ((v4, v5, ()), v3, 2, ()), ())) fun r => some (((r.1.1, ()), (2, [], 0, v4, v5, [48, 53], ()), 0, ()), ())))))) (sel (!decide (v1 = 1)) (sel (decide (0 ≤
 r.1)) (sel (decide (0 ≤ r.1)) (sel (decide (r.1 < Int.ofNat v0.length)) (ocall (G138 k ((v0, ()), ((v4, v5, ()), (v0.getD r.1.toNat ((0, [], ()), 0, 0, ())).2.1, 3, ()), ())) fun r => some (((r.1.1, ()), (2, [], 0, v4, v5, [48, 48],
 ()), 0, ()), ())) none) none) (ocall (G138 k ((v0, ()), ((v4, v5, ()), v3, 3, ()), ())) fun r => some (((r.1.1, ()), (2, [], 0, v4, v5, [48, 48], ()), 0, ()), ()))) (sel (decide (0 ≤ r.1)) (sel (decide (0 ≤ r.1))
 (sel (decide (r.1 < Int.ofNat v0.length)) (sel (!decide ((v0.getD r.1.toNat ((0, [], ()), 0, 0, ())).2.2.1 = 1)) (some (((v0, ()), (2, [], 0, v4, v5, [48, 53], ()), 0, ()), ())) (sel (decide (0 ≤ r.1)) (sel (decide (r.1 < Int.ofNat v0.length)) (sel
 (!decide ((v0.getD r.1.toNat ((0, [], ()), 0, 0, ())).2.1 = v3)) (some (((v0, ()), (2, [], 0, v4, v5, [57, 52], ()), 0, ()), ())) (some (((v0, ()), (2, [], 0, v4, v5, [48, 48], ()), 0, ()), ()))) none) none)) none) none)
 (sel v7 (ocall (G138 k ((v0, ()), ((v4, v5, ()), v3, 1, ()), ())) fun r => some (((r.1.1, ()), (2, [], 0, v4, v5, [48, 48], ()), 0, ()), ())) (ocall (G138 k ((v0, ()), ((v4, v5, ()), v3, 2, ()), ())) fun
 r => some (((r.1.1, ()), (2, [], 0, v4, v5, [48, 53], ()), 0, ()), ())))))) (sel (decide (r.1 < 0)) (sel (decide (Int.ofNat v0.length = 256)) (some (((v0, ()), (7, [], 0, v4, v5, [57, 54], ()), 0, ()), ())) (sel (!decide (v1 = 1)) (sel
 (decide (0 ≤ r.1)) (sel (decide (0 ≤ r.1)) (sel (decide (r.1 < Int.ofNat v0.length)) (ocall (G138 k ((v0, ()), ((v4, v5, ()), (v0.getD r.1.toNat ((0, [], ()), 0, 0, ())).2.1, 3, ()), ())) fun r => some (((r.1.1, ()), (7, [], 0, v4, v5, [48,
 48], ()), 0, ()), ())) none) none) (ocall (G138 k ((v0, ()), ((v4, v5, ()), v3, 3, ()), ())) fun r => some (((r.1.1, ()), (7, [], 0, v4, v5, [48, 48], ()), 0, ()), ()))) (sel (decide (0 ≤ r.1)) (sel (decide (0 ≤
 r.1)) (sel (decide (r.1 < Int.ofNat v0.length)) (sel (!decide ((v0.getD r.1.toNat ((0, [], ()), 0, 0, ())).2.2.1 = 1)) (some (((v0, ()), (7, [], 0, v4, v5, [48, 53], ()), 0, ()), ())) (sel (decide (0 ≤ r.1)) (sel (decide (r.1 < Int.ofNat v0.length))
 (sel (!decide ((v0.getD r.1.toNat ((0, [], ()), 0, 0, ())).2.1 = v3)) (some (((v0, ()), (7, [], 0, v4, v5, [57, 52], ()), 0, ()), ())) (some (((v0, ()), (7, [], 0, v4, v5, [48, 48], ()), 0, ()), ()))) none) none)) none)
 none) (sel v7 (ocall (G138 k ((v0, ()), ((v4, v5, ()), v3, 1, ()), ())) fun r => some (((r.1.1, ()), (7, [], 0, v4, v5, [48, 48], ()), 0, ()), ())) (ocall (G138 k ((v0, ()), ((v4, v5, ()), v3, 2, ()),
 ())) fun r => some (((r.1.1, ()), (7, [], 0, v4, v5, [48, 53], ()), 0, ()), ())))))) (sel (!decide (v1 = 1)) (sel (decide (0 ≤ r.1)) (sel (decide (0 ≤ r.1)) (sel (decide (r.1 < Int.ofNat v0.length)) (ocall (G138 k ((v0, ()), ((v4, v5, ()),
 (v0.getD r.1.toNat ((0, [], ()), 0, 0, ())).2.1, 3, ()), ())) fun r => some (((r.1.1, ()), (7, [], 0, v4, v5, [48, 48], ()), 0, ()), ())) none) none) (ocall (G138 k ((v0, ()), ((v4, v5, ()), v3, 3, ()),
 ())) fun r => some (((r.1.1, ()), (7, [], 0, v4, v5, [48, 48], ()), 0, ()), ()))) (sel (decide (0 ≤ r.1)) (sel (decide (0 ≤ r.1)) (sel (decide (r.1 < Int.ofNat v0.length)) (sel (!decide ((v0.getD r.1.toNat ((0, [], ()), 0, 0, ())).2.2.1 = 1))
 (some (((v0, ()), (7, [], 0, v4, v5, [48, 53], ()), 0, ()), ())) (sel (decide (0 ≤ r.1)) (sel (decide (r.1 < Int.ofNat v0.length)) (sel (!decide ((v0.getD r.1.toNat ((0, [], ()), 0, 0, ())).2.1 = v3)) (some (((v0, ()), (7, [], 0, v4, v5, [57,
 52], ()), 0, ()), ())) (some (((v0, ()), (7, [], 0, v4, v5, [48, 48], ()), 0, ()), ()))) none) none)) none) none) (sel v7 (ocall (G138 k ((v0, ()), ((v4, v5, ()), v3, 1, ()), ())) fun r => some (((r.1.1,
 ()), (7, [], 0, v4, v5, [48, 48], ()), 0, ()), ())) (ocall (G138 k ((v0, ()), ((v4, v5, ()), v3, 2, ()), ())) fun r => some (((r.1.1, ()), (7, [], 0, v4, v5, [48, 53], ()), 0, ()), ())))))))) (ocall (G71
 k ((v0, ()), (v4, v5, ()), ())) fun r => sel (decide (v1 = 1)) (sel (decide (r.1 < 0)) (sel (decide (Int.ofNat v0.length = 256)) (some (((v0, ()), (2, [], 0, v4, v5, [57, 54], ()), 0, ()), ())) (sel (!decide (v1 = 1)) (sel (decide (0 ≤ r.1))
 (sel (decide (0 ≤ r.1)) (sel (decide (r.1 < Int.ofNat v0.length)) (ocall (G138 k ((v0, ()), ((v4, v5, ()), (v0.getD r.1.toNat ((0, [], ()), 0, 0, ())).2.1, 3, ()), ())) fun r => some (((r.1.1, ()), (2, [], 0, v4, v5, [48, 48], ()), 0,
 ()), ())) none) none) (ocall (G138 k ((v0, ()), ((v4, v5, ()), v3, 3, ()), ())) fun r => some (((r.1.1, ()), (2, [], 0, v4, v5, [48, 48], ()), 0, ()), ()))) (sel (decide (0 ≤ r.1)) (sel (decide (0 ≤ r.1)) (sel (decide
 (r.1 < Int.ofNat v0.length)) (sel (!decide ((v0.getD r.1.toNat ((0, [], ()), 0, 0, ())).2.2.1 = 1)) (some (((v0, ()), (2, [], 0, v4, v5, [48, 53], ()), 0, ()), ())) (sel (decide (0 ≤ r.1)) (sel (decide (r.1 < Int.ofNat v0.length)) (sel (!decide
 ((v0.getD r.1.toNat ((0, [], ()), 0, 0, ())).2.1 = v3)) (some (((v0, ()), (2, [], 0, v4, v5, [57, 52], ()), 0, ()), ())) (some (((v0, ()), (2, [], 0, v4, v5, [48, 48], ()), 0, ()), ()))) none) none)) none) none) (sel v7
 (ocall (G138 k ((v0, ()), ((v4, v5, ()), v3, 1, ()), ())) fun r => some (((r.1.1, ()), (2, [], 0, v4, v5, [48, 48], ()), 0, ()), ())) (ocall (G138 k ((v0, ()), ((v4, v5, ()), v3, 2, ()), ())) fun r =>
 some (((r.1.1, ()), (2, [], 0, v4, v5, [48, 53], ()), 0, ()), ())))))) (sel (!decide (v1 = 1)) (sel (decide (0 ≤ r.1)) (sel (decide (0 ≤ r.1)) (sel (decide (r.1 < Int.ofNat v0.length)) (ocall (G138 k ((v0, ()), ((v4, v5, ()), (v0.getD r.1.toNat ((0,
 [], ()), 0, 0, ())).2.1, 3, ()), ())) fun r => some (((r.1.1, ()), (2, [], 0, v4, v5, [48, 48], ()), 0, ()), ())) none) none) (ocall (G138 k ((v0, ()), ((v4, v5, ()), v3, 3, ()), ())) fun r => some
 (((r.1.1, ()), (2, [], 0, v4, v5, [48, 48], ()), 0, ()), ()))) (sel (decide (0 ≤ r.1)) (sel (decide (0 ≤ r.1)) (sel (decide (r.1 < Int.ofNat v0.length)) (sel (!decide ((v0.getD r.1.toNat ((0, [], ()), 0, 0, ())).2.2.1 = 1)) (some (((v0, ()),
 (2, [], 0, v4, v5, [48, 53], ()), 0, ()), ())) (sel (decide (0 ≤ r.1)) (sel (decide (r.1 < Int.ofNat v0.length)) (sel (!decide ((v0.getD r.1.toNat ((0, [], ()), 0, 0, ())).2.1 = v3)) (some (((v0, ()), (2, [], 0, v4, v5, [57, 52], ()), 0,
 ()), ())) (some (((v0, ()), (2, [], 0, v4, v5, [48, 48], ()), 0, ()), ()))) none) none)) none) none) (sel v7 (ocall (G138 k ((v0, ()), ((v4, v5, ()), v3, 1, ()), ())) fun r => some (((r.1.1, ()), (2, [], 0, v4,
 v5, [48, 48], ()), 0, ()), ())) (ocall (G138 k ((v0, ()), ((v4, v5, ()), v3, 2, ()), ())) fun r => some (((r.1.1, ()), (2, [], 0, v4, v5, [48, 53], ()), 0, ()), ())))))) (sel (decide (r.1 < 0)) (sel (decide
 (Int.ofNat v0.length = 256)) (some (((v0, ()), (7, [], 0, v4, v5, [57, 54], ()), 0, ()), ())) (sel (!decide (v1 = 1)) (sel (decide (0 ≤ r.1)) (sel (decide (0 ≤ r.1)) (sel (decide (r.1 < Int.ofNat v0.length)) (ocall (G138 k ((v0, ()), ((v4, v5, ()),
 (v0.getD r.1.toNat ((0, [], ()), 0, 0, ())).2.1, 3, ()), ())) fun r => some (((r.1.1, ()), (7, [], 0, v4, v5, [48, 48], ()), 0, ()), ())) none) none) (ocall (G138 k ((v0, ()), ((v4, v5, ()), v3, 3, ()),
 ())) fun r => some (((r.1.1, ()), (7, [], 0, v4, v5, [48, 48], ()), 0, ()), ()))) (sel (decide (0 ≤ r.1)) (sel (decide (0 ≤ r.1)) (sel (decide (r.1 < Int.ofNat v0.length)) (sel (!decide ((v0.getD r.1.toNat ((0, [], ()), 0, 0, ())).2.2.1 = 1))
 (some (((v0, ()), (7, [], 0, v4, v5, [48, 53], ()), 0, ()), ())) (sel (decide (0 ≤ r.1)) (sel (decide (r.1 < Int.ofNat v0.length)) (sel (!decide ((v0.getD r.1.toNat ((0, [], ()), 0, 0, ())).2.1 = v3)) (some (((v0, ()), (7, [], 0, v4, v5, [57,
 52], ()), 0, ()), ())) (some (((v0, ()), (7, [], 0, v4, v5, [48, 48], ()), 0, ()), ()))) none) none)) none) none) (sel v7 (ocall (G138 k ((v0, ()), ((v4, v5, ()), v3, 1, ()), ())) fun r => some (((r.1.1,
 ()), (7, [], 0, v4, v5, [48, 48], ()), 0, ()), ())) (ocall (G138 k ((v0, ()), ((v4, v5, ()), v3, 2, ()), ())) fun r => some (((r.1.1, ()), (7, [], 0, v4, v5, [48, 53], ()), 0, ()), ())))))) (sel (!decide
 (v1 = 1)) (sel (decide (0 ≤ r.1)) (sel (decide (0 ≤ r.1)) (sel (decide (r.1 < Int.ofNat v0.length)) (ocall (G138 k ((v0, ()), ((v4, v5, ()), (v0.getD r.1.toNat ((0, [], ()), 0, 0, ())).2.1, 3, ()), ())) fun r => some (((r.1.1, ()), (7, [], 0,
 v4, v5, [48, 48], ()), 0, ()), ())) none) none) (ocall (G138 k ((v0, ()), ((v4, v5, ()), v3, 3, ()), ())) fun r => some (((r.1.1, ()), (7, [], 0, v4, v5, [48, 48], ()), 0, ()), ()))) (sel (decide (0 ≤ r.1)) (sel
 (decide (0 ≤ r.1)) (sel (decide (r.1 < Int.ofNat v0.length)) (sel (!decide ((v0.getD r.1.toNat ((0, [], ()), 0, 0, ())).2.2.1 = 1)) (some (((v0, ()), (7, [], 0, v4, v5, [48, 53], ()), 0, ()), ())) (sel (decide (0 ≤ r.1)) (sel (decide (r.1 < Int.ofNat
 v0.length)) (sel (!decide ((v0.getD r.1.toNat ((0, [], ()), 0, 0, ())).2.1 = v3)) (some (((v0, ()), (7, [], 0, v4, v5, [57, 52], ()), 0, ()), ())) (some (((v0, ()), (7, [], 0, v4, v5, [48, 48], ()), 0, ()), ()))) none)
 none)) none) none) (sel v7 (ocall (G138 k ((v0, ()), ((v4, v5, ()), v3, 1, ()), ())) fun r => some (((r.1.1, ()), (7, [], 0, v4, v5, [48, 48], ()), 0, ()), ())) (ocall (G138 k ((v0, ()), ((v4, v5, ()), v3, 2,
 ()), ())) fun r => some (((r.1.1, ()), (7, [], 0, v4, v5, [48, 53], ()), 0, ()), ())))))))) (ocall (G71 k ((v0, ()), (v4, v5, ()), ())) fun r => sel (decide (v1 = 1)) (sel (decide (r.1 < 0)) (sel (decide (Int.ofNat v0.length =
 256)) (some (((v0, ()), (2, [], 0, v4, v5, [57, 54], ()), 0, ()), ())) (sel (!decide (v1 = 1)) (sel (decide (0 ≤ r.1)) (sel (decide (0 ≤ r.1)) (sel (decide (r.1 < Int.ofNat v0.length)) (ocall (G138 k ((v0, ()), ((v4, v5, ()), (v0.getD r.1.toNat ((0,
 [], ()), 0, 0, ())).2.1, 3, ()), ())) fun r => some (((r.1.1, ()), (2, [], 0, v4, v5, [48, 48], ()), 0, ()), ())) none) none) (ocall (G138 k ((v0, ()), ((v4, v5, ()), v3, 3, ()), ())) fun r => some
 (((r.1.1, ()), (2, [], 0, v4, v5, [48, 48], ()), 0, ()), ()))) (sel (decide (0 ≤ r.1)) (sel (decide (0 ≤ r.1)) (sel (decide (r.1 < Int.ofNat v0.length)) (sel (!decide ((v0.getD r.1.toNat ((0, [], ()), 0, 0, ())).2.2.1 = 1)) (some (((v0, ()),
 (2, [], 0, v4, v5, [48, 53], ()), 0, ()), ())) (sel (decide (0 ≤ r.1)) (sel (decide (r.1 < Int.ofNat v0.length)) (sel (!decide ((v0.getD r.1.toNat ((0, [], ()), 0, 0, ())).2.1 = v3)) (some (((v0, ()), (2, [], 0, v4, v5, [57, 52], ()), 0,
 ()), ())) (some (((v0, ()), (2, [], 0, v4, v5, [48, 48], ()), 0, ()), ()))) none) none)) none) none) (sel v7 (ocall (G138 k ((v0, ()), ((v4, v5, ()), v3, 1, ()), ())) fun r => some (((r.1.1, ()), (2, [], 0, v4,
 v5, [48, 48], ()), 0, ()), ())) (ocall (G138 k ((v0, ()), ((v4, v5, ()), v3, 2, ()), ())) fun r => some (((r.1.1, ()), (2, [], 0, v4, v5, [48, 53], ()), 0, ()), ())))))) (sel (!decide (v1 = 1)) (sel (decide (0 ≤
 r.1)) (sel (decide (0 ≤ r.1)) (sel (decide (r.1 < Int.ofNat v0.length)) (ocall (G138 k ((v0, ()), ((v4, v5, ()), (v0.getD r.1.toNat ((0, [], ()), 0, 0, ())).2.1, 3, ()), ())) fun r => some (((r.1.1, ()), (2, [], 0, v4, v5, [48, 48],
 ()), 0, ()), ())) none) none) (ocall (G138 k ((v0, ()), ((v4, v5, ()), v3, 3, ()), ())) fun r => some (((r.1.1, ()), (2, [], 0, v4, v5, [48, 48], ()), 0, ()), ()))) (sel (decide (0 ≤ r.1)) (sel (decide (0 ≤ r.1))
 (sel (decide (r.1 < Int.ofNat v0.length)) (sel (!decide ((v0.getD r.1.toNat ((0, [], ()), 0, 0, ())).2.2.1 = 1)) (some (((v0, ()), (2, [], 0, v4, v5, [48, 53], ()), 0, ()), ())) (sel (decide (0 ≤ r.1)) (sel (decide (r.1 < Int.ofNat v0.length)) (sel
 (!decide ((v0.getD r.1.toNat ((0, [], ()), 0, 0, ())).2.1 = v3)) (some (((v0, ()), (2, [], 0, v4, v5, [57, 52], ()), 0, ()), ())) (some (((v0, ()), (2, [], 0, v4, v5, [48, 48], ()), 0, ()), ()))) none) none)) none) none)
 (sel v7 (ocall (G138 k ((v0, ()), ((v4, v5, ()), v3, 1, ()), ())) fun r => some (((r.1.1, ()), (2, [], 0, v4, v5, [48, 48], ()), 0, ()), ())) (ocall (G138 k ((v0, ()), ((v4, v5, ()), v3, 2, ()), ())) fun
 r => some (((r.1.1, ()), (2, [], 0, v4, v5, [48, 53], ()), 0, ()), ())))))) (sel (decide (r.1 < 0)) (sel (decide (Int.ofNat v0.length = 256)) (some (((v0, ()), (7, [], 0, v4, v5, [57, 54], ()), 0, ()), ())) (sel (!decide (v1 = 1)) (sel
 (decide (0 ≤ r.1)) (sel (decide (0 ≤ r.1)) (sel (decide (r.1 < Int.ofNat v0.length)) (ocall (G138 k ((v0, ()), ((v4, v5, ()), (v0.getD r.1.toNat ((0, [], ()), 0, 0, ())).2.1, 3, ()), ())) fun r => some (((r.1.1, ()), (7, [], 0, v4, v5, [48,
 48], ()), 0, ()), ())) none) none) (ocall (G138 k ((v0, ()), ((v4, v5, ()), v3, 3, ()), ())) fun r => some (((r.1.1, ()), (7, [], 0, v4, v5, [48, 48], ()), 0, ()), ()))) (sel (decide (0 ≤ r.1)) (sel (decide (0 ≤
 r.1)) (sel (decide (r.1 < Int.ofNat v0.length)) (sel (!decide ((v0.getD r.1.toNat ((0, [], ()), 0, 0, ())).2.2.1 = 1)) (some (((v0, ()), (7, [], 0, v4, v5, [48, 53], ()), 0, ()), ())) (sel (decide (0 ≤ r.1)) (sel (decide (r.1 < Int.ofNat v0.length))
 (sel (!decide ((v0.getD r.1.toNat ((0, [], ()), 0, 0, ())).2.1 = v3)) (some (((v0, ()), (7, [], 0, v4, v5, [57, 52], ()), 0, ()), ())) (some (((v0, ()), (7, [], 0, v4, v5, [48, 48], ()), 0, ()), ()))) none) none)) none)
 none) (sel v7 (ocall (G138 k ((v0, ()), ((v4, v5, ()), v3, 1, ()), ())) fun r => some (((r.1.1, ()), (7, [], 0, v4, v5, [48, 48], ()), 0, ()), ())) (ocall (G138 k ((v0, ()), ((v4, v5, ()), v3, 2, ()),
 ())) fun r => some (((r.1.1, ()), (7, [], 0, v4, v5, [48, 53], ()), 0, ()), ())))))) (sel (!decide (v1 = 1)) (sel (decide (0 ≤ r.1)) (sel (decide (0 ≤ r.1)) (sel (decide (r.1 < Int.ofNat v0.length)) (ocall (G138 k ((v0, ()), ((v4, v5, ()),
 (v0.getD r.1.toNat ((0, [], ()), 0, 0, ())).2.1, 3, ()), ())) fun r => some (((r.1.1, ()), (7, [], 0, v4, v5, [48, 48], ()), 0, ()), ())) none) none) (ocall (G138 k ((v0, ()), ((v4, v5, ()), v3, 3, ()),
 ())) fun r => some (((r.1.1, ()), (7, [], 0, v4, v5, [48, 48], ()), 0, ()), ()))) (sel (decide (0 ≤ r.1)) (sel (decide (0 ≤ r.1)) (sel (decide (r.1 < Int.ofNat v0.length)) (sel (!decide ((v0.getD r.1.toNat ((0, [], ()), 0, 0, ())).2.2.1 = 1))
 (some (((v0, ()), (7, [], 0, v4, v5, [48, 53], ()), 0, ()), ())) (sel (decide (0 ≤ r.1)) (sel (decide (r.1 < Int.ofNat v0.length)) (sel (!decide ((v0.getD r.1.toNat ((0, [], ()), 0, 0, ())).2.1 = v3)) (some (((v0, ()), (7, [], 0, v4, v5, [57,
 52], ()), 0, ()), ())) (some (((v0, ()), (7, [], 0, v4, v5, [48, 48], ()), 0, ()), ()))) none) none)) none) none) (sel v7 (ocall (G138 k ((v0, ()), ((v4, v5, ()), v3, 1, ()), ())) fun r => some (((r.1.1,
 ()), (7, [], 0, v4, v5, [48, 48], ()), 0, ()), ())) (ocall (G138 k ((v0, ()), ((v4, v5, ()), v3, 2, ()), ())) fun r => some (((r.1.1, ()), (7, [], 0, v4, v5, [48, 53], ()), 0, ()), ()))))))))) := by
 kernel_rfl
noncomputable def G75_3 (k : Nat) (j : Nat) (v : Int × Int × Int × List ((Int × List UInt8 × Unit) × Int × Int × Unit) × Unit) : Option (Int × Unit) := F75_3 k j v
theorem G75_3_eq (k : Nat) (j : Nat) (v0 v1 v2 : Int) (v3 : List ((Int × List UInt8 × Unit) × Int × Int × Unit)) : G75_3 k (j + 1) (v0, v1, v2, v3, ()) = sel (decide (v2 < Int.ofNat v3.length)) (sel (decide (0 ≤ v2)) (sel (decide (v2 < Int.ofNat v3.length)) (sel (decide ((v3.getD v2.toNat
 ((0, [], ()), 0, 0, ())).2.2.1 = v0)) (sel (decide (0 ≤ v2)) (sel (decide (v2 < Int.ofNat v3.length)) (G75_3 k j (v0, IntKind.u64.wrap (v1 + (v3.getD v2.toNat ((0, [], ()), 0, 0, ())).2.1), IntKind.i64.wrap (v2 + 1), v3, ())) none) none) (G75_3 k j (v0, v1,
 IntKind.i64.wrap (v2 + 1), v3, ()))) none) none) (some (v1, ())) := by kernel_rfl
noncomputable def G75 (k : Nat) (v : (List ((Int × List UInt8 × Unit) × Int × Int × Unit) × Unit) × Int × Unit) : Option (Int × Unit) := F75 k v
theorem G75_eq (k : Nat) (v0 : List ((Int × List UInt8 × Unit) × Int × Int × Unit)) (v1 : Int) : G75 k ((v0, ()), v1, ()) = ocall (G75_3 k k (v1, 0, 0, v0, ())) fun e => some (e.1, ()) := by kernel_rfl
noncomputable def G77_4 (k : Nat) (j : Nat) (v : Int × List ((Int × List UInt8 × Unit) × Int × Int × Unit) × List ((Int × List UInt8 × Unit) × Int × Int × Unit) × Unit) : Option (Unit ⊕ Bool × Unit) := F77_4 k j v
theorem G77_4_eq (k : Nat) (j : Nat) (v0 : Int) (v1 v2 : List ((Int × List UInt8 × Unit) × Int × Int × Unit)) : G77_4 k (j + 1) (v0, v1, v2, ()) = sel (decide (v0 < Int.ofNat v1.length)) (sel (decide (0 ≤ v0)) (sel (decide (v0 < Int.ofNat v1.length)) (sel (decide (0 ≤ v0)) (sel (decide (v0
 < Int.ofNat v2.length)) (sel (!(sameI (v1.getD v0.toNat ((0, [], ()), 0, 0, ())).1.1 (v2.getD v0.toNat ((0, [], ()), 0, 0, ())).1.1 && (sameS (v1.getD v0.toNat ((0, [], ()), 0, 0, ())).1.2.1 (v2.getD v0.toNat ((0, [], ()), 0, 0,
 ())).1.2.1 && true) && (sameI (v1.getD v0.toNat ((0, [], ()), 0, 0, ())).2.1 (v2.getD v0.toNat ((0, [], ()), 0, 0, ())).2.1 && (sameI (v1.getD v0.toNat ((0, [], ()), 0, 0, ())).2.2.1 (v2.getD v0.toNat ((0, [], ()), 0, 0,
 ())).2.2.1 && true)))) (some (Sum.inr (false, ()))) (G77_4 k j (IntKind.i64.wrap (v0 + 1), v1, v2, ()))) none) none) none) none) (some (Sum.inl ())) := by kernel_rfl
noncomputable def G77 (k : Nat) (v : (List ((Int × List UInt8 × Unit) × Int × Int × Unit) × Unit) × (List ((Int × List UInt8 × Unit) × Int × Int × Unit) × Unit) × Unit) : Option (Bool × Unit) := F77 k v
theorem G77_eq (k : Nat) (v0 v1 : List ((Int × List UInt8 × Unit) × Int × Int × Unit)) : G77 k ((v0, ()), (v1, ()), ()) = sel (!decide (Int.ofNat v0.length = Int.ofNat v1.length)) (some (false, ())) (ocall (G77_4 k k (0, v0, v1, ())) fun e => esel e (fun v
 => some (true, ())) fun e => some (e.1, ())) := by kernel_rfl
noncomputable def G14 (k : Nat) (v : (List ((Int × List UInt8 × Unit) × Int × Int × Unit) × Unit) × (Int × List UInt8 × Int × Int × List UInt8 × List UInt8 × Unit) × Bool × (Int × List UInt8 × Unit) × Unit) : Option (Bool × Unit) := F14 k v
theorem G14_eq (k : Nat) (v0 : List ((Int × List UInt8 × Unit) × Int × Int × Unit)) (v1 : Int) (v2 : List UInt8) (v3 v4 : Int) (v5 v6 : List UInt8) (v7 : Bool) (v8 : Int) (v9 : List UInt8) : G14 k ((v0, ()), (v1, v2, v3, v4, v5, v6, ()), v7, (v8, v9, ()), ()) =
 ocall (G68 k ()) fun r => sel (!r.1) (some (false, ())) (ocall (G69 k ((v0, ()), ())) fun r => sel (!r.1) (some (true, ())) (ocall (G24 k ((v1, v2, v3, v4, v5, v6, ()), ())) fun r => sel (!r.1) (some (true, ())) (ocall (G25 k ((v8, v9,
 ()), ())) fun r => sel (!r.1) (some (true, ())) (ocall (G70 k ((v0, ()), (v8, v9, ()), ())) fun r => ocall (G71 k ((v0, ()), (v8, v9, ()), ())) fun r_1 => sel (!r.2.1 == decide (0 ≤ r_1.1)) (some (false, ())) (sel r.2.1
 (sel (decide (0 ≤ r_1.1)) (sel (decide (r_1.1 < Int.ofNat v0.length)) (sel (!(sameI r.1.1.1 (v0.getD r_1.1.toNat ((0, [], ()), 0, 0, ())).1.1 && (sameS r.1.1.2.1 (v0.getD r_1.1.toNat ((0, [], ()), 0, 0, ())).1.2.1 && true) && (sameI r.1.2.1 (v0.getD r_1.1.toNat ((0,
 [], ()), 0, 0, ())).2.1 && (sameI r.1.2.2.1 (v0.getD r_1.1.toNat ((0, [], ()), 0, 0, ())).2.2.1 && true)))) (some (false, ())) (sel (!r.2.1) (sel (!(sameI r.1.1.1 0 && (sameS r.1.1.2.1 [] && true) && (sameI r.1.2.1 0 && (sameI r.1.2.2.1 0 && true)))) (some
 (false, ())) (ocall (G72 k ((v0, ()), (v1, v2, v3, v4, v5, v6, ()), v7, ())) fun r => ocall (G73 k ((v0, ()), (v1, v2, v3, v4, v5, v6, ()), v7, ())) fun r_2 => ocall (G74 k ((v0, ()), ())) fun r_3 => sel r_3.1 (ocall (G75 k
 ((v0, ()), 1, ())) fun r_4 => ocall (G75 k ((v0, ()), 3, ())) fun r_5 => ocall (G76 k ((v0, ()), ())) fun r_6 => ocall (G74 k ((v0, ()), ())) fun r_7 => sel (r_6.1 == r_7.1) (ocall (G77 k ((r.1.1, ()), (r_2.1.1.1, ()),
 ())) fun r_8 => sel r_8.1 (sel (sameI r.2.1.1 r_2.1.2.1.1 && (sameS r.2.1.2.1 r_2.1.2.1.2.1 && (sameI r.2.1.2.2.1 r_2.1.2.1.2.2.1 && (sameI r.2.1.2.2.2.1 r_2.1.2.1.2.2.2.1 && (sameS r.2.1.2.2.2.2.1 r_2.1.2.1.2.2.2.2.1 && (sameS r.2.1.2.2.2.2.2.1 r_2.1.2.1.2.2.2.2.2.1 && true)))))) (sel
 (decide (r.2.2.1 = r_2.1.2.2.1)) (ocall (G78 k ((v0, ()), ())) fun r => some (cSame r.1.1 r.1.2 (fltOf r_4.1) (fltOf r_5.1), ())) (some (false, ()))) (some (false, ()))) (some (false, ()))) (some (false, ()))) (ocall (G76 k ((v0, ()),
 ())) fun r_4 => ocall (G74 k ((v0, ()), ())) fun r_5 => sel (r_4.1 == r_5.1) (ocall (G77 k ((r.1.1, ()), (r_2.1.1.1, ()), ())) fun r_6 => sel r_6.1 (sel (sameI r.2.1.1 r_2.1.2.1.1 && (sameS r.2.1.2.1 r_2.1.2.1.2.1 && (sameI r.2.1.2.2.1 r_2.1.2.1.2.2.1
 && (sameI r.2.1.2.2.2.1 r_2.1.2.1.2.2.2.1 && (sameS r.2.1.2.2.2.2.1 r_2.1.2.1.2.2.2.2.1 && (sameS r.2.1.2.2.2.2.2.1 r_2.1.2.1.2.2.2.2.2.1 && true)))))) (sel (decide (r.2.2.1 = r_2.1.2.2.1)) (ocall (G78 k ((v0, ()), ())) fun r => some (cSame r.1.1 r.1.2 0 0, ())) (some (false,
 ()))) (some (false, ()))) (some (false, ()))) (some (false, ()))))) (ocall (G72 k ((v0, ()), (v1, v2, v3, v4, v5, v6, ()), v7, ())) fun r => ocall (G73 k ((v0, ()), (v1, v2, v3, v4, v5, v6, ()), v7, ())) fun r_2 => ocall
 (G74 k ((v0, ()), ())) fun r_3 => sel r_3.1 (ocall (G75 k ((v0, ()), 1, ())) fun r_4 => ocall (G75 k ((v0, ()), 3, ())) fun r_5 => ocall (G76 k ((v0, ()), ())) fun r_6 => ocall (G74 k ((v0, ()), ())) fun r_7 => sel
 (r_6.1 == r_7.1) (ocall (G77 k ((r.1.1, ()), (r_2.1.1.1, ()), ())) fun r_8 => sel r_8.1 (sel (sameI r.2.1.1 r_2.1.2.1.1 && (sameS r.2.1.2.1 r_2.1.2.1.2.1 && (sameI r.2.1.2.2.1 r_2.1.2.1.2.2.1 && (sameI r.2.1.2.2.2.1 r_2.1.2.1.2.2.2.1 && (sameS r.2.1.2.2.2.2.1
 r_2.1.2.1.2.2.2.2.1 && (sameS r.2.1.2.2.2.2.2.1 r_2.1.2.1.2.2.2.2.2.1 && true)))))) (sel (decide (r.2.2.1 = r_2.1.2.2.1)) (ocall (G78 k ((v0, ()), ())) fun r => some (cSame r.1.1 r.1.2 (fltOf r_4.1) (fltOf r_5.1), ())) (some (false, ()))) (some (false, ())))
 (some (false, ()))) (some (false, ()))) (ocall (G76 k ((v0, ()), ())) fun r_4 => ocall (G74 k ((v0, ()), ())) fun r_5 => sel (r_4.1 == r_5.1) (ocall (G77 k ((r.1.1, ()), (r_2.1.1.1, ()), ())) fun r_6 => sel r_6.1 (sel (sameI
 r.2.1.1 r_2.1.2.1.1 && (sameS r.2.1.2.1 r_2.1.2.1.2.1 && (sameI r.2.1.2.2.1 r_2.1.2.1.2.2.1 && (sameI r.2.1.2.2.2.1 r_2.1.2.1.2.2.2.1 && (sameS r.2.1.2.2.2.2.1 r_2.1.2.1.2.2.2.2.1 && (sameS r.2.1.2.2.2.2.2.1 r_2.1.2.1.2.2.2.2.2.1 && true)))))) (sel (decide (r.2.2.1 = r_2.1.2.2.1)) (ocall (G78 k
 ((v0, ()), ())) fun r => some (cSame r.1.1 r.1.2 0 0, ())) (some (false, ()))) (some (false, ()))) (some (false, ()))) (some (false, ())))))) none) none) (sel (!r.2.1) (sel (!(sameI r.1.1.1 0 && (sameS r.1.1.2.1 [] && true) && (sameI r.1.2.1 0
 && (sameI r.1.2.2.1 0 && true)))) (some (false, ())) (ocall (G72 k ((v0, ()), (v1, v2, v3, v4, v5, v6, ()), v7, ())) fun r => ocall (G73 k ((v0, ()), (v1, v2, v3, v4, v5, v6, ()), v7, ())) fun r_2 => ocall (G74 k ((v0, ()), ()))
 fun r_3 => sel r_3.1 (ocall (G75 k ((v0, ()), 1, ())) fun r_4 => ocall (G75 k ((v0, ()), 3, ())) fun r_5 => ocall (G76 k ((v0, ()), ())) fun r_6 => ocall (G74 k ((v0, ()), ())) fun r_7 => sel (r_6.1 == r_7.1) (ocall (G77 k ((r.1.1,
 ()), (r_2.1.1.1, ()), ())) fun r_8 => sel r_8.1 (sel (sameI r.2.1.1 r_2.1.2.1.1 && (sameS r.2.1.2.1 r_2.1.2.1.2.1 && (sameI r.2.1.2.2.1 r_2.1.2.1.2.2.1 && (sameI r.2.1.2.2.2.1 r_2.1.2.1.2.2.2.1 && (sameS r.2.1.2.2.2.2.1 r_2.1.2.1.2.2.2.2.1 && (sameS r.2.1.2.2.2.2.2.1
 r_2.1.2.1.2.2.2.2.2.1 && true)))))) (sel (decide (r.2.2.1 = r_2.1.2.2.1)) (ocall (G78 k ((v0, ()), ())) fun r => some (cSame r.1.1 r.1.2 (fltOf r_4.1) (fltOf r_5.1), ())) (some (false, ()))) (some (false, ()))) (some (false, ()))) (some (false,
 ()))) (ocall (G76 k ((v0, ()), ())) fun r_4 => ocall (G74 k ((v0, ()), ())) fun r_5 => sel (r_4.1 == r_5.1) (ocall (G77 k ((r.1.1, ()), (r_2.1.1.1, ()), ())) fun r_6 => sel r_6.1 (sel (sameI r.2.1.1 r_2.1.2.1.1 && (sameS r.2.1.2.1
 r_2.1.2.1.2.1 && (sameI r.2.1.2.2.1 r_2.1.2.1.2.2.1 && (sameI r.2.1.2.2.2.1 r_2.1.2.1.2.2.2.1 && (sameS r.2.1.2.2.2.2.1 r_2.1.2.1.2.2.2.2.1 && (sameS r.2.1.2.2.2.2.2.1 r_2.1.2.1.2.2.2.2.2.1 && true)))))) (sel (decide (r.2.2.1 = r_2.1.2.2.1)) (ocall (G78 k ((v0, ()), ())) fun r =>
 some (cSame r.1.1 r.1.2 0 0, ())) (some (false, ()))) (some (false, ()))) (some (false, ()))) (some (false, ()))))) (ocall (G72 k ((v0, ()), (v1, v2, v3, v4, v5, v6, ()), v7, ())) fun r => ocall (G73 k ((v0, ()), (v1, v2, v3,
 v4, v5, v6, ()), v7, ())) fun r_2 => ocall (G74 k ((v0, ()), ())) fun r_3 => sel r_3.1 (ocall (G75 k ((v0, ()), 1, ())) fun r_4 => ocall (G75 k ((v0, ()), 3, ())) fun r_5 => ocall (G76 k ((v0, ()), ())) fun r_6 => ocall
 (G74 k ((v0, ()), ())) fun r_7 => sel (r_6.1 == r_7.1) (ocall (G77 k ((r.1.1, ()), (r_2.1.1.1, ()), ())) fun r_8 => sel r_8.1 (sel (sameI r.2.1.1 r_2.1.2.1.1 && (sameS r.2.1.2.1 r_2.1.2.1.2.1 && (sameI r.2.1.2.2.1 r_2.1.2.1.2.2.1 && (sameI r.2.1.2.2.2.1
 r_2.1.2.1.2.2.2.1 && (sameS r.2.1.2.2.2.2.1 r_2.1.2.1.2.2.2.2.1 && (sameS r.2.1.2.2.2.2.2.1 r_2.1.2.1.2.2.2.2.2.1 && true)))))) (sel (decide (r.2.2.1 = r_2.1.2.2.1)) (ocall (G78 k ((v0, ()), ())) fun r => some (cSame r.1.1 r.1.2 (fltOf r_4.1) (fltOf r_5.1), ())) (some (false,
 ()))) (some (false, ()))) (some (false, ()))) (some (false, ()))) (ocall (G76 k ((v0, ()), ())) fun r_4 => ocall (G74 k ((v0, ()), ())) fun r_5 => sel (r_4.1 == r_5.1) (ocall (G77 k ((r.1.1, ()), (r_2.1.1.1, ()),
 ())) fun r_6 => sel r_6.1 (sel (sameI r.2.1.1 r_2.1.2.1.1 && (sameS r.2.1.2.1 r_2.1.2.1.2.1 && (sameI r.2.1.2.2.1 r_2.1.2.1.2.2.1 && (sameI r.2.1.2.2.2.1 r_2.1.2.1.2.2.2.1 && (sameS r.2.1.2.2.2.2.1 r_2.1.2.1.2.2.2.2.1 && (sameS r.2.1.2.2.2.2.2.1 r_2.1.2.1.2.2.2.2.2.1 && true)))))) (sel
 (decide (r.2.2.1 = r_2.1.2.2.1)) (ocall (G78 k ((v0, ()), ())) fun r => some (cSame r.1.1 r.1.2 0 0, ())) (some (false, ()))) (some (false, ()))) (some (false, ()))) (some (false, ())))))))))) := by kernel_rfl
end Go.Proofs.YtjgnpmdbkgeakaaDoor.G
end
section
set_option linter.unusedVariables false
set_option linter.unusedSimpArgs false
set_option maxRecDepth 100000
namespace Go.Proofs.YtjgnpmdbkgeakaaDoor.G
open Go Go.Proofs.YtjgnpmdbkgeakaaDoor Th
def zeroHo : Hold := ((0, [], ()), 0, 0, ())
def holdOK (h : Hold) : Bool := keyOK h.1 && (decide (h.2.1 < 1000000000000) && (decide (1 ≤ h.2.2.1) && decide (h.2.2.1 ≤ 3)))
def ledOK (l : List Hold) : Bool := l.all holdOK && orderedH l && decide (l.length ≤ 256)
def goodHo (h : Hold) : Prop := (0 ≤ h.1.1 ∧ h.1.1 ≤ 4294967295) ∧ 0 ≤ h.2.1 ∧ h.2.1 ≤ 18446744073709551615
def goodHs (l : List Hold) : Prop := ∀ h ∈ l, goodHo h
def lensHs (l : List Hold) : Prop := ∀ h ∈ l, h.1.2.1.length ≤ 300
theorem led_parts {l : List Hold} (h : ledOK l = true) : l.all holdOK = true ∧ orderedH l = true ∧ l.length ≤ 256 := by
  unfold ledOK at h
  simp only [Bool.and_eq_true, decide_eq_true_eq] at h
  exact ⟨h.1.1, h.1.2, h.2⟩
theorem hold_parts {h : Hold} (e : holdOK h = true) : keyOK h.1 = true ∧ h.2.1 < 1000000000000 ∧ 1 ≤ h.2.2.1 ∧ h.2.2.1 ≤ 3 := by
  unfold holdOK at e
  simpa [Bool.and_eq_true, decide_eq_true_eq] using e
theorem sameHo (a b : Hold) : (sameI a.1.1 b.1.1 && (sameS a.1.2.1 b.1.2.1 && true) && (sameI a.2.1 b.2.1 && (sameI a.2.2.1 b.2.2.1 && true))) = decide (a = b) := by
  have hk := sameK a.1 b.1
  rw [hk]
  obtain ⟨a1, a2, a3, ⟨⟩⟩ := a
  obtain ⟨b1, b2, b3, ⟨⟩⟩ := b
  simp only [sameI]
  by_cases h1 : a1 = b1 <;> by_cases h2 : a2 = b2 <;> by_cases h3 : a3 = b3 <;> simp [h1, h2, h3]
theorem led_loop (k : Nat) (hk : 1000 < k) (l : List Hold) (hl : lensHs l) (hg : goodHs l) (hn : l.length ≤ 1000) : ∀ (j i : Nat), i + 1 + j = l.length → ∀ n, j < n →
    G76_2 k n (l, (l.length : Int), ((i + 1 : Nat) : Int), l, ()) = some (sel ((l.drop (i + 1)).all holdOK && orderedH (l.drop i)) (.inl (l, ())) (.inr (false, ()))) := by
  intro j
  induction j with
  | zero =>
    intro i hij n hn'
    obtain ⟨n, rfl⟩ : ∃ m, n = m + 1 := ⟨n - 1, by omega⟩
    have hd : l.drop (i + 1) = [] := List.drop_eq_nil_of_le (by omega)
    rw [G76_2_eq, sel_neg (by omega), List.drop_eq_getElem_cons (show i < l.length by omega), hd]
    rfl
  | succ j ih =>
    intro i hij n hn'
    obtain ⟨n, rfl⟩ : ∃ m, n = m + 1 := ⟨n - 1, by omega⟩
    have hlt : i + 1 < l.length := by omega
    have hlt0 : i < l.length := by omega
    have hm := List.getElem_mem hlt
    have hR : G27 k (((l[i + 1]).1.1, (l[i + 1]).1.2.1, ()), ()) = _ := G27_is k 300 (by omega) (by omega) l[i + 1].1 (hl _ hm) (by omega) (hg _ hm).1
    have hO : G29 k (((l[i]).1.1, (l[i]).1.2.1, ()), ((l[i + 1]).1.1, (l[i + 1]).1.2.1, ()), ()) = _ := G29_is k (by omega) l[i].1 l[i + 1].1
    have hw : IntKind.i64.wrap (((i + 1 : Nat) : Int) + 1) = ((i + 1 + 1 : Nat) : Int) := by rw [wrap64 (by omega) (by omega)]; omega
    have hw2 : IntKind.i64.wrap (((i + 1 : Nat) : Int) - 1) = (i : Int) := by rw [wrap64 (by omega) (by omega)]; omega
    rw [G76_2_eq]
    simp only [ofNat_len, hw, hw2, Int.toNat_natCast, getD_of hlt, getD_of hlt0]
    rw [sel_pos (by omega), sel_pos (by omega), sel_pos (by omega), hR, ocall_some]
    have hd0 : l.drop i = l[i] :: l[i + 1] :: l.drop (i + 1 + 1) := by rw [List.drop_eq_getElem_cons hlt0, List.drop_eq_getElem_cons hlt]
    have hi := ih (i + 1) (by omega) n (by omega)
    rw [List.drop_eq_getElem_cons hlt] at hi ⊢
    rw [hd0]
    simp only [List.all_cons, orderedH]
    rw [show holdOK l[i + 1] = (keyOK (l[i + 1]).1 && (decide ((l[i + 1]).2.1 < (1000000000000 : Int)) && (decide ((1 : Int) ≤ (l[i + 1]).2.2.1) && decide ((l[i + 1]).2.2.1 ≤ (3 : Int))))) from rfl]
    cases keyOK (l[i + 1]).1 with
    | false => rfl
    | true =>
    simp only [Bool.not_true, sel_false, Bool.true_and]
    by_cases c1 : (l[i + 1]).2.1 < 1000000000000
    case neg => rw [sel_pos (by omega), decide_eq_false c1]; rfl
    rw [sel_neg (by omega), decide_eq_true c1]
    by_cases c2 : (1 : Int) ≤ (l[i + 1]).2.2.1
    case neg => rw [sel_pos (by omega), decide_eq_false c2]; rfl
    rw [sel_neg (by omega), decide_eq_true c2]
    by_cases c3 : (l[i + 1]).2.2.1 ≤ 3
    case neg => rw [sel_pos (by omega), decide_eq_false c3]; rfl
    rw [sel_neg (by omega), decide_eq_true c3, sel_pos (by omega), sel_pos (by omega), sel_pos (by omega), hO, ocall_some]
    by_cases ho : ordK l[i].1 l[i + 1].1 = -1
    · simp only [ho, decide_true, Bool.true_and]
      rw [sel_neg (by decide)]
      exact hi
    · have := ordK_cases l[i].1 l[i + 1].1
      rw [sel_pos (show (0 : Int) ≤ ordK l[i].1 l[i + 1].1 by omega), decide_eq_false ho]
      simp
theorem G76_is (k : Nat) (hk : 1001 < k) (l : List Hold) (hl : lensHs l) (hg : goodHs l) (hn : l.length ≤ 1000) : G76 k ((l, ()), ()) = some (ledOK l, ()) := by
  have hlp := led_loop k (by omega) l hl hg hn
  rw [G76_eq]
  unfold ledOK
  obtain ⟨k', rfl⟩ : ∃ m, k = m + 1 := ⟨k - 1, by omega⟩
  have h1 : G76_2 (k' + 1) (k' + 1) (l, (l.length : Int), 0, l, ()) = some (sel (l.all holdOK && orderedH l) (.inl (l, ())) (.inr (false, ()))) := by
    rw [G76_2_eq]
    by_cases h0 : l.length = 0
    · obtain rfl : l = [] := List.eq_nil_of_length_eq_zero h0
      rw [sel_neg (by simp)]; rfl
    have hlt : 0 < l.length := by omega
    have hm := List.getElem_mem hlt
    have e0 : l.getD (Int.toNat 0) ((0, [], ()), 0, 0, ()) = l[0] := getD_of hlt _
    have hR : G27 (k' + 1) (((l[0]).1.1, (l[0]).1.2.1, ()), ()) = _ := G27_is (k' + 1) 300 (by omega) (by omega) l[0].1 (hl _ hm) (by omega) (hg _ hm).1
    simp only [e0, ofNat_len]
    have hw : IntKind.i64.wrap (0 + 1) = ((0 + 1 : Nat) : Int) := rfl
    rw [sel_pos (by omega), sel_pos (by omega), sel_pos (by omega), hR, ocall_some, hw, hlp (l.length - 1) 0 (by omega) k' (by omega)]
    have hd : l = l[0] :: l.drop 1 := by
      have := List.drop_eq_getElem_cons hlt
      rwa [List.drop_zero] at this
    have ha : l.all holdOK = (holdOK l[0] && (l.drop 1).all holdOK) := by
      conv => lhs; rw [hd]
      rfl
    rw [ha, List.drop_zero, show holdOK l[0] = (keyOK (l[0]).1 && (decide ((l[0]).2.1 < (1000000000000 : Int)) && (decide ((1 : Int) ≤ (l[0]).2.2.1) && decide ((l[0]).2.2.1 ≤ (3 : Int))))) from rfl]
    cases keyOK (l[0]).1 with
    | false => rfl
    | true =>
    simp only [Bool.not_true, sel_false, Bool.true_and]
    by_cases c1 : (l[0]).2.1 < 1000000000000
    case neg => rw [sel_pos (by omega), decide_eq_false c1]; rfl
    rw [sel_neg (by omega), decide_eq_true c1]
    by_cases c2 : (1 : Int) ≤ (l[0]).2.2.1
    case neg => rw [sel_pos (by omega), decide_eq_false c2]; rfl
    rw [sel_neg (by omega), decide_eq_true c2]
    by_cases c3 : (l[0]).2.2.1 ≤ 3
    case neg => rw [sel_pos (by omega), decide_eq_false c3]; rfl
    rw [sel_neg (by omega), decide_eq_true c3, sel_neg (by omega)]
    rfl
  simp only [ofNat_len]
  rw [h1, ocall_some]
  cases c : (l.all holdOK && orderedH l) with
  | true =>
    rw [sel_true, esel_inl, Bool.true_and]
    simp only [ofNat_len]
    rw [show decide ((l.length : Int) ≤ 256) = decide (l.length ≤ 256) from decide_eq_decide.2 (by omega)]
  | false => rw [sel_false, esel_inr]; rfl
theorem bsH_loop (k : Nat) (hk : 2 < k) (l : List Hold) (hn : l.length ≤ 1000) (ho : orderedH l = true) (key : Key) (v1 : Int) : ∀ (d i j : Nat), i ≤ j → j ≤ l.length → j - i ≤ d → (∀ x (hx : x < l.length), x < i → ordK l[x].1 key = -1) → (∀ x (hx : x < l.length), j ≤ x → ordK l[x].1 key ≠ -1) → ∀ n, d < n →
    G7000002_3 k n (l, (), v1, (i : Int), (j : Int), key.1, key.2.1, ()) = some (l, (), v1, ((posEH l key : Nat) : Int), key.1, key.2.1, ()) := by
  intro d
  induction d with
  | zero =>
    intro i j hij hj hd h1 h2 n hn'
    obtain ⟨n, rfl⟩ : ∃ m, n = m + 1 := ⟨n - 1, by omega⟩
    obtain rfl : i = j := by omega
    rw [G7000002_3_eq, sel_neg (by omega), posE_ofH key l i hj h1 h2]
  | succ d ih =>
    intro i j hij hj hd h1 h2 n hn'
    obtain ⟨n, rfl⟩ : ∃ m, n = m + 1 := ⟨n - 1, by omega⟩
    rw [G7000002_3_eq]
    by_cases hlt : i < j
    case neg =>
      obtain rfl : i = j := by omega
      rw [sel_neg (by omega), posE_ofH key l i hj h1 h2]
    have hm : (i + j) / 2 < l.length := by omega
    have hm1 : i ≤ (i + j) / 2 := by omega
    have hm2 : (i + j) / 2 < j := by omega
    simp only [mid_is i j (by omega)]
    generalize (i + j) / 2 = h at hm hm1 hm2
    have hC : G225 k ((((l[h]).1.1, (l[h]).1.2.1, ()), (l[h]).2.1, (l[h]).2.2.1, ()), (key.1, key.2.1, ()), ()) = some (ordK l[h].1 key, ()) := by
      rw [G225_eq]
      rw [show G29 k (((l[h]).1.1, (l[h]).1.2.1, ()), (key.1, key.2.1, ()), ()) = _ from G29_is k hk l[h].1 key, ocall_some]
    simp only [ofNat_len, Int.toNat_natCast, getD_of hm]
    rw [sel_pos (by omega), sel_pos (by omega), sel_pos (by omega), hC, ocall_some]
    have hw : IntKind.i64.wrap ((h : Int) + 1) = ((h + 1 : Nat) : Int) := by rw [wrap64 (by omega) (by omega)]; omega
    have hcs := ordK_cases l[h].1 key
    by_cases c : ordK l[h].1 key = -1
    · rw [sel_pos (show ordK l[h].1 key < 0 by omega), hw]
      refine ih (h + 1) j (by omega) hj (by omega) (fun x hx hxi => ?_) h2 n (by omega)
      rcases Nat.lt_or_eq_of_le (Nat.le_of_lt_succ hxi) with c2 | c2
      · exact ordK_trans (ordered_getH ho x h c2 hm) c
      · simp only [c2]; exact c
    · rw [sel_neg (show ¬ ordK l[h].1 key < 0 by omega)]
      refine ih i h hm1 (by omega) (by omega) h1 (fun x hx hxi => ?_) n (by omega)
      rcases Nat.lt_or_eq_of_le hxi with c2 | c2
      · exact fun e => c (ordK_trans (ordered_getH ho h x c2 hx) e)
      · simp only [← c2]; exact c
theorem G209_is (k : Nat) (hk : 1001 < k) (l : List Hold) (hn : l.length ≤ 1000) (ho : orderedH l = true) (key : Key) : G209 k ((l, ()), key, ()) = some (((posEH l key : Nat) : Int), hasAtH l key, ()) := by
  have hb := bsH_loop k (by omega) l hn ho key (l.length : Int) l.length 0 l.length (Nat.zero_le _) (Nat.le_refl _) (by omega) (fun x hx h => absurd h (Nat.not_lt_zero _)) (fun x hx h => by omega) k (by omega)
  rw [Int.natCast_zero] at hb
  have hp := posE_leH l key
  have hC := fun (h : posEH l key < l.length) => show G225 k ((((l[posEH l key]).1.1, (l[posEH l key]).1.2.1, ()), (l[posEH l key]).2.1, (l[posEH l key]).2.2.1, ()), (key.1, key.2.1, ()), ()) = some (ordK l[posEH l key].1 key, ()) from by
    rw [G225_eq]
    rw [show G29 k (((l[posEH l key]).1.1, (l[posEH l key]).1.2.1, ()), (key.1, key.2.1, ()), ()) = _ from G29_is k (by omega) l[posEH l key].1 key, ocall_some]
  unfold hasAtH
  obtain ⟨k1, k2, ⟨⟩⟩ := key
  (try simp only [] at hb hC)
  rw [G209_eq, G7000002_eq]
  simp only [ofNat_len]
  rw [hb, ocall_some]
  simp only [ofNat_len, Int.toNat_natCast]
  generalize posEH l (k1, k2, ()) = p at hp hC
  by_cases h : p < l.length
  · have hC := hC h
    simp only [getD_of h]
    rw [sel_pos (by omega), sel_pos (by omega), sel_pos (by omega), hC, ocall_some, ocall_some, List.getElem?_eq_getElem h]
    (try simp only [])
    rw [show decide (ordK l[p].1 (k1, k2, ()) = 0) = decide (l[p].1 = (k1, k2, ())) from decide_eq_decide.2 ordK_zero]
  · rw [sel_neg (by omega), ocall_some, List.getElem?_eq_none (by omega)]
theorem findH_loop (k : Nat) (l : List Hold) (hn : l.length ≤ 1000000) (key : Key) (v5 : Int) (v6 : Txt) (v7 v8 : Int) : ∀ (j i : Nat), i + j = l.length → ∀ n, j < n →
    G70_2 k n (l, (l.length : Int), (i : Int), key.1, key.2.1, v5, v6, v7, v8, ()) = some (match findEH (l.drop i) key with
      | some e => .inr (true, e.1.1, e.1.2.1, e.2.1, e.2.2.1, ())
      | none => .inl (v5, v6, v7, v8, ())) := by
  intro j
  induction j with
  | zero =>
    intro i hij n hn'
    obtain ⟨n, rfl⟩ : ∃ m, n = m + 1 := ⟨n - 1, by omega⟩
    rw [G70_2_eq, sel_neg (by omega), List.drop_eq_nil_of_le (by omega)]
    rfl
  | succ j ih =>
    intro i hij n hn'
    obtain ⟨n, rfl⟩ : ∃ m, n = m + 1 := ⟨n - 1, by omega⟩
    have hlt : i < l.length := by omega
    have hi := ih (i + 1) (by omega) n (by omega)
    have hw : IntKind.i64.wrap ((i : Int) + 1) = ((i + 1 : Nat) : Int) := by rw [wrap64 (by omega) (by omega)]; omega
    have hs : (sameI (l[i]).1.1 key.1 && (sameS (l[i]).1.2.1 key.2.1 && true)) = decide ((l[i]).1 = key) := sameK (l[i]).1 key
    rw [G70_2_eq]
    simp only [ofNat_len, Int.toNat_natCast, getD_of hlt, hw]
    rw [sel_pos (by omega), sel_pos (by omega), sel_pos (by omega), hs, List.drop_eq_getElem_cons hlt]
    unfold findEH at hi ⊢
    rw [List.find?_cons]
    unfold keyIsH at hi ⊢
    cases c : decide ((l[i]).1 = key) with
    | true => rfl
    | false => exact hi
theorem G70_is (k : Nat) (l : List Hold) (hn : l.length ≤ 1000000) (hk : l.length < k) (key : Key) : G70 k ((l, ()), key, ()) = some (match findEH l key with | some e => (e, true, ()) | none => (zeroHo, false, ())) := by
  have h := findH_loop k l hn key 0 [] 0 0 l.length 0 (by omega) k hk
  rw [List.drop_zero, Int.natCast_zero] at h
  obtain ⟨k1, k2, ⟨⟩⟩ := key
  rw [G70_eq]
  simp only [ofNat_len] at h ⊢
  rw [h, ocall_some]
  cases findEH l (k1, k2, ()) with
  | some e => rfl
  | none => rfl
def withL (l : List Hold) (h : Hold) : List Hold × Bool := if hasAtH l h.1 = true then (l.set (posEH l h.1) h, true) else if l.length = 256 then (l, false) else (insLH l h, true)
theorem hClone (k : Nat) (l : List Hold) (h : l.length ≤ 1000) : G210 k l = some (l, ()) := by
  rw [G210_eq, sel_pos (by omega)]
theorem G188_is (k : Nat) (hk : 1001 < k) (l : List Hold) (hn : l.length ≤ 1000) (ho : orderedH l = true) (h : Hold) : G188 k ((l, ()), h, ()) = some (((withL l h).1, ()), (withL l h).2, ()) := by
  have hP := G209_is k hk l hn ho h.1
  have hlt := @hasAt_ltH l h.1
  have hp := posE_leH l h.1
  unfold withL insLH
  obtain ⟨⟨e1, e2, ⟨⟩⟩, e3, e4, ⟨⟩⟩ := h
  (try simp only [] at hP hlt hp ⊢)
  rw [G188_eq, hP, ocall_some]
  cases hh : hasAtH l (e1, e2, ()) with
  | true =>
    obtain ⟨h4, _⟩ := hlt hh
    rw [if_pos rfl]
    generalize posEH l (e1, e2, ()) = p at h4
    simp only [sel_true]
    rw [hClone k l hn, ocall_some]
    simp only [ofNat_len, Int.toNat_natCast]
    rw [sel_pos (by omega), sel_pos (by omega), sel_pos (by omega)]
  | false =>
    rw [if_neg (by simp)]
    simp only [sel_false, ofNat_len]
    by_cases h7 : l.length = 256
    · rw [sel_pos (by omega), if_pos h7]
    rw [sel_neg (by omega), if_neg h7, hClone k l hn, ocall_some, G211_eq]
    simp only [ofNat_len]
    rw [sel_pos (by omega), sel_pos (by omega), sel_pos (by omega), sel_pos (by simp), ocall_some, Int.toNat_natCast]
end Go.Proofs.YtjgnpmdbkgeakaaDoor.G
end
section
set_option linter.unusedVariables false
set_option linter.unusedSimpArgs false
set_option maxRecDepth 100000
namespace Go.Proofs.YtjgnpmdbkgeakaaDoor.G
open Go Go.Proofs.YtjgnpmdbkgeakaaDoor Th
def keyD (d : Deal) : Key := (d.2.2.2.1, d.2.2.2.2.1, ())
def askL (l : List Hold) (d : Deal) (ap : Bool) : List Hold × Txt := match findEH l (keyD d) with
  | some h => if h.2.2.1 = 1 then (if h.2.1 = d.2.2.1 then (l, [48, 48]) else (l, [57, 52])) else (l, [48, 53])
  | none => if (withL l (keyD d, d.2.2.1, if ap = true then 1 else 2, ())).2 = true then ((withL l (keyD d, d.2.2.1, if ap = true then 1 else 2, ())).1, if ap = true then [48, 48] else [48, 53]) else (l, [57, 54])
def backL (l : List Hold) (h : Hold) : List Hold × Txt := if (withL l h).2 = true then ((withL l h).1, [48, 48]) else (l, [57, 54])
def advL (l : List Hold) (d : Deal) : List Hold × Txt := match findEH l (keyD d) with
  | some h => backL l (h.1, h.2.1, 3, ())
  | none => backL l (keyD d, d.2.2.1, 3, ())
def doL (l : List Hold) (d : Deal) (ap : Bool) : List Hold × Deal × Int := if ledOK l = true ∧ dealOK d = true then
    (if d.1 = 1 then ((askL l d ap).1, (2, [], 0, d.2.2.2.1, d.2.2.2.2.1, (askL l d ap).2, ()), 0)
     else if d.1 = 5 ∨ d.1 = 6 then ((advL l d).1, (7, [], 0, d.2.2.2.1, d.2.2.2.2.1, (advL l d).2, ()), 0) else (l, zeroD, 3))
  else (l, zeroD, 1)
theorem G136_is (k : Nat) (hk : 1001 < k) (l : List Hold) (hn : l.length ≤ 1000) (ho : orderedH l = true) (d : Deal) (ap : Bool) : G136 k ((l, ()), d, ap, ()) = some (((askL l d ap).1, ()), (askL l d ap).2, ()) := by
  have hF := G70_is k l (by omega) (by omega) (keyD d)
  have hW := fun h => G188_is k hk l hn ho h
  unfold askL
  obtain ⟨d1, d2, d3, d4, d5, d6, ⟨⟩⟩ := d
  unfold keyD at hF ⊢
  (try simp only [] at hF ⊢)
  rw [G136_eq, G26_is, ocall_some]
  (try simp only [])
  rw [hF, ocall_some]
  cases findEH l (d4, d5, ()) with
  | some h =>
    simp only [sel_true]
    by_cases c : h.2.2.1 = 1
    case neg => rw [sel_not, sel_neg c, if_neg c]
    rw [sel_not, sel_pos c, if_pos c]
    by_cases c2 : h.2.1 = d3
    · rw [sel_not, sel_pos c2, if_pos c2]
    · rw [sel_not, sel_neg c2, if_neg c2]
  | none =>
    simp only [sel_false]
    rw [ocall_some]
    (try simp only [])
    cases ap with
    | true =>
      simp only [sel_true]
      rw [hW, ocall_some]
      simp only [if_true]
      cases (withL l ((d4, d5, ()), d3, 1, ())).2 <;> rfl
    | false =>
      simp only [sel_false]
      rw [hW, ocall_some]
      simp only [Bool.false_eq_true, if_false]
      cases (withL l ((d4, d5, ()), d3, 2, ())).2 <;> rfl
theorem G137_is (k : Nat) (hk : 1001 < k) (l : List Hold) (hn : l.length ≤ 1000) (ho : orderedH l = true) (d : Deal) : G137 k ((l, ()), d, ()) = some (((advL l d).1, ()), (advL l d).2, ()) := by
  have hF := G70_is k l (by omega) (by omega) (keyD d)
  have hW := fun h => G188_is k hk l hn ho h
  unfold advL backL
  obtain ⟨d1, d2, d3, d4, d5, d6, ⟨⟩⟩ := d
  unfold keyD at hF ⊢
  (try simp only [] at hF ⊢)
  rw [G137_eq, G26_is, ocall_some]
  (try simp only [])
  rw [hF, ocall_some]
  cases findEH l (d4, d5, ()) with
  | some h =>
    have hW' : G188 k ((l, ()), ((h.1.1, h.1.2.1, ()), h.2.1, 3, ()), ()) = _ := hW (h.1, h.2.1, 3, ())
    simp only [Bool.not_true, sel_false]
    rw [hW', ocall_some]
    (try simp only [])
    cases (withL l (h.1, h.2.1, 3, ())).2 <;> rfl
  | none =>
    simp only [Bool.not_false, sel_true]
    rw [ocall_some]
    (try simp only [])
    rw [hW, ocall_some]
    (try simp only [])
    cases (withL l ((d4, d5, ()), d3, 3, ())).2 <;> rfl
theorem G72_is (k : Nat) (hk : 1001 < k) (l : List Hold) (hl : lensHs l) (hg : goodHs l) (hn : l.length ≤ 1000) (d : Deal) (hd : lens 300 d) (gd : goodD d) (ap : Bool) : G72 k ((l, ()), d, ap, ()) = some (((doL l d ap).1, ()), (doL l d ap).2.1, (doL l d ap).2.2, ()) := by
  have hR := G76_is k hk l hl hg hn
  have hD := G33_is k 300 (by omega) (by omega) d hd gd
  have hA := fun ho => G136_is k hk l hn ho d ap
  have hV := fun ho => G137_is k hk l hn ho d
  unfold doL
  obtain ⟨d1, d2, d3, d4, d5, d6, ⟨⟩⟩ := d
  rw [G72_eq, hR, ocall_some]
  cases hs : ledOK l with
  | false => rw [if_neg (by simp)]; rfl
  | true =>
  obtain ⟨_, ho, _⟩ := led_parts hs
  have hA := hA ho
  have hV := hV ho
  simp only [Bool.not_true, sel_false]
  rw [hD, ocall_some]
  cases he : dealOK (d1, d2, d3, d4, d5, d6, ()) with
  | false => rw [if_neg (by simp)]; rfl
  | true =>
  simp only [Bool.not_true, sel_false]
  first | rw [if_pos (⟨rfl, rfl⟩ : true = true ∧ true = true)] | rw [if_pos (⟨trivial, trivial⟩ : True ∧ True)]
  by_cases c1 : d1 = 1
  · rw [sel_pos c1, if_pos c1, hA, ocall_some]
  rw [sel_neg c1, if_neg c1]
  by_cases c5 : d1 = 5
  · rw [sel_pos c5, sel_pos c5, if_pos (.inl c5), hV, ocall_some]
  rw [sel_neg c5]
  by_cases c6 : d1 = 6
  · rw [sel_pos c6, if_pos (.inr c6), hV, ocall_some]
  · rw [sel_neg c6, if_neg (by omega)]; rfl
def dL1 : Deal := (1, [49, 56], 500, 1, [82, 82, 78, 48, 48, 48, 48, 48, 48, 48, 48, 49], [], ())
def dL5 : Deal := (5, [49, 56], 500, 1, [82, 82, 78, 48, 48, 48, 48, 48, 48, 48, 48, 49], [], ())
def hL1 : Hold := ((1, [82, 82, 78, 48, 48, 48, 48, 48, 48, 48, 48, 49], ()), 500, 1, ())
def hL3 : Hold := ((1, [82, 82, 78, 48, 48, 48, 48, 48, 48, 48, 48, 49], ()), 500, 3, ())
theorem goodHL {l : List Hold} (h : ∀ e ∈ l, e = hL1 ∨ e = hL3) : lensHs l ∧ goodHs l := by
  constructor <;> intro e he <;> rcases h e he with rfl | rfl <;> (first | decide | exact ⟨⟨by decide, by decide⟩, by decide, by decide⟩)
theorem sumL1 (k : Nat) (hk : 1001 < k) : ∃ x y, G78 k (([hL1], ()), ()) = some ((x, y), ()) ∧ cSame x y 4647503709213818880 0 = true := by
  obtain ⟨g1, g2⟩ := goodHL (l := [hL1]) (by simp)
  have hR := G76_is k hk [hL1] g1 g2 (by simp)
  rw [show ledOK [hL1] = true from by kernel_rfl] at hR
  obtain ⟨m, rfl⟩ : ∃ m, k = m + 1 + 1 := ⟨k - 2, by omega⟩
  have c1 : cOK BinOp.add 0 0 (fltOf 500) 0 = true := by kernel_rfl
  have e0 : ([hL1] : List Hold).getD (Int.toNat 0) ((0, [], ()), 0, 0, ()) = ((1, [82, 82, 78, 48, 48, 48, 48, 48, 48, 48, 48, 49], ()), 500, 1, ()) := rfl
  have e1 : Int.ofNat ([hL1] : List Hold).length = 1 := rfl
  have hw : IntKind.i64.wrap (0 + 1) = 1 := rfl
  have hl : G78_5 (m + 1 + 1) (m + 1 + 1) ((0, 0), [hL1], 1, 0, ()) = some (((cVal BinOp.add 0 0 (fltOf 500) 0).1, (cVal BinOp.add 0 0 (fltOf 500) 0).2), ()) := by
    rw [G78_5_eq]
    simp only [e0, e1, hw]
    rw [sel_pos (by decide), sel_pos (by decide), sel_pos (by decide), sel_pos trivial, c1, sel_true, G78_5_eq, sel_neg (by decide)]
  refine ⟨(cVal BinOp.add 0 0 (fltOf 500) 0).1, (cVal BinOp.add 0 0 (fltOf 500) 0).2, ?_, ?_⟩
  · rw [G78_eq, hR, ocall_some]
    simp only [Bool.not_true, sel_false, e1]
    rw [hl, ocall_some]
  · kernel_rfl
theorem sumL3 (k : Nat) (hk : 1001 < k) : ∃ x y, G78 k (([hL3], ()), ()) = some ((x, y), ()) ∧ cSame x y 0 4647503709213818880 = true := by
  obtain ⟨g1, g2⟩ := goodHL (l := [hL3]) (by simp)
  have hR := G76_is k hk [hL3] g1 g2 (by simp)
  rw [show ledOK [hL3] = true from by kernel_rfl] at hR
  obtain ⟨m, rfl⟩ : ∃ m, k = m + 1 + 1 := ⟨k - 2, by omega⟩
  have c1 : cOK BinOp.mul (fltOf 500) 0 0 4607182418800017408 = true := by kernel_rfl
  have c2 : cOK BinOp.add 0 0 (cVal BinOp.mul (fltOf 500) 0 0 4607182418800017408).1 (cVal BinOp.mul (fltOf 500) 0 0 4607182418800017408).2 = true := by kernel_rfl
  have e0 : ([hL3] : List Hold).getD (Int.toNat 0) ((0, [], ()), 0, 0, ()) = ((1, [82, 82, 78, 48, 48, 48, 48, 48, 48, 48, 48, 49], ()), 500, 3, ()) := rfl
  have e1 : Int.ofNat ([hL3] : List Hold).length = 1 := rfl
  have hw : IntKind.i64.wrap (0 + 1) = 1 := rfl
  have hl : G78_5 (m + 1 + 1) (m + 1 + 1) ((0, 0), [hL3], 1, 0, ()) = some (((cVal BinOp.add 0 0 (cVal BinOp.mul (fltOf 500) 0 0 4607182418800017408).1 (cVal BinOp.mul (fltOf 500) 0 0 4607182418800017408).2).1, (cVal BinOp.add 0 0 (cVal BinOp.mul (fltOf 500) 0 0 4607182418800017408).1 (cVal BinOp.mul (fltOf 500) 0 0 4607182418800017408).2).2), ()) := by
    rw [G78_5_eq]
    simp only [e0, e1, hw]
    rw [sel_pos (by decide), sel_pos (by decide), sel_pos (by decide), sel_neg (by decide), sel_pos trivial, c1, sel_true, c2, sel_true, G78_5_eq, sel_neg (by decide)]
  refine ⟨(cVal BinOp.add 0 0 (cVal BinOp.mul (fltOf 500) 0 0 4607182418800017408).1 (cVal BinOp.mul (fltOf 500) 0 0 4607182418800017408).2).1, (cVal BinOp.add 0 0 (cVal BinOp.mul (fltOf 500) 0 0 4607182418800017408).1 (cVal BinOp.mul (fltOf 500) 0 0 4607182418800017408).2).2, ?_, ?_⟩
  · rw [G78_eq, hR, ocall_some]
    simp only [Bool.not_true, sel_false, e1]
    rw [hl, ocall_some]
  · kernel_rfl
theorem G68_is (k : Nat) (hk : 2000 < k) : G68 k () = some (true, ()) := by
  have g0 := goodHL (l := []) (by simp)
  have g1 := goodHL (l := [hL1]) (by simp)
  have g3 := goodHL (l := [hL3]) (by simp)
  have d1 : lens 300 dL1 ∧ goodD dL1 := ⟨⟨by decide, by decide, by decide⟩, by decide, by decide⟩
  have d5 : lens 300 dL5 ∧ goodD dL5 := ⟨⟨by decide, by decide, by decide⟩, by decide, by decide⟩
  have h1 := G72_is k (by omega) [] g0.1 g0.2 (by simp) dL1 d1.1 d1.2 true
  have h2 := G72_is k (by omega) [hL1] g1.1 g1.2 (by simp) dL5 d5.1 d5.2 true
  have h3 := G72_is k (by omega) [hL3] g3.1 g3.2 (by simp) dL1 d1.1 d1.2 true
  have h4 := G70_is k [hL3] (by simp) (by simp; omega) (1, [82, 82, 78, 48, 48, 48, 48, 48, 48, 48, 48, 49], ())
  have h5 := G76_is k (by omega) [hL3] g3.1 g3.2 (by simp)
  rw [show doL [] dL1 true = ([hL1], (2, [], 0, 1, [82, 82, 78, 48, 48, 48, 48, 48, 48, 48, 48, 49], [48, 48], ()), 0) from by kernel_rfl] at h1
  rw [show doL [hL1] dL5 true = ([hL3], (7, [], 0, 1, [82, 82, 78, 48, 48, 48, 48, 48, 48, 48, 48, 49], [48, 48], ()), 0) from by kernel_rfl] at h2
  rw [show doL [hL3] dL1 true = ([hL3], (2, [], 0, 1, [82, 82, 78, 48, 48, 48, 48, 48, 48, 48, 48, 49], [48, 53], ()), 0) from by kernel_rfl] at h3
  rw [show findEH [hL3] (1, [82, 82, 78, 48, 48, 48, 48, 48, 48, 48, 48, 49], ()) = some hL3 from by kernel_rfl] at h4
  rw [show ledOK [hL3] = true from by kernel_rfl] at h5
  obtain ⟨x1, y1, s1, t1⟩ := sumL1 k (by omega)
  obtain ⟨x3, y3, s3, t3⟩ := sumL3 k (by omega)
  simp only [dL1, dL5] at h1 h2 h3
  rw [G68_eq, h1, ocall_some]
  (try simp only [])
  rw [h2, ocall_some]
  (try simp only [])
  rw [h3, ocall_some, G26_is, ocall_some]
  (try simp only [])
  rw [h4, ocall_some]
  simp only [hL3, decide_true, sel_true] at *
  rw [s1, ocall_some]
  simp only [t1, sel_true]
  rw [s3, ocall_some]
  simp only [t3, sel_true]
  rw [h5, ocall_some]
end Go.Proofs.YtjgnpmdbkgeakaaDoor.G
end
section
set_option linter.unusedVariables false
set_option linter.unusedSimpArgs false
set_option maxRecDepth 100000
namespace Go.Proofs.YtjgnpmdbkgeakaaDoor.G
open Go Go.Proofs.YtjgnpmdbkgeakaaDoor Th
theorem has_some {l : List Hold} (ho : orderedH l = true) {key : Key} {h : Hold} (e : findEH l key = some h) : hasAtH l key = true := by
  rw [has_findH ho] at e
  by_cases c : hasAtH l key = true
  · exact c
  · rw [if_neg c] at e; cases e
theorem has_none {l : List Hold} (ho : orderedH l = true) {key : Key} (e : findEH l key = none) : hasAtH l key = false := by
  rw [has_findH ho] at e
  cases c : hasAtH l key with
  | false => rfl
  | true =>
    obtain ⟨hp, _⟩ := hasAt_ltH c
    rw [if_pos c, List.getElem?_eq_getElem hp] at e; cases e
theorem with_set {l : List Hold} {h : Hold} (hh : hasAtH l h.1 = true) : withL l h = (l.set (posEH l h.1) h, true) := by unfold withL; rw [if_pos hh]
theorem with_full {l : List Hold} {h : Hold} (hh : hasAtH l h.1 = false) (h7 : l.length = 256) : withL l h = (l, false) := by unfold withL; rw [if_neg (by rw [hh]; simp), if_pos h7]
theorem with_ins {l : List Hold} {h : Hold} (hh : hasAtH l h.1 = false) (h7 : l.length ≠ 256) : withL l h = (insLH l h, true) := by unfold withL; rw [if_neg (by rw [hh]; simp), if_neg h7]
theorem with_len (l : List Hold) (h : Hold) : (withL l h).1.length ≤ l.length + 1 := by
  unfold withL
  split
  · rw [List.length_set]; exact Nat.le_succ _
  · split
    · exact Nat.le_succ _
    · rw [ins_lengthH]; exact Nat.le_refl _
end Go.Proofs.YtjgnpmdbkgeakaaDoor.G
end
section
set_option linter.unusedVariables false
set_option linter.unusedSimpArgs false
set_option maxRecDepth 100000
namespace Go.Proofs.YtjgnpmdbkgeakaaDoor.G
open Go Go.Proofs.YtjgnpmdbkgeakaaDoor Th
theorem shortK (k : Nat) (a : Key) : G25 k (a, ()) = some (decide (a.2.1.length ≤ 300), ()) := by
  rw [G25_eq]
  have : decide ((Int.ofNat a.2.1.length) ≤ 300) = decide (a.2.1.length ≤ 300) := decide_eq_decide.2 (by simp only [Int.ofNat_eq_natCast]; omega)
  simp only [this]
theorem shortH_loop (k : Nat) (l : List Hold) : ∀ (j i : Nat), i + j = (l.take 300).length → ∀ n, j < n →
    G69_2 k n ((i : Int), l, ()) = some (sel (((l.take 300).drop i).all (fun e => decide (e.1.2.1.length ≤ 300))) (.inl (l, ())) (.inr (false, ()))) := by
  intro j
  induction j with
  | zero =>
    intro i hij n hn
    obtain ⟨n, rfl⟩ : ∃ m, n = m + 1 := ⟨n - 1, by omega⟩
    rw [List.drop_eq_nil_of_le (by omega), G69_2_eq]
    rw [List.length_take] at hij
    simp only [ofNat_len]
    by_cases h : i < l.length
    · rw [sel_pos (by omega), sel_neg (by omega)]; rfl
    · rw [sel_neg (by omega)]; rfl
  | succ j ih =>
    intro i hij n hn
    obtain ⟨n, rfl⟩ : ∃ m, n = m + 1 := ⟨n - 1, by omega⟩
    have hlt' : i < (l.take 300).length := by omega
    have hij' := hij
    rw [List.length_take] at hij'
    have hlt : i < l.length := by omega
    have hw : IntKind.i64.wrap ((i : Int) + 1) = ((i + 1 : Nat) : Int) := by rw [wrap64 (by omega) (by omega)]; omega
    have he : (l.take 300)[i] = l[i] := List.getElem_take
    have hS : G25 k (((l[i]).1.1, (l[i]).1.2.1, ()), ()) = _ := shortK k l[i].1
    rw [G69_2_eq]
    simp only [ofNat_len, Int.toNat_natCast, getD_of hlt]
    rw [sel_pos (by omega), sel_pos (by omega), sel_pos (by omega), sel_pos (by omega), hS, ocall_some, List.drop_eq_getElem_cons hlt', he, List.all_cons]
    by_cases c : (l[i]).1.2.1.length ≤ 300
    · rw [decide_eq_true c, Bool.not_true, sel_false, hw, ih (i + 1) (by omega) n (by omega), Bool.true_and]
    · rw [decide_eq_false c, Bool.not_false, sel_true, Bool.false_and]; rfl
theorem G69_is (k : Nat) (hk : 301 < k) (l : List Hold) : ∃ b, G69 k ((l, ()), ()) = some (b, ()) ∧ (b = true → l.length ≤ 300 ∧ lensHs l) := by
  have h := shortH_loop k l (l.take 300).length 0 (by omega) k (by rw [List.length_take]; omega)
  rw [List.drop_zero, Int.natCast_zero] at h
  rw [G69_eq, h, ocall_some]
  cases c : (l.take 300).all (fun e => decide (e.1.2.1.length ≤ 300)) with
  | true =>
    rw [sel_true, esel_inl]
    refine ⟨_, rfl, fun h => ?_⟩
    have hle : l.length ≤ 300 := by have := of_decide_eq_true h; simp only [ofNat_len] at this; omega
    rw [List.take_of_length_le (by omega)] at c
    exact ⟨hle, fun e he => by simpa using List.all_eq_true.1 c e he⟩
  | false =>
    rw [sel_false, esel_inr]
    exact ⟨_, rfl, fun h => absurd h (by simp)⟩
theorem sameH_loop (k : Nat) (a b : List Hold) (hab : a.length = b.length) (hl : a.length ≤ 1000000) : ∀ (j i : Nat), i + j = a.length → ∀ n, j < n →
    G77_4 k n ((i : Int), a, b, ()) = some (sel (decide (a.drop i = b.drop i)) (.inl ()) (.inr (false, ()))) := by
  intro j
  induction j with
  | zero =>
    intro i hij n hn
    obtain ⟨n, rfl⟩ : ∃ m, n = m + 1 := ⟨n - 1, by omega⟩
    rw [G77_4_eq, sel_neg (by simp only [ofNat_len]; omega), List.drop_eq_nil_of_le (by omega), List.drop_eq_nil_of_le (by omega), decide_eq_true rfl]
    rfl
  | succ j ih =>
    intro i hij n hn
    obtain ⟨n, rfl⟩ : ∃ m, n = m + 1 := ⟨n - 1, by omega⟩
    have hlt : i < a.length := by omega
    have hlt' : i < b.length := by omega
    have hw : IntKind.i64.wrap ((i : Int) + 1) = ((i + 1 : Nat) : Int) := by rw [wrap64 (by omega) (by omega)]; omega
    rw [G77_4_eq]
    simp only [ofNat_len, Int.toNat_natCast, getD_of hlt, getD_of hlt', hw]
    rw [sel_pos (by omega), sel_pos (by omega), sel_pos (by omega), sel_pos (by omega), sel_pos (by omega), sameHo, List.drop_eq_getElem_cons hlt, List.drop_eq_getElem_cons hlt', ih (i + 1) (by omega) n (by omega)]
    by_cases c : a[i] = b[i]
    · rw [decide_eq_true c, Bool.not_true, sel_false]
      have e : decide (a[i] :: a.drop (i + 1) = b[i] :: b.drop (i + 1)) = decide (a.drop (i + 1) = b.drop (i + 1)) := decide_eq_decide.2 ⟨fun h => (List.cons.inj h).2, fun h => by rw [c, h]⟩
      rw [e]
    · rw [decide_eq_false c, Bool.not_false, sel_true, decide_eq_false (fun h => c (List.cons.inj h).1)]; rfl
theorem G77_is (k : Nat) (a b : List Hold) (hl : a.length ≤ 1000000) (hk : a.length < k) : G77 k ((a, ()), (b, ()), ()) = some (decide (a = b), ()) := by
  rw [G77_eq]
  simp only [ofNat_len]
  by_cases h2 : a.length = b.length
  case neg => rw [sel_not, sel_neg (by omega), decide_eq_false (fun e => h2 (by rw [e]))]
  have := sameH_loop k a b h2 hl a.length 0 (by omega) k hk
  simp only [List.drop_zero, Int.natCast_zero] at this
  rw [sel_not, sel_pos (by omega), this, ocall_some]
  cases decide (a = b) <;> rfl
theorem back_len (l : List Hold) (h : Hold) : (backL l h).1.length ≤ l.length + 1 := by
  unfold backL
  split
  · exact with_len l h
  · exact Nat.le_succ _
theorem do_len (l : List Hold) (d : Deal) (ap : Bool) : (doL l d ap).1.length ≤ l.length + 1 := by
  unfold doL
  split
  · split
    · unfold askL
      split
      · split
        · split <;> exact Nat.le_succ _
        · exact Nat.le_succ _
      · split <;> split
        · exact with_len _ _
        · exact Nat.le_succ _
        · exact with_len _ _
        · exact Nat.le_succ _
    · split
      · unfold advL
        split
        · exact back_len _ _
        · exact back_len _ _
      · exact Nat.le_succ _
  · exact Nat.le_succ _
end Go.Proofs.YtjgnpmdbkgeakaaDoor.G
end
section
set_option linter.unusedVariables false
set_option linter.unusedSimpArgs false
set_option maxRecDepth 100000
namespace Go.Proofs.YtjgnpmdbkgeakaaDoor.G
open Go Go.Proofs.YtjgnpmdbkgeakaaDoor Th
theorem shortDO (k : Nat) (d : Deal) : G24 k (d, ()) = some (decide (lens 300 d), ()) := by
  obtain ⟨kind, pan, amt, stan, rrn, code, ⟨⟩⟩ := d
  rw [G24_eq]
  simp only [ofNat_len]
  by_cases h : lens 300 (kind, pan, amt, stan, rrn, code, ())
  · have h1 : pan.length ≤ 300 := h.1
    have h2 : rrn.length ≤ 300 := h.2.1
    have h3 : code.length ≤ 300 := h.2.2
    rw [sel_pos (by omega), sel_pos (by omega), decide_eq_true h, decide_eq_true (show (code.length : Int) ≤ 300 by omega)]
  · rw [decide_eq_false h]
    by_cases h1 : pan.length ≤ 300
    · rw [sel_pos (by omega)]
      by_cases h2 : rrn.length ≤ 300
      · have h3 : ¬ code.length ≤ 300 := fun e => h ⟨h1, h2, e⟩
        rw [sel_pos (by omega), decide_eq_false (show ¬ (code.length : Int) ≤ 300 by omega)]
      · rw [sel_neg (by omega)]
    · rw [sel_neg (by omega)]
structure StepL (l : List Hold) (d : Deal) (m : List Hold) (code : Txt) (kind : Int) : Prop where
  ok : ledOK m = true
  right : rightF 39 code = true
  kept : ∀ h, findEH l (keyD d) = some h → ∃ h', findEH m (keyD d) = some h' ∧ h'.2.1 = h.2.1 ∧ (h'.2.2.1 = h.2.2.1 ∨ h'.2.2.1 = 3)
  new : findEH l (keyD d) = none → ∀ h', findEH m (keyD d) = some h' → h'.2.1 = d.2.2.1
  fine : kind = 2 → code = [48, 48] → ∃ h', findEH m (keyD d) = some h' ∧ h'.2.2.1 = 1 ∧ h'.2.1 = d.2.2.1
  back : kind = 7 → code = [48, 48] → ∃ h', findEH m (keyD d) = some h' ∧ h'.2.2.1 = 3
  other : ∀ key, key ≠ keyD d → findEH m key = findEH l key
end Go.Proofs.YtjgnpmdbkgeakaaDoor.G
end
section
set_option linter.unusedVariables false
set_option linter.unusedSimpArgs false
set_option maxRecDepth 100000
namespace Go.Proofs.YtjgnpmdbkgeakaaDoor.G
open Go Go.Proofs.YtjgnpmdbkgeakaaDoor Th Ieee
def dbl (n : Nat) : Nat := Ieee.double.nearest false n 0
theorem log_lt {n e : Nat} (h0 : n ≠ 0) : n.log2 = e ↔ 2 ^ e ≤ n ∧ n < 2 ^ (e + 1) := by
  constructor
  · rintro rfl
    exact ⟨Nat.log2_self_le h0, Nat.lt_log2_self⟩
  · intro ⟨h1, h2⟩
    have a := (Nat.le_log2 h0).2 h1
    have b := (Nat.log2_lt h0).2 h2
    omega
theorem log_shift {n t : Nat} (h0 : n ≠ 0) : (n * 2 ^ t).log2 = n.log2 + t := by
  have hp : 0 < 2 ^ t := Nat.two_pow_pos t
  have h0' : n * 2 ^ t ≠ 0 := Nat.mul_ne_zero h0 (by omega)
  obtain ⟨a, b⟩ := (log_lt h0).1 rfl
  refine (log_lt h0').2 ⟨?_, ?_⟩
  · rw [Nat.pow_add]; exact Nat.mul_le_mul_right _ a
  · rw [show n.log2 + t + 1 = (n.log2 + 1) + t by omega, Nat.pow_add]; exact Nat.mul_lt_mul_of_pos_right b hp
theorem cut_zero (neg : Bool) (n : Nat) : Toward.even.cut neg n 0 = n := by
  unfold Toward.cut
  simp [Nat.mod_one]
theorem cut_exact (neg : Bool) (n d : Nat) (hd : d ≤ (n * 2 ^ d).log2 + 2) : Toward.even.cut neg (n * 2 ^ d) d = n := by
  unfold Toward.cut
  have hp : 0 < 2 ^ d := Nat.two_pow_pos d
  have hm : min d ((n * 2 ^ d).log2 + 2) = d := by omega
  rw [hm, Nat.one_shiftLeft]
  simp only [Nat.mul_div_cancel _ hp, Nat.mul_mod_left]
  have h1 : ¬ (2 ^ d < 2 * 0) := by omega
  have h2 : (2 ^ d == 2 * 0) = false := by
    apply beq_false_of_ne; omega
  simp only [h1, h2, decide_false, Bool.false_and, Bool.or_false]
  rfl
theorem nearest_exact (n t : Nat) (h0 : n ≠ 0) (h : n.log2 ≤ 52) (ht : t ≤ 1074) : Ieee.double.nearest false (n * 2 ^ t) (-(t : Int)) = (n.log2 + 1022) * 2 ^ 52 + n * 2 ^ (52 - n.log2) := by
  have hp : 0 < 2 ^ t := Nat.two_pow_pos t
  have h0' : n * 2 ^ t ≠ 0 := Nat.mul_ne_zero h0 (by omega)
  have hlp : Ieee.double.leastPlace = -1074 := by decide
  have hb : Ieee.double.binade = 2 ^ 52 := rfl
  have hi : Ieee.double.infRung = 2047 * 2 ^ 52 := by decide
  have hf : (Ieee.double.fractionBits : Int) = 52 := rfl
  unfold Format.nearest
  rw [if_neg h0', log_shift h0, hlp, hb, hi, hf]
  have hlast : max (-(t : Int) + ((n.log2 + t : Nat) : Int) - 52) (-1074) = (n.log2 : Int) - 52 := by omega
  rw [hlast]
  have hkept : Toward.even.cut false ((n * 2 ^ t) <<< (-(t : Int) - ((n.log2 : Int) - 52)).toNat) (((n.log2 : Int) - 52) - -(t : Int)).toNat = n * 2 ^ (52 - n.log2) := by
    rw [Nat.shiftLeft_eq]
    by_cases c : t ≤ 52 - n.log2
    · have e1 : (((n.log2 : Int) - 52) - -(t : Int)).toNat = 0 := by omega
      have e2 : (-(t : Int) - ((n.log2 : Int) - 52)).toNat = 52 - n.log2 - t := by omega
      rw [e1, e2, cut_zero, Nat.mul_assoc, ← Nat.pow_add, show t + (52 - n.log2 - t) = 52 - n.log2 by omega]
    · have e1 : (((n.log2 : Int) - 52) - -(t : Int)).toNat = t - (52 - n.log2) := by omega
      have e2 : (-(t : Int) - ((n.log2 : Int) - 52)).toNat = 0 := by omega
      have e3 : n * 2 ^ t = n * 2 ^ (52 - n.log2) * 2 ^ (t - (52 - n.log2)) := by
        rw [Nat.mul_assoc, ← Nat.pow_add, show 52 - n.log2 + (t - (52 - n.log2)) = t by omega]
      rw [e1, e2, Nat.pow_zero, Nat.mul_one, e3]
      refine cut_exact _ _ _ ?_
      rw [← e3, log_shift h0]; omega
  show Ieee.double.word false (min ((((n.log2 : Int) - 52) - (-1074)).toNat * 2 ^ 52 + Toward.even.cut false ((n * 2 ^ t) <<< (-(t : Int) - ((n.log2 : Int) - 52)).toNat) (((n.log2 : Int) - 52) - -(t : Int)).toNat) (2047 * 2 ^ 52)) = _
  rw [hkept]
  obtain ⟨a, b⟩ := (log_lt h0).1 rfl
  have hu : n * 2 ^ (52 - n.log2) < 2 ^ 53 := by
    have := Nat.mul_lt_mul_of_pos_right b (Nat.two_pow_pos (52 - n.log2))
    rw [← Nat.pow_add, show n.log2 + 1 + (52 - n.log2) = 53 by omega] at this
    exact this
  have e4 : ((n.log2 : Int) - 52 - -1074).toNat = n.log2 + 1022 := by omega
  rw [e4]
  unfold Format.word
  simp only [Bool.false_eq_true, if_false]
  rw [Nat.min_eq_left]
  generalize n * 2 ^ (52 - n.log2) = u at hu
  generalize n.log2 = e at h
  simp only [show (2 : Nat) ^ 52 = 4503599627370496 from rfl, show (2 : Nat) ^ 53 = 9007199254740992 from rfl] at *
  omega
theorem log_53 {n : Nat} (h0 : n ≠ 0) (h : n < 2 ^ 53) : n.log2 ≤ 52 := by
  have := (Nat.log2_lt h0).2 h
  omega
theorem dbl_is {n : Nat} (h0 : n ≠ 0) (h : n < 2 ^ 53) : dbl n = (n.log2 + 1022) * 2 ^ 52 + n * 2 ^ (52 - n.log2) := by
  have := nearest_exact n 0 h0 (log_53 h0 h) (by omega)
  rw [Nat.pow_zero, Nat.mul_one] at this
  exact this
theorem nearest_zero (p : Int) : Ieee.double.nearest false 0 p = 0 := by
  unfold Format.nearest
  rw [if_pos rfl]; rfl
theorem dbl_zero : dbl 0 = 0 := nearest_zero 0
theorem nearest_dbl (n t : Nat) (h : n < 2 ^ 53) (ht : t ≤ 1074) : Ieee.double.nearest false (n * 2 ^ t) (-(t : Int)) = dbl n := by
  by_cases h0 : n = 0
  · subst h0; rw [Nat.zero_mul, dbl_zero, nearest_zero]
  · rw [nearest_exact n t h0 (log_53 h0 h) ht, dbl_is h0 h]
theorem read_dbl {n : Nat} (h : n < 2 ^ 53) : ∃ t : Nat, t ≤ 1074 ∧ Ieee.double.read (dbl n) = .number false (n * 2 ^ t) (-(t : Int)) ∧ (n ≠ 0 → t ≤ 52) := by
  by_cases h0 : n = 0
  · subst h0
    obtain ⟨t, ht⟩ : ∃ t : Nat, t = 1074 := ⟨_, rfl⟩
    refine ⟨t, by omega, ?_, fun h => absurd rfl h⟩
    rw [Nat.zero_mul, dbl_zero, ht]; decide
  have hl := log_53 h0 h
  refine ⟨52 - n.log2, by omega, ?_, fun _ => by omega⟩
  obtain ⟨a, b⟩ := (log_lt h0).1 rfl
  have hlo : 2 ^ 52 ≤ n * 2 ^ (52 - n.log2) := by
    have := Nat.mul_le_mul_right (2 ^ (52 - n.log2)) a
    rw [← Nat.pow_add, show n.log2 + (52 - n.log2) = 52 by omega] at this
    exact this
  have hu : n * 2 ^ (52 - n.log2) < 2 ^ 53 := by
    have := Nat.mul_lt_mul_of_pos_right b (Nat.two_pow_pos (52 - n.log2))
    rw [← Nat.pow_add, show n.log2 + 1 + (52 - n.log2) = 53 by omega] at this
    exact this
  rw [dbl_is h0 h]
  generalize n * 2 ^ (52 - n.log2) = u at hlo hu
  generalize hle : n.log2 = e at hl
  have hlp : Ieee.double.leastPlace = -1074 := by decide
  have hb : Ieee.double.binade = 4503599627370496 := rfl
  have hi : Ieee.double.infRung = 9218868437227405312 := by decide
  have hs : Ieee.double.signWeight = 9223372036854775808 := rfl
  unfold Format.read
  rw [hlp, hb, hi, hs]
  simp only [show (2 : Nat) ^ 52 = 4503599627370496 from rfl, show (2 : Nat) ^ 53 = 9007199254740992 from rfl] at *
  have c1 : ((e + 1022) * 4503599627370496 + u) / 9223372036854775808 = 0 := by omega
  have c2 : ((e + 1022) * 4503599627370496 + u) % 9223372036854775808 = (e + 1022) * 4503599627370496 + u := by omega
  have c3 : ((e + 1022) * 4503599627370496 + u) % 4503599627370496 = u - 4503599627370496 := by omega
  have c4 : ((e + 1022) * 4503599627370496 + u) / 4503599627370496 = e + 1023 := by omega
  rw [c1, c2, c3, c4, if_neg (by omega), if_pos (by omega)]
  have c5 : 4503599627370496 + (u - 4503599627370496) = u := by omega
  have c6 : (-1074 : Int) + ((e + 1023 - 1 : Nat) : Int) = -((52 - e : Nat) : Int) := by omega
  rw [c5, c6]
  rfl
theorem dbl_add (a b : Nat) (h : a + b < 2 ^ 53) : Ieee.double.add (dbl a) (dbl b) = some (dbl (a + b)) := by
  obtain ⟨s, hs, ha, _⟩ := read_dbl (show a < 2 ^ 53 by omega)
  obtain ⟨t, ht, hb, _⟩ := read_dbl (show b < 2 ^ 53 by omega)
  unfold Format.add
  rw [ha, hb]
  unfold Datum.sum
  simp only [Option.map_some]
  have key : ∀ u : Nat, u ≤ 1074 → s ≤ u → t ≤ u → min (-(s : Int)) (-(t : Int)) = -(u : Int) → Ieee.double.write (.number (if signed false (a * 2 ^ s) (-(s : Int) - min (-(s : Int)) (-(t : Int))).toNat + signed false (b * 2 ^ t) (-(t : Int) - min (-(s : Int)) (-(t : Int))).toNat = 0 then false && false else decide (signed false (a * 2 ^ s) (-(s : Int) - min (-(s : Int)) (-(t : Int))).toNat + signed false (b * 2 ^ t) (-(t : Int) - min (-(s : Int)) (-(t : Int))).toNat < 0)) (signed false (a * 2 ^ s) (-(s : Int) - min (-(s : Int)) (-(t : Int))).toNat + signed false (b * 2 ^ t) (-(t : Int) - min (-(s : Int)) (-(t : Int))).toNat).natAbs (min (-(s : Int)) (-(t : Int)))) = dbl (a + b) := by
    intro u hu hsu htu hm
    rw [hm]
    have e1 : (-(s : Int) - -(u : Int)).toNat = u - s := by omega
    have e2 : (-(t : Int) - -(u : Int)).toNat = u - t := by omega
    rw [e1, e2]
    have f1 : signed false (a * 2 ^ s) (u - s) = ((a * 2 ^ u : Nat) : Int) := by
      unfold signed
      rw [if_neg (by simp), Nat.shiftLeft_eq, Nat.mul_assoc, ← Nat.pow_add, show s + (u - s) = u by omega]
    have f2 : signed false (b * 2 ^ t) (u - t) = ((b * 2 ^ u : Nat) : Int) := by
      unfold signed
      rw [if_neg (by simp), Nat.shiftLeft_eq, Nat.mul_assoc, ← Nat.pow_add, show t + (u - t) = u by omega]
    rw [f1, f2, ← Int.natCast_add, ← Nat.add_mul, Int.natAbs_natCast]
    have g : (if (((a + b) * 2 ^ u : Nat) : Int) = 0 then false && false else decide ((((a + b) * 2 ^ u : Nat) : Int) < 0)) = false := by
      split
      · rfl
      · exact decide_eq_false (by omega)
    rw [g]
    exact nearest_dbl (a + b) u h hu
  rcases Nat.le_total s t with c | c
  · rw [key t ht c (Nat.le_refl _) (by omega)]
  · rw [key s hs (Nat.le_refl _) c (by omega)]
theorem dbl_one_read : Ieee.double.read 4607182418800017408 = .number false (2 ^ 52) (-52) := by decide
theorem dbl_mul_one (a : Nat) (h : a < 2 ^ 53) : Ieee.double.mul (dbl a) 4607182418800017408 = some (dbl a) := by
  obtain ⟨s, hs, ha, hz⟩ := read_dbl h
  unfold Format.mul
  rw [ha, dbl_one_read]
  unfold Datum.product
  simp only [Option.map_some]
  congr 1
  show Ieee.double.nearest (false ^^ false) _ _ = _
  rw [show (false ^^ false) = false from rfl]
  by_cases h0 : a = 0
  · subst h0
    rw [Nat.zero_mul, Nat.zero_mul, dbl_zero, nearest_zero]
  have := hz h0
  rw [Nat.mul_assoc, ← Nat.pow_add, show -(s : Int) + -52 = -((s + 52 : Nat) : Int) by omega]
  exact nearest_dbl a (s + 52) h (by omega)
theorem dbl_mul_zero (a : Nat) (h : a < 2 ^ 53) : Ieee.double.mul (dbl a) 0 = some 0 := by
  obtain ⟨s, hs, ha, hz⟩ := read_dbl h
  unfold Format.mul
  rw [ha, show Ieee.double.read 0 = .number false 0 (-1074) from by decide]
  unfold Datum.product
  simp only [Option.map_some]
  show some (Ieee.double.nearest (false ^^ false) (a * 2 ^ s * 0) _) = _
  rw [show (false ^^ false) = false from rfl, Nat.mul_zero, nearest_zero]
theorem fltOf_nat (n : Nat) : fltOf (n : Int) = dbl n := by
  unfold fltOf floatOfInt FloatKind.nearest FloatKind.encode dbl
  have : decide ((n : Int) < 0) = false := decide_eq_false (by omega)
  rw [this, Int.natAbs_natCast]
  rfl
theorem dbl_eq {n : Nat} (h : n < 2 ^ 53) : Op.floatEq .f64 (dbl n) (dbl n) = true := by
  obtain ⟨s, hs, ha, hz⟩ := read_dbl h
  unfold Op.floatEq
  show (Ieee.double.order (dbl n) (dbl n) == some .eq) = true
  unfold Format.order
  rw [ha]
  unfold Datum.order
  simp
end Go.Proofs.YtjgnpmdbkgeakaaDoor.G
end
section
set_option linter.unusedVariables false
set_option linter.unusedSimpArgs false
set_option maxRecDepth 100000
namespace Go.Proofs.YtjgnpmdbkgeakaaDoor.G
open Go Go.Proofs.YtjgnpmdbkgeakaaDoor Th
theorem holdOK_eq (h : Hold) : holdOK h = (keyOK h.1 && (decide (h.2.1 < (1000000000000 : Int)) && (decide ((1 : Int) ≤ h.2.2.1) && decide (h.2.2.1 ≤ (3 : Int))))) := rfl
theorem refled_loop (k : Nat) (hk : 1000 < k) (l : List Hold) (hl : lensHs l) (hn : l.length ≤ 1000) : ∀ (j i : Nat), i + 1 + j = l.length → ∀ n, j < n →
    G74_2 k n (((i + 1 : Nat) : Int), l, ()) = some (sel ((l.drop (i + 1)).all holdOK && orderedH (l.drop i)) (.inl (l, ())) (.inr (false, ()))) := by
  intro j
  induction j with
  | zero =>
    intro i hij n hn'
    obtain ⟨n, rfl⟩ : ∃ m, n = m + 1 := ⟨n - 1, by omega⟩
    have hd : l.drop (i + 1) = [] := List.drop_eq_nil_of_le (by omega)
    rw [G74_2_eq, sel_neg (by simp only [ofNat_len]; omega), List.drop_eq_getElem_cons (show i < l.length by omega), hd]
    rfl
  | succ j ih =>
    intro i hij n hn'
    obtain ⟨n, rfl⟩ : ∃ m, n = m + 1 := ⟨n - 1, by omega⟩
    have hlt : i + 1 < l.length := by omega
    have hlt0 : i < l.length := by omega
    have hm := List.getElem_mem hlt
    have hlm := hl _ hm
    have hR : G28 k (((l[i + 1]).1.1, (l[i + 1]).1.2.1, ()), ()) = _ := G28_is k (by omega) l[i + 1].1 (by omega) (by omega)
    have hO : G30 k (((l[i]).1.1, (l[i]).1.2.1, ()), ((l[i + 1]).1.1, (l[i + 1]).1.2.1, ()), ()) = _ := G30_is k l[i].1 l[i + 1].1
    have hw : IntKind.i64.wrap (((i + 1 : Nat) : Int) + 1) = ((i + 1 + 1 : Nat) : Int) := by rw [wrap64 (by omega) (by omega)]; omega
    have hw2 : IntKind.i64.wrap (((i + 1 : Nat) : Int) - 1) = (i : Int) := by rw [wrap64 (by omega) (by omega)]; omega
    rw [G74_2_eq]
    simp only [ofNat_len, hw, hw2, Int.toNat_natCast, getD_of hlt, getD_of hlt0]
    rw [sel_pos (by omega), sel_pos (by omega), sel_pos (by omega), hR, ocall_some]
    have hd0 : l.drop i = l[i] :: l[i + 1] :: l.drop (i + 1 + 1) := by rw [List.drop_eq_getElem_cons hlt0, List.drop_eq_getElem_cons hlt]
    have hi := ih (i + 1) (by omega) n (by omega)
    rw [List.drop_eq_getElem_cons hlt] at hi ⊢
    rw [hd0]
    simp only [List.all_cons, orderedH]
    rw [holdOK_eq]
    cases keyOK (l[i + 1]).1 with
    | false => rfl
    | true =>
    simp only [Bool.not_true, sel_false, Bool.true_and]
    by_cases c1 : (l[i + 1]).2.1 < 1000000000000
    case neg => rw [sel_pos (by omega), decide_eq_false c1]; rfl
    rw [sel_neg (by omega), decide_eq_true c1]
    by_cases c2 : (1 : Int) ≤ (l[i + 1]).2.2.1
    case neg => rw [sel_pos (by omega), decide_eq_false c2]; rfl
    rw [sel_neg (by omega), decide_eq_true c2]
    by_cases c3 : (l[i + 1]).2.2.1 ≤ 3
    case neg => rw [sel_pos (by omega), decide_eq_false c3]; rfl
    rw [sel_neg (by omega), decide_eq_true c3, sel_pos (by omega), sel_pos (by omega), sel_pos (by omega), hO, ocall_some]
    by_cases ho : ordK l[i].1 l[i + 1].1 = -1
    · simp only [ho, decide_true, Bool.true_and]
      simp only [Bool.not_true, sel_false]
      exact hi
    · rw [sel_not, sel_neg ho, decide_eq_false ho]
      simp
theorem G74_is (k : Nat) (hk : 1001 < k) (l : List Hold) (hl : lensHs l) (hn : l.length ≤ 1000) : G74 k ((l, ()), ()) = some (ledOK l, ()) := by
  have hlp := refled_loop k (by omega) l hl hn
  rw [G74_eq]
  unfold ledOK
  obtain ⟨k', rfl⟩ : ∃ m, k = m + 1 := ⟨k - 1, by omega⟩
  have h1 : G74_2 (k' + 1) (k' + 1) (0, l, ()) = some (sel (l.all holdOK && orderedH l) (.inl (l, ())) (.inr (false, ()))) := by
    rw [G74_2_eq]
    by_cases h0 : l.length = 0
    · obtain rfl : l = [] := List.eq_nil_of_length_eq_zero h0
      rw [sel_neg (by simp)]; rfl
    have hlt : 0 < l.length := by omega
    have hm := List.getElem_mem hlt
    have hlm := hl _ hm
    have e0 : l.getD (Int.toNat 0) ((0, [], ()), 0, 0, ()) = l[0] := getD_of hlt _
    have hR : G28 (k' + 1) (((l[0]).1.1, (l[0]).1.2.1, ()), ()) = _ := G28_is (k' + 1) (by omega) l[0].1 (by omega) (by omega)
    simp only [e0, ofNat_len]
    have hw : IntKind.i64.wrap (0 + 1) = ((0 + 1 : Nat) : Int) := rfl
    rw [sel_pos (by omega), sel_pos (by omega), sel_pos (by omega), hR, ocall_some, hw, hlp (l.length - 1) 0 (by omega) k' (by omega)]
    have hd : l = l[0] :: l.drop 1 := by
      have := List.drop_eq_getElem_cons hlt
      rwa [List.drop_zero] at this
    have ha : l.all holdOK = (holdOK l[0] && (l.drop 1).all holdOK) := by
      conv => lhs; rw [hd]
      rfl
    rw [ha, List.drop_zero, holdOK_eq l[0]]
    cases keyOK (l[0]).1 with
    | false => rfl
    | true =>
    simp only [Bool.not_true, sel_false, Bool.true_and]
    by_cases c1 : (l[0]).2.1 < 1000000000000
    case neg => rw [sel_pos (by omega), decide_eq_false c1]; rfl
    rw [sel_neg (by omega), decide_eq_true c1]
    by_cases c2 : (1 : Int) ≤ (l[0]).2.2.1
    case neg => rw [sel_pos (by omega), decide_eq_false c2]; rfl
    rw [sel_neg (by omega), decide_eq_true c2]
    by_cases c3 : (l[0]).2.2.1 ≤ 3
    case neg => rw [sel_pos (by omega), decide_eq_false c3]; rfl
    rw [sel_neg (by omega), decide_eq_true c3, sel_neg (by omega)]
    rfl
  rw [h1, ocall_some]
  cases c : (l.all holdOK && orderedH l) with
  | true =>
    rw [sel_true, esel_inl, Bool.true_and]
    simp only [ofNat_len]
    rw [show decide ((l.length : Int) < 257) = decide (l.length ≤ 256) from decide_eq_decide.2 (by omega)]
  | false => rw [sel_false, esel_inr]; rfl
theorem placeH_loop (k : Nat) (l : List Hold) (hn : l.length ≤ 1000000) (key : Key) : ∀ (j i : Nat), i + j = l.length → ∀ n, j < n →
    G71_2 k n ((i : Int), l, key.1, key.2.1, ()) = some (match placeEH key (l.drop i) i with | some p => .inr ((p : Int), ()) | none => .inl ()) := by
  intro j
  induction j with
  | zero =>
    intro i hij n hn'
    obtain ⟨n, rfl⟩ : ∃ m, n = m + 1 := ⟨n - 1, by omega⟩
    rw [G71_2_eq, sel_neg (by simp only [ofNat_len]; omega), List.drop_eq_nil_of_le (by omega)]
    rfl
  | succ j ih =>
    intro i hij n hn'
    obtain ⟨n, rfl⟩ : ∃ m, n = m + 1 := ⟨n - 1, by omega⟩
    have hlt : i < l.length := by omega
    have hi := ih (i + 1) (by omega) n (by omega)
    have hw : IntKind.i64.wrap ((i : Int) + 1) = ((i + 1 : Nat) : Int) := by rw [wrap64 (by omega) (by omega)]; omega
    have hs : (sameI (l[i]).1.1 key.1 && (sameS (l[i]).1.2.1 key.2.1 && true)) = decide ((l[i]).1 = key) := sameK (l[i]).1 key
    rw [G71_2_eq]
    simp only [ofNat_len, Int.toNat_natCast, getD_of hlt, hw]
    rw [sel_pos (by omega), sel_pos (by omega), sel_pos (by omega), hs, List.drop_eq_getElem_cons hlt]
    unfold placeEH
    by_cases c : (l[i]).1 = key
    · rw [decide_eq_true c, sel_true, if_pos c]
    · rw [decide_eq_false c, sel_false, if_neg c]; exact hi
theorem G71_is (k : Nat) (l : List Hold) (hn : l.length ≤ 1000000) (hk : l.length < k) (key : Key) : G71 k ((l, ()), key, ()) = some (match placeEH key l 0 with | some p => (p : Int) | none => -1, ()) := by
  have h := placeH_loop k l hn key l.length 0 (by omega) k hk
  rw [List.drop_zero, Int.natCast_zero] at h
  obtain ⟨k1, k2, ⟨⟩⟩ := key
  rw [G71_eq]
  rw [h, ocall_some]
  cases placeEH (k1, k2, ()) l 0 with
  | some e => rfl
  | none => rfl
def putH (e : Hold) : Bool → List Hold → List Hold × Bool
  | d, [] => ([], d)
  | d, x :: t => ((if ordK e.1 x.1 ≤ 0 ∧ d = false then [e] else []) ++ ((if ordK e.1 x.1 = 0 then [] else [x]) ++ (putH e (d || decide (ordK e.1 x.1 ≤ 0)) t).1), (putH e (d || decide (ordK e.1 x.1 ≤ 0)) t).2)
theorem putH_loop (k : Nat) (l : List Hold) (hn : l.length ≤ 1000) (e : Hold) (v8 : List Hold) : ∀ (j i : Nat), i + j = l.length → ∀ (out : List Hold) (d : Bool), out.length ≤ 2 * i → ∀ n, j < n →
    G138_4 k n (out, d, (i : Int), l, e.1.1, e.1.2.1, e.2.1, e.2.2.1, v8, ()) =
      some (out ++ (putH e d (l.drop i)).1, (putH e d (l.drop i)).2, e.1.1, e.1.2.1, e.2.1, e.2.2.1, v8, ()) := by
  intro j
  induction j with
  | zero =>
    intro i hij out d hout n hn'
    obtain ⟨n, rfl⟩ : ∃ m, n = m + 1 := ⟨n - 1, by omega⟩
    rw [G138_4_eq, sel_neg (by simp only [ofNat_len]; omega), List.drop_eq_nil_of_le (by omega)]
    simp only [putH, List.append_nil]
  | succ j ih =>
    intro i hij out d hout n hn'
    obtain ⟨n, rfl⟩ : ∃ m, n = m + 1 := ⟨n - 1, by omega⟩
    have hlt : i < l.length := by omega
    have hi := ih (i + 1) (by omega)
    have hw : IntKind.i64.wrap ((i : Int) + 1) = ((i + 1 : Nat) : Int) := by rw [wrap64 (by omega) (by omega)]; omega
    have hO : G30 k ((e.1.1, e.1.2.1, ()), ((l[i]).1.1, (l[i]).1.2.1, ()), ()) = _ := G30_is k e.1 l[i].1
    rw [G138_4_eq]
    simp only [ofNat_len, Int.toNat_natCast, getD_of hlt, hw]
    have hx : ((((l[i]).1.1, (l[i]).1.2.1, ()), (l[i]).2.1, (l[i]).2.2.1, ()) : Hold) = l[i] := rfl
    have he : (((e.1.1, e.1.2.1, ()), e.2.1, e.2.2.1, ()) : Hold) = e := rfl
    rw [sel_pos (by omega), sel_pos (by omega), sel_pos (by omega), hO, ocall_some, List.drop_eq_getElem_cons hlt, hx, he]
    simp only [putH]
    by_cases c1 : ordK e.1 (l[i]).1 ≤ 0
    · rw [sel_pos c1, decide_eq_true c1, Bool.or_true]
      cases d with
      | false =>
        simp only [Bool.not_false, sel_true]
        rw [sel_pos (by omega), if_pos ⟨c1, trivial⟩]
        by_cases c2 : ordK e.1 (l[i]).1 = 0
        · rw [sel_not, sel_pos c2, if_pos c2, hi (out ++ [e]) true (by rw [List.length_append, List.length_singleton]; omega) n (by omega)]
          simp
        · rw [sel_not, sel_neg c2, if_neg c2, sel_pos (by omega), sel_pos (by omega), sel_pos (by rw [List.length_append, List.length_singleton]; omega), hi (out ++ [e] ++ [l[i]]) true (by simp only [List.length_append, List.length_singleton]; omega) n (by omega)]
          simp
      | true =>
        simp only [Bool.not_true, sel_false]
        rw [if_neg (by simp)]
        by_cases c2 : ordK e.1 (l[i]).1 = 0
        · rw [sel_not, sel_pos c2, if_pos c2, hi out true (by omega) n (by omega)]
          simp
        · rw [sel_not, sel_neg c2, if_neg c2, sel_pos (by omega), sel_pos (by omega), sel_pos (by omega), hi (out ++ [l[i]]) true (by simp only [List.length_append, List.length_singleton]; omega) n (by omega)]
          simp
    · rw [sel_neg c1, decide_eq_false c1, Bool.or_false, if_neg (fun h => c1 h.1)]
      have c2 : ¬ ordK e.1 (l[i]).1 = 0 := by omega
      rw [sel_not, sel_neg c2, if_neg c2, sel_pos (by omega), sel_pos (by omega), sel_pos (by omega), hi (out ++ [l[i]]) d (by simp only [List.length_append, List.length_singleton]; omega) n (by omega)]
      simp
def putHL (l : List Hold) (e : Hold) : List Hold := (putH e false l).1 ++ (if (putH e false l).2 = true then [] else [e])
theorem putH_len (e : Hold) : ∀ (l : List Hold) (d : Bool), (putH e d l).1.length ≤ 2 * l.length := by
  intro l
  induction l with
  | nil => intro d; simp [putH]
  | cons x t ih =>
    intro d
    have := ih (d || decide (ordK e.1 x.1 ≤ 0))
    simp only [putH, List.length_append, List.length_cons]
    split <;> split <;> simp <;> omega
theorem G138_is (k : Nat) (hk : 1001 < k) (l : List Hold) (hn : l.length ≤ 1000) (e : Hold) : G138 k ((l, ()), e, ()) = some ((putHL l e, ()), ()) := by
  have h := putH_loop k l hn e [] l.length 0 (by omega) [] false (by simp) k (by omega)
  have hlen := putH_len e l false
  rw [List.drop_zero, Int.natCast_zero, List.nil_append] at h
  unfold putHL
  obtain ⟨⟨e1, e2, ⟨⟩⟩, e3, e4, ⟨⟩⟩ := e
  rw [G138_eq, h, ocall_some]
  cases hd : (putH ((e1, e2, ()), e3, e4, ()) false l).2 with
  | true => simp only [Bool.not_true, sel_false, if_pos, List.append_nil]
  | false =>
    simp only [Bool.not_false, sel_true]
    rw [sel_pos (by omega)]; simp
theorem putH_done (e : Hold) : ∀ (t : List Hold), (∀ x ∈ t, ordK e.1 x.1 = -1) → putH e true t = (t, true) := by
  intro t
  induction t with
  | nil => intro _; rfl
  | cons x t ih =>
    intro h
    have h1 := h x (List.mem_cons_self ..)
    simp only [putH, Bool.true_or]
    rw [ih fun y hy => h y (List.mem_cons_of_mem _ hy), if_neg (by simp), if_neg (by rw [h1]; decide)]
    rfl
theorem putHL_eq (e : Hold) : ∀ (l : List Hold), orderedH l = true → putHL l e = if hasAtH l e.1 = true then l.set (posEH l e.1) e else insLH l e := by
  intro l
  induction l with
  | nil => intro _; rfl
  | cons x t ih =>
    intro ho
    have ht := ordered_tailH ho
    have hi := ih ht
    have hf := ordK_flip x.1 e.1
    by_cases c : ordK x.1 e.1 = -1
    · have hp := posE_posH (t := t) c
      have c1 : ordK e.1 x.1 = 1 := by omega
      have hh : hasAtH (x :: t) e.1 = hasAtH t e.1 := by unfold hasAtH; rw [hp, List.getElem?_cons_succ]
      have hput : putHL (x :: t) e = x :: putHL t e := by
        unfold putHL
        simp only [putH]
        rw [if_neg (by omega), if_neg (by omega), show (false || decide (ordK e.1 x.1 ≤ 0)) = false from by rw [decide_eq_false (by omega)]; rfl]
        simp
      rw [hput, hi, hh]
      by_cases h : hasAtH t e.1 = true
      · rw [if_pos h, if_pos h, hp, List.set_cons_succ]
      · rw [if_neg h, if_neg h]
        unfold insLH
        rw [hp, List.take_succ_cons, List.drop_succ_cons]
        rfl
    · have hp := posE_zeroH (t := t) c
      have hcs := ordK_cases x.1 e.1
      have hlt : ∀ y ∈ t, ordK e.1 y.1 = -1 := by
        intro y hy
        have hxy := ordered_ltH ho y hy
        rcases hcs with h | h | h
        · exact absurd h c
        · rw [ordK_zero.1 h] at hxy; exact hxy
        · exact ordK_trans (show ordK e.1 x.1 = -1 by omega) hxy
      have hd : (false || decide (ordK e.1 x.1 ≤ 0)) = true := by rw [decide_eq_true (show ordK e.1 x.1 ≤ 0 by omega)]; rfl
      have hput : putHL (x :: t) e = [e] ++ ((if ordK e.1 x.1 = 0 then [] else [x]) ++ t) := by
        unfold putHL
        simp only [putH]
        rw [hd, putH_done e t hlt, if_pos ⟨by omega, trivial⟩]
        simp
      have hh : hasAtH (x :: t) e.1 = decide (x.1 = e.1) := by unfold hasAtH; rw [hp]; rfl
      rw [hput, hh]
      by_cases h0 : x.1 = e.1
      · rw [decide_eq_true h0, if_pos rfl, if_pos (ordK_zero.2 h0.symm), hp]; rfl
      · rw [decide_eq_false h0, if_neg (fun h => h0 (ordK_zero.1 h).symm), if_neg (by simp)]
        unfold insLH
        rw [hp]; rfl
theorem put_with {l : List Hold} (ho : orderedH l = true) {h : Hold} (hh : hasAtH l h.1 = true ∨ l.length ≠ 256) : withL l h = (putHL l h, true) := by
  rw [putHL_eq h l ho]
  cases c : hasAtH l h.1 with
  | true => rw [if_pos rfl, with_set c]
  | false =>
    rw [if_neg (by simp), with_ins c (by rcases hh with h2 | h2; · rw [c] at h2; cases h2
                                         · exact h2)]
theorem G73_is (k : Nat) (hk : 2001 < k) (l : List Hold) (hl : lensHs l) (hn : l.length ≤ 1000) (d : Deal) (hd : lens 300 d) (gd : goodD d) (ap : Bool) : G73 k ((l, ()), d, ap, ()) = some ((((doL l d ap).1, ()), (doL l d ap).2.1, (doL l d ap).2.2, ()), ()) := by
  have hR := G74_is k (by omega) l hl hn
  have hD := G36_is k 300 (by omega) (by omega) d hd gd
  have hP := G71_is k l (by omega) (by omega) (keyD d)
  have hput := fun e => G138_is k (by omega) l hn e
  have hpf := place_findH (keyD d) l 0
  unfold doL
  obtain ⟨d1, d2, d3, d4, d5, d6, ⟨⟩⟩ := d
  rw [G73_eq, hR, ocall_some]
  cases hs : ledOK l with
  | false => rw [if_neg (by simp)]; rfl
  | true =>
  obtain ⟨_, ho, h256⟩ := led_parts hs
  simp only [Bool.not_true, sel_false]
  rw [hD, ocall_some]
  cases he : dealOK (d1, d2, d3, d4, d5, d6, ()) with
  | false => rw [if_neg (by simp)]; rfl
  | true =>
  simp only [Bool.not_true, sel_false]
  first | rw [if_pos (⟨rfl, rfl⟩ : true = true ∧ true = true)] | rw [if_pos (⟨trivial, trivial⟩ : True ∧ True)]
  have hP' : G71 k ((l, ()), (d4, d5, ()), ()) = _ := hP
  have m1 : decide ((-1 : Int) < 0) = true := rfl
  have m2 : decide ((0 : Int) ≤ -1) = false := rfl
  cases hp : placeEH (keyD (d1, d2, d3, d4, d5, d6, ())) l 0 with
  | some p =>
    rw [hp] at hP' hpf
    obtain ⟨_, hlt, hf, hk'⟩ := hpf
    rw [Nat.sub_zero] at hlt
    simp only [Nat.sub_zero] at hf hk'
    have hhas := has_some ho hf
    have q1 : decide ((p : Int) < 0) = false := decide_eq_false (by omega)
    have q2 : decide ((0 : Int) ≤ (p : Int)) = true := decide_eq_true (by omega)
    have q3 : decide ((p : Int) < Int.ofNat l.length) = true := decide_eq_true (by rw [ofNat_len]; omega)
    have hg : l.getD (Int.toNat (p : Int)) ((0, [], ()), 0, 0, ()) = l[p] := by rw [Int.toNat_natCast]; exact getD_of hlt _
    simp only [hP', ocall_some, q1, q2, q3, hg, sel_true, sel_false]
    have hback : ∀ d', keyD d' = keyD (d1, d2, d3, d4, d5, d6, ()) → advL l d' = (putHL l ((d4, d5, ()), (l[p]).2.1, 3, ()), [48, 48]) := by
      intro d' e
      unfold advL
      rw [e, hf]
      unfold backL
      have hw := put_with (h := ((l[p]).1, (l[p]).2.1, 3, ())) ho (.inl (by rw [show ((l[p]).1, (l[p]).2.1, (3 : Int), ()).1 = keyD (d1, d2, d3, d4, d5, d6, ()) from hk']; exact hhas))
      (try simp only [])
      rw [hw, if_pos rfl]
      have : (l[p]).1 = (d4, d5, ()) := hk'
      rw [this]
    have hpp : G138 k ((l, ()), ((d4, d5, ()), (l[p]).2.1, 3, ()), ()) = _ := hput ((d4, d5, ()), (l[p]).2.1, 3, ())
    by_cases c1 : d1 = 1
    · have t1 : decide (d1 = 1) = true := decide_eq_true c1
      simp only [t1, Bool.not_true, sel_false, sel_true]
      rw [if_pos c1]
      unfold askL
      rw [hf]
      (try simp only [])
      by_cases c2 : (l[p]).2.2.1 = 1
      · rw [decide_eq_true c2, if_pos c2]
        simp only [Bool.not_true, sel_false]
        by_cases c3 : (l[p]).2.1 = d3
        · rw [decide_eq_true c3, if_pos c3]; rfl
        · rw [decide_eq_false c3, if_neg c3]; rfl
      · rw [decide_eq_false c2, if_neg c2]; rfl
    by_cases c5 : d1 = 5
    · have t1 : decide (d1 = 1) = false := decide_eq_false c1; have t5 : decide (d1 = 5) = true := decide_eq_true c5
      simp only [t1, t5, Bool.not_true, Bool.not_false, sel_false, sel_true]
      rw [hpp, ocall_some, if_neg c1, if_pos (.inl c5), hback _ rfl]
    by_cases c6 : d1 = 6
    · have t1 : decide (d1 = 1) = false := decide_eq_false c1; have t5 : decide (d1 = 5) = false := decide_eq_false c5; have t6 : decide (d1 = 6) = true := decide_eq_true c6
      simp only [t1, t5, t6, Bool.not_true, Bool.not_false, sel_false, sel_true]
      rw [hpp, ocall_some, if_neg c1, if_pos (.inr c6), hback _ rfl]
    simp only [decide_eq_false c1, decide_eq_false c5, decide_eq_false c6, Bool.not_false, sel_true]
    rw [if_neg c1, if_neg (by omega)]; rfl
  | none =>
    rw [hp] at hP' hpf
    have hf : findEH l (keyD (d1, d2, d3, d4, d5, d6, ())) = none := hpf
    have hhas := has_none ho hf
    simp only [hP', ocall_some, m1, m2, sel_true, sel_false]
    by_cases h7 : l.length = 256
    · have q : decide (Int.ofNat l.length = 256) = true := decide_eq_true (by rw [ofNat_len]; omega)
      simp only [q, sel_true]
      have hw : ∀ a s, withL l ((d4, d5, ()), a, s, ()) = (l, false) := fun a s => with_full hhas h7
      by_cases c1 : d1 = 1
      · have t1 : decide (d1 = 1) = true := decide_eq_true c1
        simp only [t1, Bool.not_true, sel_false, sel_true]
        rw [if_pos c1]
        unfold askL
        rw [hf]
        (try simp only [])
        rw [show withL l (keyD (d1, d2, d3, d4, d5, d6, ()), d3, (if ap = true then (1 : Int) else 2), ()) = (l, false) from hw _ _, if_neg (by simp)]
      by_cases c5 : d1 = 5
      · have t1 : decide (d1 = 1) = false := decide_eq_false c1; have t5 : decide (d1 = 5) = true := decide_eq_true c5
        simp only [t1, t5, Bool.not_true, Bool.not_false, sel_false, sel_true]
        rw [if_neg c1, if_pos (.inl c5)]
        unfold advL
        rw [hf]
        unfold backL
        (try simp only [])
        rw [show withL l (keyD (d1, d2, d3, d4, d5, d6, ()), d3, 3, ()) = (l, false) from hw _ _, if_neg (by simp)]
      by_cases c6 : d1 = 6
      · have t1 : decide (d1 = 1) = false := decide_eq_false c1; have t5 : decide (d1 = 5) = false := decide_eq_false c5; have t6 : decide (d1 = 6) = true := decide_eq_true c6
        simp only [t1, t5, t6, Bool.not_true, Bool.not_false, sel_false, sel_true]
        rw [if_neg c1, if_pos (.inr c6)]
        unfold advL
        rw [hf]
        unfold backL
        (try simp only [])
        rw [show withL l (keyD (d1, d2, d3, d4, d5, d6, ()), d3, 3, ()) = (l, false) from hw _ _, if_neg (by simp)]
      simp only [decide_eq_false c1, decide_eq_false c5, decide_eq_false c6, Bool.not_false, sel_true]
      rw [if_neg c1, if_neg (by omega)]; rfl
    · have q : decide (Int.ofNat l.length = 256) = false := decide_eq_false (by rw [ofNat_len]; omega)
      simp only [q, sel_false]
      have hw : ∀ a s, withL l ((d4, d5, ()), a, s, ()) = (putHL l ((d4, d5, ()), a, s, ()), true) := fun a s => put_with ho (.inr h7)
      have hpp : ∀ a s, G138 k ((l, ()), ((d4, d5, ()), a, s, ()), ()) = some ((putHL l ((d4, d5, ()), a, s, ()), ()), ()) := fun a s => hput ((d4, d5, ()), a, s, ())
      by_cases c1 : d1 = 1
      · have t1 : decide (d1 = 1) = true := decide_eq_true c1
        simp only [t1, Bool.not_true, sel_false, sel_true]
        rw [if_pos c1]
        unfold askL
        rw [hf]
        (try simp only [])
        rw [show withL l (keyD (d1, d2, d3, d4, d5, d6, ()), d3, (if ap = true then (1 : Int) else 2), ()) = _ from hw _ _, if_pos rfl]
        cases ap with
        | true => rw [sel_true, hpp, ocall_some]; rfl
        | false => rw [sel_false, hpp, ocall_some]; rfl
      by_cases c5 : d1 = 5
      · have t1 : decide (d1 = 1) = false := decide_eq_false c1; have t5 : decide (d1 = 5) = true := decide_eq_true c5
        simp only [t1, t5, Bool.not_true, Bool.not_false, sel_false, sel_true]
        rw [if_neg c1, if_pos (.inl c5)]
        unfold advL
        rw [hf]
        unfold backL
        (try simp only [])
        rw [show withL l (keyD (d1, d2, d3, d4, d5, d6, ()), d3, 3, ()) = _ from hw _ _, if_pos rfl, hpp, ocall_some]
      by_cases c6 : d1 = 6
      · have t1 : decide (d1 = 1) = false := decide_eq_false c1; have t5 : decide (d1 = 5) = false := decide_eq_false c5; have t6 : decide (d1 = 6) = true := decide_eq_true c6
        simp only [t1, t5, t6, Bool.not_true, Bool.not_false, sel_false, sel_true]
        rw [if_neg c1, if_pos (.inr c6)]
        unfold advL
        rw [hf]
        unfold backL
        (try simp only [])
        rw [show withL l (keyD (d1, d2, d3, d4, d5, d6, ()), d3, 3, ()) = _ from hw _ _, if_pos rfl, hpp, ocall_some]
      simp only [decide_eq_false c1, decide_eq_false c5, decide_eq_false c6, Bool.not_false, sel_true]
      rw [if_neg c1, if_neg (by omega)]; rfl
def totN (st : Int) : List Hold → Nat
  | [] => 0
  | h :: t => (if h.2.2.1 = st then h.2.1.toNat else 0) + totN st t
theorem tot_le (st : Int) : ∀ (l : List Hold), l.all holdOK = true → totN st l ≤ l.length * 1000000000000 := by
  intro l
  induction l with
  | nil => intro _; exact Nat.le_refl _
  | cons h t ih =>
    intro ha
    rw [List.all_cons, Bool.and_eq_true] at ha
    obtain ⟨_, h2, _⟩ := hold_parts ha.1
    have := ih ha.2
    unfold totN
    rw [List.length_cons]
    split <;> omega
theorem total_loop (k : Nat) (l : List Hold) (hg : goodHs l) (ha : l.all holdOK = true) (hn : l.length ≤ 256) (st : Int) : ∀ (j i : Nat), i + j = l.length → ∀ (acc : Nat), acc ≤ i * 1000000000000 → ∀ n, j < n →
    G75_3 k n (st, (acc : Int), (i : Int), l, ()) = some (((acc + totN st (l.drop i) : Nat) : Int), ()) := by
  intro j
  induction j with
  | zero =>
    intro i hij acc hacc n hn'
    obtain ⟨n, rfl⟩ : ∃ m, n = m + 1 := ⟨n - 1, by omega⟩
    rw [G75_3_eq, sel_neg (by simp only [ofNat_len]; omega), List.drop_eq_nil_of_le (by omega)]
    rfl
  | succ j ih =>
    intro i hij acc hacc n hn'
    obtain ⟨n, rfl⟩ : ∃ m, n = m + 1 := ⟨n - 1, by omega⟩
    have hlt : i < l.length := by omega
    have hw : IntKind.i64.wrap ((i : Int) + 1) = ((i + 1 : Nat) : Int) := by rw [wrap64 (by omega) (by omega)]; omega
    have hm := List.getElem_mem hlt
    obtain ⟨_, h2, _⟩ := hold_parts (List.all_eq_true.1 ha _ hm)
    have h0 := (hg _ hm).2.1
    rw [G75_3_eq]
    simp only [ofNat_len, Int.toNat_natCast, getD_of hlt, hw]
    rw [sel_pos (by omega), sel_pos (by omega), sel_pos (by omega), List.drop_eq_getElem_cons hlt]
    unfold totN
    by_cases c : (l[i]).2.2.1 = st
    · have hu : IntKind.u64.wrap ((acc : Int) + (l[i]).2.1) = ((acc + (l[i]).2.1.toNat : Nat) : Int) := by
        have : IntKind.u64.wrap ((acc : Int) + (l[i]).2.1) = ((acc : Int) + (l[i]).2.1) % 18446744073709551616 := rfl
        rw [this]; omega
      rw [sel_pos c, if_pos c, sel_pos (by omega), sel_pos (by omega), hu, ih (i + 1) (by omega) (acc + (l[i]).2.1.toNat) (by omega) n (by omega), Nat.add_assoc]
    · rw [sel_neg c, if_neg c, ih (i + 1) (by omega) acc (Nat.le_trans hacc (Nat.mul_le_mul_right _ (Nat.le_succ i))) n (by omega), Nat.zero_add]
theorem G75_is (k : Nat) (hk : 300 < k) (l : List Hold) (hg : goodHs l) (ok : ledOK l = true) (st : Int) : G75 k ((l, ()), st, ()) = some ((totN st l : Int), ()) := by
  obtain ⟨ha, _, hn⟩ := led_parts ok
  have h := total_loop k l hg ha hn st l.length 0 (by omega) 0 (by omega) k (by omega)
  rw [List.drop_zero, Nat.zero_add, Int.natCast_zero] at h
  rw [G75_eq, h, ocall_some]
theorem c_add (a b c d : Nat) (h1 : a + c < 2 ^ 53) (h2 : b + d < 2 ^ 53) : cOp .add (dbl a) (dbl b) (dbl c) (dbl d) = some (dbl (a + c), dbl (b + d)) := by
  have e1 : floatBits .add .f64 (dbl a) (dbl c) = some (dbl (a + c)) := dbl_add a c h1
  have e2 : floatBits .add .f64 (dbl b) (dbl d) = some (dbl (b + d)) := dbl_add b d h2
  show cSumBits .add .f64 _ _ _ _ = _
  unfold cSumBits
  rw [e1, e2]; rfl
theorem c_mul (a : Nat) (h : a < 2 ^ 53) : cOp .mul (dbl a) 0 0 4607182418800017408 = some (dbl 0, dbl a) := by
  have e1 : floatBits .mul .f64 (dbl a) 0 = some 0 := dbl_mul_zero a h
  have e2 : floatBits .mul .f64 0 4607182418800017408 = some 0 := by
    have := dbl_mul_one 0 (by omega)
    rw [dbl_zero] at this; exact this
  have e3 : floatBits .sub .f64 0 0 = some 0 := by kernel_rfl
  have e4 : floatBits .mul .f64 (dbl a) 4607182418800017408 = some (dbl a) := dbl_mul_one a h
  have e5 : floatBits .mul .f64 0 0 = some 0 := by
    have := dbl_mul_zero 0 (by omega)
    rw [dbl_zero] at this; exact this
  have e6 : floatBits .add .f64 (dbl a) 0 = some (dbl a) := by
    have := dbl_add a 0 (by omega)
    rw [dbl_zero] at this; exact this
  show cMulBits _ _ _ _ = _
  unfold cMulBits
  simp only [e1, e2, e3, e4, e5, e6, Option.bind_some, dbl_zero]
theorem sum_loop (k : Nat) (l : List Hold) (hg : goodHs l) (ha : l.all holdOK = true) (hn : l.length ≤ 256) : ∀ (j i : Nat), i + j = l.length → ∀ (a b : Nat), a ≤ i * 1000000000000 → b ≤ i * 1000000000000 → ∀ n, j < n →
    G78_5 k n ((dbl a, dbl b), l, (l.length : Int), (i : Int), ()) = some ((dbl (a + totN 1 (l.drop i)), dbl (b + totN 3 (l.drop i))), ()) := by
  intro j
  induction j with
  | zero =>
    intro i hij a b hab hbb n hn'
    obtain ⟨n, rfl⟩ : ∃ m, n = m + 1 := ⟨n - 1, by omega⟩
    rw [G78_5_eq, sel_neg (by omega), List.drop_eq_nil_of_le (by omega)]
    rfl
  | succ j ih =>
    intro i hij a b hab hbb n hn'
    obtain ⟨n, rfl⟩ : ∃ m, n = m + 1 := ⟨n - 1, by omega⟩
    have hlt : i < l.length := by omega
    have hw : IntKind.i64.wrap ((i : Int) + 1) = ((i + 1 : Nat) : Int) := by rw [wrap64 (by omega) (by omega)]; omega
    have hm := List.getElem_mem hlt
    obtain ⟨_, h2, _⟩ := hold_parts (List.all_eq_true.1 ha _ hm)
    have h0 := (hg _ hm).2.1
    have e53 : (2 : Nat) ^ 53 = 9007199254740992 := rfl
    have hx : (l[i]).2.1 = (((l[i]).2.1.toNat : Nat) : Int) := by omega
    have hf : fltOf (l[i]).2.1 = dbl (l[i]).2.1.toNat := by rw [hx, fltOf_nat, Int.toNat_natCast]
    have hs : (l[i]).2.1.toNat < 1000000000000 := by omega
    rw [G78_5_eq]
    simp only [ofNat_len, Int.toNat_natCast, getD_of hlt, hw, hf]
    rw [sel_pos (by omega), sel_pos (by omega), sel_pos (by omega), List.drop_eq_getElem_cons hlt]
    unfold totN
    generalize hv : (l[i]).2.1.toNat = v at *
    by_cases c : (l[i]).2.2.1 = 1
    · have e := c_add a b v 0 (by omega) (by omega)
      rw [dbl_zero] at e
      have k1 : cOK .add (dbl a) (dbl b) (dbl v) 0 = true := by unfold cOK; rw [e]; rfl
      have k2 : cVal .add (dbl a) (dbl b) (dbl v) 0 = (dbl (a + v), dbl (b + 0)) := by unfold cVal; rw [e]; rfl
      rw [sel_pos c, k1, sel_true, k2, if_pos c, if_neg (by omega)]
      (try simp only [])
      rw [ih (i + 1) (by omega) (a + v) (b + 0) (by omega) (Nat.le_trans hbb (Nat.mul_le_mul_right _ (Nat.le_succ i))) n (by omega)]
      simp only [Nat.add_assoc, Nat.zero_add, Nat.add_zero]
    rw [sel_neg c, if_neg c]
    by_cases c3 : (l[i]).2.2.1 = 3
    · have e := c_mul v (by omega)
      have k1 : cOK .mul (dbl v) 0 0 4607182418800017408 = true := by unfold cOK; rw [e]; rfl
      have k2 : cVal .mul (dbl v) 0 0 4607182418800017408 = (dbl 0, dbl v) := by unfold cVal; rw [e]; rfl
      have e' := c_add a b 0 v (by omega) (by omega)
      have k3 : cOK .add (dbl a) (dbl b) (dbl 0) (dbl v) = true := by unfold cOK; rw [e']; rfl
      have k4 : cVal .add (dbl a) (dbl b) (dbl 0) (dbl v) = (dbl (a + 0), dbl (b + v)) := by unfold cVal; rw [e']; rfl
      rw [sel_pos c3, k1, sel_true, k2]
      (try simp only [])
      rw [k3, sel_true, k4, if_pos c3]
      (try simp only [])
      rw [ih (i + 1) (by omega) (a + 0) (b + v) (Nat.le_trans hab (Nat.mul_le_mul_right _ (Nat.le_succ i))) (by omega) n (by omega)]
      simp only [Nat.add_assoc, Nat.zero_add, Nat.add_zero]
    · rw [sel_neg c3, if_neg c3, ih (i + 1) (by omega) a b (Nat.le_trans hab (Nat.mul_le_mul_right _ (Nat.le_succ i))) (Nat.le_trans hbb (Nat.mul_le_mul_right _ (Nat.le_succ i))) n (by omega)]
      simp only [Nat.zero_add]
theorem G78_is (k : Nat) (hk : 1001 < k) (l : List Hold) (hl : lensHs l) (hg : goodHs l) (hn : l.length ≤ 1000) : G78 k ((l, ()), ()) = some (sel (ledOK l) (dbl (totN 1 l), dbl (totN 3 l)) (0, 0), ()) := by
  have hR := G76_is k hk l hl hg hn
  rw [G78_eq, hR, ocall_some]
  cases ok : ledOK l with
  | false => rfl
  | true =>
  obtain ⟨ha, _, h256⟩ := led_parts ok
  have h := sum_loop k l hg ha h256 l.length 0 (by omega) 0 0 (by omega) (by omega) k (by omega)
  rw [List.drop_zero, Nat.zero_add, Nat.zero_add, dbl_zero, Int.natCast_zero] at h
  simp only [Bool.not_true, sel_false, sel_true, ofNat_len]
  rw [h, ocall_some]
end Go.Proofs.YtjgnpmdbkgeakaaDoor.G
end
section
set_option linter.unusedVariables false
set_option linter.unusedSimpArgs false
set_option maxRecDepth 100000
namespace Go.Proofs.YtjgnpmdbkgeakaaDoor.PureLedgerRight
open Go Go.Proofs.YtjgnpmdbkgeakaaDoor Th G
theorem zeroHo_same : (sameI zeroHo.1.1 0 && (sameS zeroHo.1.2.1 [] && true) && (sameI zeroHo.2.1 0 && (sameI zeroHo.2.2.1 0 && true))) = true := by kernel_rfl
theorem same0 : cSame 0 0 0 0 = true := by kernel_rfl
theorem main (l : List Hold) (d : Deal) (ap : Bool) (key : Key) (hg : goodHs l) (gd : goodD d) : G14 5000 ((l, ()), d, ap, key, ()) = some (true, ()) := by
  have hS := shortDO 5000 d
  have hK := shortK 5000 key
  obtain ⟨s, hs, hs2⟩ := G69_is 5000 (by omega) l
  have hF := fun hn hk => G70_is 5000 l hn hk key
  have hP := fun hn hk => G71_is 5000 l hn hk key
  have hpf := place_findH key l 0
  have h1 := fun hl hn hd => G72_is 5000 (by omega) l hl hg hn d hd gd ap
  have h2 := fun hl hn hd => G73_is 5000 (by omega) l hl hn d hd gd ap
  have h3 := fun hl hn => G74_is 5000 (by omega) l hl hn
  have h4 := fun ok => G75_is 5000 (by omega) l hg ok 1
  have h5 := fun ok => G75_is 5000 (by omega) l hg ok 3
  have h6 := fun hl hn => G76_is 5000 (by omega) l hl hg hn
  have h8 := fun hl hn => G78_is 5000 (by omega) l hl hg hn
  have hl2 := do_len l d ap
  have sD := sameD (doL l d ap).2.1 (doL l d ap).2.1
  rw [decide_eq_true rfl] at sD
  obtain ⟨d1, d2, d3, d4, d5, d6, ⟨⟩⟩ := d
  obtain ⟨k1, k2, ⟨⟩⟩ := key
  rw [G14_eq, G68_is 5000 (by omega), ocall_some]
  simp only [Bool.not_true, sel_false]
  rw [hs, ocall_some]
  cases s with
  | false => rfl
  | true =>
  obtain ⟨hn, hl⟩ := hs2 rfl
  simp only [Bool.not_true, sel_false]
  rw [hS, ocall_some]
  by_cases hd : lens 300 (d1, d2, d3, d4, d5, d6, ())
  case neg => rw [decide_eq_false hd]; rfl
  rw [decide_eq_true hd]
  simp only [Bool.not_true, sel_false]
  rw [hK, ocall_some]
  cases decide ((k1, k2, ()).2.1.length ≤ 300) with
  | false => rfl
  | true =>
  simp only [Bool.not_true, sel_false]
  rw [hF (by omega) (by omega), ocall_some, hP (by omega) (by omega), ocall_some]
  rw [h1 hl (by omega) hd, h2 hl (by omega) hd, h3 hl (by omega), h6 hl (by omega), h8 hl (by omega)]
  simp only [ocall_some]
  rw [G77_is 5000 _ _ (by omega) (by omega), decide_eq_true rfl]
  simp only [ocall_some, sel_true, sD, decide_true, sel_false]
  have fin : ∀ X : Option (Bool × Unit), X = (sel (ledOK l) (ocall (G75 5000 ((l, ()), 1, ())) fun r_4 => ocall (G75 5000 ((l, ()), 3, ())) fun r_5 => some (cSame (sel (ledOK l) (dbl (totN 1 l), dbl (totN 3 l)) (0, 0)).1 (sel (ledOK l) (dbl (totN 1 l), dbl (totN 3 l)) (0, 0)).2 (fltOf r_4.1) (fltOf r_5.1), ())) (some (cSame (sel (ledOK l) (dbl (totN 1 l), dbl (totN 3 l)) (0, 0)).1 (sel (ledOK l) (dbl (totN 1 l), dbl (totN 3 l)) (0, 0)).2 0 0, ()))) → X = some (true, ()) := by
    rintro X rfl
    cases ok : ledOK l with
    | false => simp only [sel_false, beq_self_eq_true, sel_true, same0]
    | true =>
      obtain ⟨ha, _, h256⟩ := led_parts ok
      have t1 := tot_le 1 l ha
      have t3 := tot_le 3 l ha
      have e1 := dbl_eq (n := totN 1 l) (by have : (2 : Nat) ^ 53 = 9007199254740992 := rfl
                                            omega)
      have e3 := dbl_eq (n := totN 3 l) (by have : (2 : Nat) ^ 53 = 9007199254740992 := rfl
                                            omega)
      rw [h4 ok, h5 ok]
      simp only [sel_true, ocall_some, fltOf_nat, beq_self_eq_true]
      unfold cSame
      rw [e1, e3]; rfl
  cases hp : placeEH (k1, k2, ()) l 0 with
  | some p =>
    rw [hp] at hpf
    obtain ⟨_, hlt, hf, hk'⟩ := hpf
    rw [Nat.sub_zero] at hlt
    simp only [Nat.sub_zero] at hf hk'
    rw [hf]
    have q2 : decide ((0 : Int) ≤ (p : Int)) = true := decide_eq_true (by omega)
    have q3 : decide ((p : Int) < Int.ofNat l.length) = true := decide_eq_true (by rw [ofNat_len]; omega)
    have hgp : l.getD (Int.toNat (p : Int)) ((0, [], ()), 0, 0, ()) = l[p] := by rw [Int.toNat_natCast]; exact getD_of hlt _
    have hsame := sameHo l[p] l[p]
    rw [decide_eq_true rfl] at hsame
    simp only [q2, q3, hgp, hsame, Bool.not_true, sel_false, sel_true, beq_self_eq_true]
    exact fin _ rfl
  | none =>
    rw [hp] at hpf
    have hf : findEH l (k1, k2, ()) = none := hpf
    rw [hf]
    have m2 : decide ((0 : Int) ≤ -1) = false := rfl
    simp only [m2, zeroHo_same, Bool.not_true, Bool.not_false, sel_false, sel_true, beq_self_eq_true]
    exact fin _ rfl
theorem pure (x0 : Ty.den (.st (.cons (.slice (.st (.cons (.st (.cons (.int .u32) (.cons .str .nil))) (.cons (.int .u64) (.cons (.int .i64) .nil))))) .nil))) (x1 : Ty.den (.st (.cons (.int .i64) (.cons .str (.cons (.int .u64) (.cons (.int .u32) (.cons .str (.cons .str .nil)))))))) (x2 : Ty.den .bool) (x3 : Ty.den (.st (.cons (.int .u32) (.cons .str .nil)))) (g0 : Ty.Good (.st (.cons (.slice (.st (.cons (.st (.cons (.int .u32) (.cons .str .nil))) (.cons (.int .u64) (.cons (.int .i64) .nil))))) .nil)) x0) (g1 : Ty.Good (.st (.cons (.int .i64) (.cons .str (.cons (.int .u64) (.cons (.int .u32) (.cons .str (.cons .str .nil))))))) x1) (g2 : Ty.Good .bool x2) (g3 : Ty.Good (.st (.cons (.int .u32) (.cons .str .nil))) x3) : ∃ k, F14 k (x0, (x1, (x2, (x3, PUnit.unit)))) = some (true, PUnit.unit) :=
  ⟨5000, main x0.1 x1 x2 x3 (fun h hh => have g := g0.1.2.2 h hh; ⟨good_u32 g.1.1, good_u64 g.2.1⟩) ⟨good_u64 g1.2.2.1, good_u32 g1.2.2.2.1⟩⟩
end Go.Proofs.YtjgnpmdbkgeakaaDoor.PureLedgerRight
end
section
set_option linter.unusedVariables false
set_option linter.unusedSimpArgs false
namespace Go.Proofs.YtjgnpmdbkgeakaaDoor
open Go Go.ChangeShapes Go.WideShapes Go.ChangeAt Go.RowKit Th
theorem own : ownKnob Tryd.prog.godebug = none := by kernel_rfl
theorem laidOut : laidOutB Tryd.prog = true := by kernel_rfl
theorem gTypes : Tryd.prog.globalNamed "paydesk/deal.types" = some 0 := by kernel_rfl
theorem tTypes : (Tryd.prog.globals[0]?).map (·.type) = some 229 := by kernel_rfl
theorem mapsRowed' : mapsRowed Tryd.prog = true := by kernel_rfl
theorem stopsHeard' : Tryd.prog.stopsHeard = true := by kernel_rfl
theorem stops' : Tryd.prog.stops = [] := by kernel_rfl
theorem stopKnobs' : Tryd.prog.stopKnobs = [] := by kernel_rfl
theorem plainKeys' : Tryd.prog.plainKeys = Rows.keyRightRow.plainKeys := by kernel_rfl
def ioL : List Char := [Char.ofNat 104, Char.ofNat 97, Char.ofNat 114, Char.ofNat 110, Char.ofNat 101, Char.ofNat 115, Char.ofNat 115, Char.ofNat 32, Char.ofNat 52, Char.ofNat 98, Char.ofNat 55, Char.ofNat 54, Char.ofNat 48, Char.ofNat 97, Char.ofNat 99, Char.ofNat 102, Char.ofNat 49, Char.ofNat 97, Char.ofNat 100, Char.ofNat 99, Char.ofNat 54, Char.ofNat 100, Char.ofNat 51, Char.ofNat 54, Char.ofNat 49, Char.ofNat 50, Char.ofNat 51, Char.ofNat 50, Char.ofNat 57, Char.ofNat 97, Char.ofNat 98, Char.ofNat 51, Char.ofNat 99, Char.ofNat 50, Char.ofNat 48, Char.ofNat 101, Char.ofNat 99, Char.ofNat 48, Char.ofNat 49, Char.ofNat 52, Char.ofNat 53, Char.ofNat 53, Char.ofNat 56, Char.ofNat 101, Char.ofNat 50, Char.ofNat 54, Char.ofNat 55, Char.ofNat 99, Char.ofNat 52, Char.ofNat 57, Char.ofNat 52, Char.ofNat 101, Char.ofNat 54, Char.ofNat 53, Char.ofNat 52, Char.ofNat 48, Char.ofNat 49, Char.ofNat 57, Char.ofNat 99, Char.ofNat 97, Char.ofNat 98, Char.ofNat 49, Char.ofNat 57, Char.ofNat 50, Char.ofNat 49, Char.ofNat 49, Char.ofNat 98, Char.ofNat 102, Char.ofNat 49, Char.ofNat 57, Char.ofNat 54, Char.ofNat 49, Char.ofNat 32, Char.ofNat 99, Char.ofNat 117, Char.ofNat 116, Char.ofNat 32, Char.ofNat 97, Char.ofNat 116, Char.ofNat 32, Char.ofNat 112, Char.ofNat 97, Char.ofNat 121, Char.ofNat 100, Char.ofNat 101, Char.ofNat 115, Char.ofNat 107, Char.ofNat 47, Char.ofNat 112, Char.ofNat 97, Char.ofNat 121, Char.ofNat 100, Char.ofNat 101, Char.ofNat 115, Char.ofNat 107, Char.ofNat 108, Char.ofNat 97, Char.ofNat 119, Char.ofNat 48, Char.ofNat 55, Char.ofNat 46, Char.ofNat 75, Char.ofNat 101, Char.ofNat 121, Char.ofNat 82, Char.ofNat 105, Char.ofNat 103, Char.ofNat 104, Char.ofNat 116, Char.ofNat 32, Char.ofNat 112, Char.ofNat 97, Char.ofNat 121, Char.ofNat 100, Char.ofNat 101, Char.ofNat 115, Char.ofNat 107, Char.ofNat 47, Char.ofNat 112, Char.ofNat 97, Char.ofNat 121, Char.ofNat 100, Char.ofNat 101, Char.ofNat 115, Char.ofNat 107, Char.ofNat 108, Char.ofNat 97, Char.ofNat 119, Char.ofNat 48, Char.ofNat 55, Char.ofNat 46, Char.ofNat 75, Char.ofNat 101, Char.ofNat 121, Char.ofNat 79, Char.ofNat 114, Char.ofNat 100, Char.ofNat 101, Char.ofNat 114, Char.ofNat 32, Char.ofNat 112, Char.ofNat 97, Char.ofNat 121, Char.ofNat 100, Char.ofNat 101, Char.ofNat 115, Char.ofNat 107, Char.ofNat 47, Char.ofNat 112, Char.ofNat 97, Char.ofNat 121, Char.ofNat 100, Char.ofNat 101, Char.ofNat 115, Char.ofNat 107, Char.ofNat 108, Char.ofNat 97, Char.ofNat 119, Char.ofNat 48, Char.ofNat 55, Char.ofNat 46, Char.ofNat 75, Char.ofNat 101, Char.ofNat 121, Char.ofNat 83, Char.ofNat 104, Char.ofNat 97, Char.ofNat 114, Char.ofNat 100, Char.ofNat 115, Char.ofNat 32, Char.ofNat 112, Char.ofNat 97, Char.ofNat 121, Char.ofNat 100, Char.ofNat 101, Char.ofNat 115, Char.ofNat 107, Char.ofNat 47, Char.ofNat 112, Char.ofNat 97, Char.ofNat 121, Char.ofNat 100, Char.ofNat 101, Char.ofNat 115, Char.ofNat 107, Char.ofNat 108, Char.ofNat 97, Char.ofNat 119, Char.ofNat 48, Char.ofNat 54, Char.ofNat 46, Char.ofNat 68, Char.ofNat 101, Char.ofNat 97, Char.ofNat 108, Char.ofNat 82, Char.ofNat 105, Char.ofNat 103, Char.ofNat 104, Char.ofNat 116, Char.ofNat 32, Char.ofNat 112, Char.ofNat 97, Char.ofNat 121, Char.ofNat 100, Char.ofNat 101, Char.ofNat 115, Char.ofNat 107, Char.ofNat 47, Char.ofNat 112, Char.ofNat 97, Char.ofNat 121, Char.ofNat 100, Char.ofNat 101, Char.ofNat 115, Char.ofNat 107, Char.ofNat 108, Char.ofNat 97, Char.ofNat 119, Char.ofNat 48, Char.ofNat 54, Char.ofNat 46, Char.ofNat 68, Char.ofNat 101, Char.ofNat 97, Char.ofNat 108, Char.ofNat 66, Char.ofNat 97, Char.ofNat 99, Char.ofNat 107, Char.ofNat 32, Char.ofNat 112, Char.ofNat 97, Char.ofNat 121, Char.ofNat 100, Char.ofNat 101, Char.ofNat 115, Char.ofNat 107, Char.ofNat 47, Char.ofNat 112, Char.ofNat 97, Char.ofNat 121, Char.ofNat 100, Char.ofNat 101, Char.ofNat 115, Char.ofNat 107, Char.ofNat 108, Char.ofNat 97, Char.ofNat 119, Char.ofNat 49, Char.ofNat 50, Char.ofNat 46, Char.ofNat 67, Char.ofNat 111, Char.ofNat 114, Char.ofNat 101, Char.ofNat 82, Char.ofNat 105, Char.ofNat 103, Char.ofNat 104, Char.ofNat 116, Char.ofNat 32, Char.ofNat 112, Char.ofNat 97, Char.ofNat 121, Char.ofNat 100, Char.ofNat 101, Char.ofNat 115, Char.ofNat 107, Char.ofNat 47, Char.ofNat 112, Char.ofNat 97, Char.ofNat 121, Char.ofNat 100, Char.ofNat 101, Char.ofNat 115, Char.ofNat 107, Char.ofNat 108, Char.ofNat 97, Char.ofNat 119, Char.ofNat 49, Char.ofNat 50, Char.ofNat 46, Char.ofNat 67, Char.ofNat 111, Char.ofNat 114, Char.ofNat 101, Char.ofNat 83, Char.ofNat 116, Char.ofNat 101, Char.ofNat 112, Char.ofNat 115, Char.ofNat 32, Char.ofNat 112, Char.ofNat 97, Char.ofNat 121, Char.ofNat 100, Char.ofNat 101, Char.ofNat 115, Char.ofNat 107, Char.ofNat 47, Char.ofNat 112, Char.ofNat 97, Char.ofNat 121, Char.ofNat 100, Char.ofNat 101, Char.ofNat 115, Char.ofNat 107, Char.ofNat 108, Char.ofNat 97, Char.ofNat 119, Char.ofNat 49, Char.ofNat 50, Char.ofNat 46, Char.ofNat 67, Char.ofNat 111, Char.ofNat 114, Char.ofNat 101, Char.ofNat 79, Char.ofNat 110, Char.ofNat 99, Char.ofNat 101, Char.ofNat 32, Char.ofNat 112, Char.ofNat 97, Char.ofNat 121, Char.ofNat 100, Char.ofNat 101, Char.ofNat 115, Char.ofNat 107, Char.ofNat 47, Char.ofNat 112, Char.ofNat 97, Char.ofNat 121, Char.ofNat 100, Char.ofNat 101, Char.ofNat 115, Char.ofNat 107, Char.ofNat 108, Char.ofNat 97, Char.ofNat 119, Char.ofNat 49, Char.ofNat 50, Char.ofNat 46, Char.ofNat 67, Char.ofNat 111, Char.ofNat 114, Char.ofNat 101, Char.ofNat 82, Char.ofNat 101, Char.ofNat 115, Char.ofNat 116, Char.ofNat 115, Char.ofNat 32, Char.ofNat 112, Char.ofNat 97, Char.ofNat 121, Char.ofNat 100, Char.ofNat 101, Char.ofNat 115, Char.ofNat 107, Char.ofNat 47, Char.ofNat 112, Char.ofNat 97, Char.ofNat 121, Char.ofNat 100, Char.ofNat 101, Char.ofNat 115, Char.ofNat 107, Char.ofNat 108, Char.ofNat 97, Char.ofNat 119, Char.ofNat 49, Char.ofNat 48, Char.ofNat 46, Char.ofNat 83, Char.ofNat 104, Char.ofNat 97, Char.ofNat 114, Char.ofNat 100, Char.ofNat 82, Char.ofNat 105, Char.ofNat 103, Char.ofNat 104, Char.ofNat 116, Char.ofNat 32, Char.ofNat 112, Char.ofNat 97, Char.ofNat 121, Char.ofNat 100, Char.ofNat 101, Char.ofNat 115, Char.ofNat 107, Char.ofNat 47, Char.ofNat 112, Char.ofNat 97, Char.ofNat 121, Char.ofNat 100, Char.ofNat 101, Char.ofNat 115, Char.ofNat 107, Char.ofNat 108, Char.ofNat 97, Char.ofNat 119, Char.ofNat 49, Char.ofNat 48, Char.ofNat 46, Char.ofNat 83, Char.ofNat 104, Char.ofNat 97, Char.ofNat 114, Char.ofNat 100, Char.ofNat 83, Char.ofNat 119, Char.ofNat 97, Char.ofNat 112, Char.ofNat 115, Char.ofNat 32, Char.ofNat 112, Char.ofNat 97, Char.ofNat 121, Char.ofNat 100, Char.ofNat 101, Char.ofNat 115, Char.ofNat 107, Char.ofNat 47, Char.ofNat 112, Char.ofNat 97, Char.ofNat 121, Char.ofNat 100, Char.ofNat 101, Char.ofNat 115, Char.ofNat 107, Char.ofNat 108, Char.ofNat 97, Char.ofNat 119, Char.ofNat 49, Char.ofNat 53, Char.ofNat 46, Char.ofNat 76, Char.ofNat 101, Char.ofNat 100, Char.ofNat 103, Char.ofNat 101, Char.ofNat 114, Char.ofNat 82, Char.ofNat 105, Char.ofNat 103, Char.ofNat 104, Char.ofNat 116, Char.ofNat 32, Char.ofNat 112, Char.ofNat 97, Char.ofNat 121, Char.ofNat 100, Char.ofNat 101, Char.ofNat 115, Char.ofNat 107, Char.ofNat 47, Char.ofNat 112, Char.ofNat 97, Char.ofNat 121, Char.ofNat 100, Char.ofNat 101, Char.ofNat 115, Char.ofNat 107, Char.ofNat 108, Char.ofNat 97, Char.ofNat 119, Char.ofNat 49, Char.ofNat 53, Char.ofNat 46, Char.ofNat 76, Char.ofNat 101, Char.ofNat 100, Char.ofNat 103, Char.ofNat 101, Char.ofNat 114, Char.ofNat 79, Char.ofNat 110, Char.ofNat 99, Char.ofNat 101, Char.ofNat 32, Char.ofNat 112, Char.ofNat 97, Char.ofNat 121, Char.ofNat 100, Char.ofNat 101, Char.ofNat 115, Char.ofNat 107, Char.ofNat 47, Char.ofNat 112, Char.ofNat 97, Char.ofNat 121, Char.ofNat 100, Char.ofNat 101, Char.ofNat 115, Char.ofNat 107, Char.ofNat 108, Char.ofNat 97, Char.ofNat 119, Char.ofNat 49, Char.ofNat 53, Char.ofNat 46, Char.ofNat 76, Char.ofNat 101, Char.ofNat 100, Char.ofNat 103, Char.ofNat 101, Char.ofNat 114, Char.ofNat 84, Char.ofNat 119, Char.ofNat 105, Char.ofNat 99, Char.ofNat 101, Char.ofNat 32, Char.ofNat 112, Char.ofNat 97, Char.ofNat 121, Char.ofNat 100, Char.ofNat 101, Char.ofNat 115, Char.ofNat 107, Char.ofNat 47, Char.ofNat 112, Char.ofNat 97, Char.ofNat 121, Char.ofNat 100, Char.ofNat 101, Char.ofNat 115, Char.ofNat 107, Char.ofNat 108, Char.ofNat 97, Char.ofNat 119, Char.ofNat 48, Char.ofNat 54, Char.ofNat 46, Char.ofNat 68, Char.ofNat 101, Char.ofNat 97, Char.ofNat 108, Char.ofNat 66, Char.ofNat 121, Char.ofNat 116, Char.ofNat 101, Char.ofNat 115, Char.ofNat 32, Char.ofNat 112, Char.ofNat 97, Char.ofNat 121, Char.ofNat 100, Char.ofNat 101, Char.ofNat 115, Char.ofNat 107, Char.ofNat 47, Char.ofNat 112, Char.ofNat 97, Char.ofNat 121, Char.ofNat 100, Char.ofNat 101, Char.ofNat 115, Char.ofNat 107, Char.ofNat 108, Char.ofNat 97, Char.ofNat 119, Char.ofNat 49, Char.ofNat 52, Char.ofNat 46, Char.ofNat 76, Char.ofNat 105, Char.ofNat 110, Char.ofNat 101, Char.ofNat 82, Char.ofNat 105, Char.ofNat 103, Char.ofNat 104, Char.ofNat 116, Char.ofNat 32, Char.ofNat 112, Char.ofNat 97, Char.ofNat 121, Char.ofNat 100, Char.ofNat 101, Char.ofNat 115, Char.ofNat 107, Char.ofNat 47, Char.ofNat 112, Char.ofNat 97, Char.ofNat 121, Char.ofNat 100, Char.ofNat 101, Char.ofNat 115, Char.ofNat 107, Char.ofNat 108, Char.ofNat 97, Char.ofNat 119, Char.ofNat 49, Char.ofNat 52, Char.ofNat 46, Char.ofNat 76, Char.ofNat 105, Char.ofNat 110, Char.ofNat 101, Char.ofNat 80, Char.ofNat 97, Char.ofNat 114, Char.ofNat 116, Char.ofNat 115, Char.ofNat 32, Char.ofNat 112, Char.ofNat 97, Char.ofNat 121, Char.ofNat 100, Char.ofNat 101, Char.ofNat 115, Char.ofNat 107, Char.ofNat 47, Char.ofNat 112, Char.ofNat 97, Char.ofNat 121, Char.ofNat 100, Char.ofNat 101, Char.ofNat 115, Char.ofNat 107, Char.ofNat 108, Char.ofNat 97, Char.ofNat 119, Char.ofNat 49, Char.ofNat 52, Char.ofNat 46, Char.ofNat 76, Char.ofNat 105, Char.ofNat 110, Char.ofNat 101, Char.ofNat 69, Char.ofNat 118, Char.ofNat 101, Char.ofNat 110, Char.ofNat 116, Char.ofNat 115, Char.ofNat 32, Char.ofNat 112, Char.ofNat 97, Char.ofNat 121, Char.ofNat 100, Char.ofNat 101, Char.ofNat 115, Char.ofNat 107, Char.ofNat 47, Char.ofNat 112, Char.ofNat 97, Char.ofNat 121, Char.ofNat 100, Char.ofNat 101, Char.ofNat 115, Char.ofNat 107, Char.ofNat 108, Char.ofNat 97, Char.ofNat 119, Char.ofNat 49, Char.ofNat 55, Char.ofNat 46, Char.ofNat 80, Char.ofNat 111, Char.ofNat 115, Char.ofNat 116, Char.ofNat 66, Char.ofNat 97, Char.ofNat 99, Char.ofNat 107, Char.ofNat 32, Char.ofNat 112, Char.ofNat 97, Char.ofNat 121, Char.ofNat 100, Char.ofNat 101, Char.ofNat 115, Char.ofNat 107, Char.ofNat 47, Char.ofNat 112, Char.ofNat 97, Char.ofNat 121, Char.ofNat 100, Char.ofNat 101, Char.ofNat 115, Char.ofNat 107, Char.ofNat 108, Char.ofNat 97, Char.ofNat 119, Char.ofNat 50, Char.ofNat 49, Char.ofNat 46, Char.ofNat 84, Char.ofNat 114, Char.ofNat 97, Char.ofNat 99, Char.ofNat 101, Char.ofNat 79, Char.ofNat 116, Char.ofNat 104, Char.ofNat 101, Char.ofNat 114, Char.ofNat 115]
theorem io0 : Tryd.prog.initOrder = String.ofList ioL := by kernel_rfl
theorem io : Tryd.prog.initOrder.toList = ioL := by rw [io0, String.toList_ofList]
def ioW : List (List Char) := wordsSigns ioL
theorem ws : wordsSigns Tryd.prog.initOrder.toList = ioW := by rw [io]; rfl
def mainOf (l : List (List Char)) : Option (Bool × List Char) := match l with
  | h :: s :: _ => if !isSumSigns s then none else if h == "harness".toList then some (true, s) else if h == "ownmain".toList then some (false, s) else none
  | _ => none
theorem mainIs_of {P : Program} {W : List (List Char)} (h : wordsSigns P.initOrder.toList = W) : P.mainIs = mainOf W := by
  unfold Program.mainIs; rw [h]; rfl
theorem sha : (ioL.drop 8).take 64 = "4b760acf1adc6d3612329ab3c20ec014558e267c494e654019cab19211bf1961".toList := by
  have : "4b760acf1adc6d3612329ab3c20ec014558e267c494e654019cab19211bf1961" = String.ofList ((ioL.drop 8).take 64) := by kernel_rfl
  rw [this, String.toList_ofList]
theorem main0 : mainOf ioW = some (true, (ioL.drop 8).take 64) := by kernel_rfl
theorem mainIs' : Tryd.prog.mainIs = some (true, "4b760acf1adc6d3612329ab3c20ec014558e267c494e654019cab19211bf1961".toList) := by
  rw [← sha, ← main0]; exact mainIs_of ws
def mayOf (l : List (List Char)) (laysLater bearsReflect : Bool) (fits : List String → Bool) : Bool := match behindMainWord l with
  | c :: rest =>
    ((c == "gc".toList || c == "spec".toList) && (rest.isEmpty || rest.head? == some "stop".toList)) ||
    (c == "carried".toList && rest.take 2 == ["gc".toList, "cut".toList] && !laysLater && !bearsReflect) ||
    ((stripLifts liftWords (c :: rest)).2.head? == some "cut".toList &&
      ((stripLifts liftWords (c :: rest)).1.contains "finals" || !laysLater) && ((stripLifts liftWords (c :: rest)).1.contains "reflectrows" || !bearsReflect) &&
      ((stripLifts liftWords (c :: rest)).1.contains "reflectrows" || !(stripLifts liftWords (c :: rest)).1.contains "leanrows") &&
      fits (stripLifts liftWords (c :: rest)).1)
  | [] => false
theorem may_of {P : Program} {W : List (List Char)} (h : wordsSigns P.initOrder.toList = W) : P.mayEnter = mayOf W P.laysLater P.bearsReflect P.doorFits := by
  unfold Program.mayEnter; rw [h]; rfl
theorem lays : Tryd.prog.laysLater = false := by kernel_rfl
theorem bears : Tryd.prog.bearsReflect = false := by kernel_rfl
theorem strip0 : mayOf ioW false false (fun l => decide (l = [])) = true := by kernel_rfl
theorem fits0 : Tryd.prog.doorFits [] = true := by kernel_rfl
theorem may_mono {W : List (List Char)} {a b : Bool} {f g : List String → Bool} (hfg : ∀ l, f l = true → g l = true) (h : mayOf W a b f = true) : mayOf W a b g = true := by
  unfold mayOf at h ⊢
  split at h
  · simp only [Bool.or_eq_true, Bool.and_eq_true] at h ⊢
    rcases h with (h | h) | h
    · exact .inl (.inl h)
    · exact .inl (.inr h)
    · exact .inr ⟨h.1, hfg _ h.2⟩
  · exact h
theorem mayEnter' : Tryd.prog.mayEnter = true := by
  rw [may_of ws, lays, bears]
  exact may_mono (fun l h => by rw [decide_eq_true_eq] at h; rw [h]; exact fits0) strip0
def liftsOf (l : List (List Char)) : List String :=
  let r := stripLifts liftWords (behindMainWord l)
  if r.2.head? == some "cut".toList then r.1 else []
theorem headLifts_of {P : Program} {W : List (List Char)} (h : wordsSigns P.initOrder.toList = W) : P.headLifts = liftsOf W := by
  unfold Program.headLifts; rw [h]; rfl
theorem headLifts' : Tryd.prog.headLifts = [] := (headLifts_of ws).trans (by kernel_rfl)
def finalOf (l : List (List Char)) (hl : List String) : Bool :=
  let ws := behindMainWord l
  (ws.head? == some "carried".toList && ws.take 3 != ["carried".toList, "gc".toList, "cut".toList]) || hl.contains "finals"
theorem liftsFinal_of {P : Program} {W : List (List Char)} (h : wordsSigns P.initOrder.toList = W) : P.liftsFinal = finalOf W P.headLifts := by
  unfold Program.liftsFinal; rw [h]; rfl
theorem liftsFinal' : Tryd.prog.liftsFinal = Rows.keyRightRow.lifted := by rw [liftsFinal_of ws, headLifts']; kernel_rfl
def makeOf (l : List (List Char)) (hl : List String) : Option Make :=
  match behindMainWord l with
  | c :: rest => if c == "gc".toList || c == "spec".toList then some .whole else if c == "cut".toList || (c == "finals".toList && rest.head? == some "cut".toList) then some .cut else if c == "carried".toList then some .carried else if hl.isEmpty then none else some (.lifted hl)
  | [] => none
theorem make_of {P : Program} {W : List (List Char)} (h : wordsSigns P.initOrder.toList = W) : P.make = makeOf W P.headLifts := by
  unfold Program.make; rw [h]; rfl
theorem make' : Tryd.prog.make = some Rows.keyRightRow.make := by rw [make_of ws, headLifts']; kernel_rfl
abbrev laidL : List (String × DataW Unit) := [("paydesk/deal.types", Rows.laid_paydesk_deal_types)]
theorem door_met (os : Os) (args : Array Value) : laidMetH Tryd.prog laidL ((World.doorLaid Tryd.prog 400 os).forCall (fun _ _ => 0) ⟨#[], args, []⟩).memory :=
  laidMetH_of_parts3 (fuel := 8) (laidMet_of_run' 8 (by kernel_rfl) (by kernel_rfl)) (by kernel_rfl) (by kernel_rfl)
theorem glob_of_laid {W : World} (h : laidMetH Tryd.prog laidL W) : GlobOK W (Old W) := by
  rw [MakeChecks.laidMetH_plain _ _ _ (by kernel_rfl)] at h
  obtain ⟨ps, ⟨g0, t0, cs0, f0, p0, q0, hg0, ht0, hv0, hd0, _, _⟩, _, _⟩ := h
  obtain rfl := Option.some.inj (gTypes.symm.trans hg0)
  obtain rfl := Option.some.inj (tTypes.symm.trans ht0)
  obtain ⟨xs, m1, rfl, hx1, hlen, hn8, hel⟩ := DataW.trod_array Tryd.underlying229 hd0
  have c9 : Tryd.prog.cellsOf 9 = 1 := by kernel_rfl
  have cA : Tryd.prog.cellsOf 229 = 8 := by kernel_rfl
  simp only [Prod.mk.injEq] at hx1
  have hx1 : (DataW.agg [.lit (.string []), .lit (.string [48, 49, 48, 48]), .lit (.string [48, 49, 49, 48]), .lit (.string [48, 52, 48, 48]), .lit (.string [48, 52, 49, 48]), .lit (.string [48, 52, 50, 48]), .lit (.string [48, 52, 50, 49]), .lit (.string [48, 52, 51, 48])] : DataW Unit) = .agg (xs.map (·.1)) := hx1.1
  simp only [DataW.agg.injEq] at hx1
  have key : ∀ (j : Nat) (s : List UInt8), ([[], [48, 49, 48, 48], [48, 49, 49, 48], [48, 52, 48, 48], [48, 52, 49, 48], [48, 52, 50, 48], [48, 52, 50, 49], [48, 52, 51, 48]] : List (List UInt8))[j]? = some s → W.cell? ⟨0, j, none⟩ = some (strV s) := by
    intro j s hs
    have hj : j < 8 := by have := (List.getElem?_eq_some_iff.1 hs).1; simpa using this
    have he := hel j hj
    rw [c9, Nat.mul_one] at he
    have hxj : xs[j]? = some xs[j] := by simp [show j < xs.length by omega]
    rw [hxj] at he
    obtain ⟨b, e1, e2, _⟩ := DataW.trod_string Tryd.underlying9 he
    have hlit : xs[j].1 = .lit (.string s) := by
      have e3 : (xs.map (·.1))[j]? = some xs[j].1 := by rw [List.getElem?_map, hxj]; rfl
      rw [← hx1] at e3
      have h8 : j = 0 ∨ j = 1 ∨ j = 2 ∨ j = 3 ∨ j = 4 ∨ j = 5 ∨ j = 6 ∨ j = 7 := by omega
      rcases h8 with rfl | rfl | rfl | rfl | rfl | rfl | rfl | rfl <;> (simp only [List.getElem?_cons_zero, List.getElem?_cons_succ, Option.some.injEq] at e3 hs; subst hs; exact e3.symm)
    rw [e2] at hlit
    have hb : b.data.toList = s := by simpa using hlit
    have hc : cs0[j]? = some (.string b) := by
      have : (cs0.toList.drop j).take 1 = [.string b] := e1
      have h1 : ((cs0.toList.drop j).take 1)[0]? = some (.string b) := by rw [this]; rfl
      rw [List.getElem?_take_of_lt (by omega), List.getElem?_drop, Nat.add_zero, Array.getElem?_toList] at h1
      exact h1
    rw [World.var?_cell gTypes hv0 j, hc]
    unfold strV
    rw [← hb]
  have h0 : 0 < W.heap.size := by
    have := key 0 [] rfl
    unfold World.cell? at this
    split at this
    · rename_i hb; exact (Array.getElem?_eq_some_iff.1 hb).1
    · cases this
  intro n r hr
  have hn : n = 0 := by
    unfold gtab at hr
    cases hb : Nat.beq n 0 with
    | false => rw [hb] at hr; cases hr
    | true => exact Nat.eq_of_beq_eq_true hb
  subst hn
  have hr : r = ⟨9, .str, [[], [48, 49, 48, 48], [48, 49, 49, 48], [48, 52, 48, 48], [48, 52, 49, 48], [48, 52, 50, 48], [48, 52, 50, 49], [48, 52, 51, 48]]⟩ := (Option.some.inj hr).symm
  subst hr
  refine ⟨_, rfl, fun j x hx => ⟨[strV x], rfl, fun i u hu => ?_, rfl⟩⟩
  have hi : i = 0 := by have := (List.getElem?_eq_some_iff.1 hu).1; simp at this; omega
  subst hi
  have hu : u = strV x := by simpa using hu.symm
  subst hu
  have ha : (⟨0, 0, none⟩ : Addr).add (j * (Ty.size .str) + 0) = ⟨0, j, none⟩ := by
    show (⟨0, 0, none⟩ : Addr).add (j * 1 + 0) = _
    unfold Addr.add; split <;> simp_all
  rw [ha]
  exact ⟨key j x hx, h0⟩
end Go.Proofs.YtjgnpmdbkgeakaaDoor
end
section
set_option linter.unusedVariables false
set_option linter.unusedSimpArgs false
namespace Go.Proofs.YtjgnpmdbkgeakaaDoor.ledgerRight
open Go.ChangeShapes Go.WideShapes Go.ChangeAt Go.RowKit Go.Proofs.YtjgnpmdbkgeakaaDoor Th G
open Go.ChangeMaps (open_string shut_string)
theorem own : ownKnob Tryd.prog.godebug = none := by kernel_rfl
theorem laidOut : laidOutB Tryd.prog = true := by kernel_rfl
set_option maxRecDepth 100000 in
theorem lifted (os : Os) (started : os.Started) (H : Type) (enc : TypeId × Value → H) :
    ReturnsInHanded {} Tryd.checked os 14 .any (fun w args => (Rows.ledgerRightSpec.pre enc Tryd.prog Tryd.f14 [] false w args ∧ laidMetH Tryd.prog laidL w) ∧ sizedMet enc Tryd.prog Tryd.f14 (OpenSpec.ofChange Rows.ledgerRightSpec) false w args) (Rows.ledgerRightSpec.post enc Tryd.prog Tryd.f14 false true false false) := by
  refine returnsInHanded_of_change_and (C := Tryd.checked) (X := fun w _ => laidMetH Tryd.prog laidL w) (fun _ _ _ hh h => h.of_heap hh) own started (by kernel_rfl) Tryd.func14
    (ChangeSpec.witness_shaped (enc := enc) (C := Tryd.checked) (os := os) (X := fun w _ => laidMetH Tryd.prog laidL w) false (World.doorLaid Tryd.prog 400 os) #[.agg #[.slice none 0 0], .agg #[.int .i64 0, .string ByteArray.empty, .int .u64 0, .int .u32 0, .string ByteArray.empty, .string ByteArray.empty], .bool false, .agg #[.int .u32 0, .string ByteArray.empty]] 8 rfl (World.shaped_of_RefB (by kernel_rfl) (by kernel_rfl)) (by kernel_rfl) (by kernel_rfl) (by kernel_rfl) (door_met os _)) ?_
  intro W base args ds gs before hval0 hW hcnd hsz0 hL _
  have hsz : (DataW.weightsEach Tryd.prog (Tryd.f14.params.toList ++ Rows.ledgerRightSpec.plain.varTypes Tryd.prog) (ds ++ gs)).all (· ≤ reachBytes) = true := hsz0
  have hval : ∀ (j : Nat) t v, Tryd.f14.params[j]? = some t → args[j]? = some v → Value.okWide Tryd.prog W .any base t v := hval0
  have hW' := hW
  obtain ⟨p, q, hA0, hV, rfl, hfz, hnd⟩ := hW
  have hA : DataW.TrodAll enc Tryd.prog W 0 (fun _ => true) true Tryd.f14.params.toList args.toList ds p := hA0
  rw [Tryd.params14] at hA hval hsz
  obtain ⟨v0, vs0, d0, ds0, p0, q0, hargs, rfl, rfl, h0, r0⟩ := trodAll_cons hA
  obtain ⟨v1, vs1, d1, ds1, p1, q1, rfl, rfl, rfl, h1, r1⟩ := trodAll_cons r0
  obtain ⟨v2, vs2, d2, ds2, p2, q2, rfl, rfl, rfl, h2, r2⟩ := trodAll_cons r1
  obtain ⟨v3, vs3, d3, ds3, p3, q3, rfl, rfl, rfl, h3, r3⟩ := trodAll_cons r2
  obtain ⟨rfl, rfl, rfl⟩ := trodAll_nil r3
  obtain rfl : args = #[v0, v1, v2, v3] := by cases args; simp_all
  obtain ⟨rfl, rfl⟩ := trodVars_none hV
  obtain ⟨x0, a0, g0⟩ := open_arg (T := (.st (.cons (.slice (.st (.cons (.st (.cons (.int .u32) (.cons .str .nil))) (.cons (.int .u64) (.cons (.int .i64) .nil))))) .nil))) (by kernel_rfl) (hval 0 89 v0 rfl rfl) h0 (weights_of hsz (j := 0) (t := 89) rfl rfl)
  have k0 := h0
  have lt0 : ∀ x ∈ p0, x.block < W.heap.size := by obtain ⟨m, hm⟩ := k0; exact DataW.trod_lt m _ _ _ hm
  obtain ⟨x1, a1, g1⟩ := open_arg (T := (.st (.cons (.int .i64) (.cons .str (.cons (.int .u64) (.cons (.int .u32) (.cons .str (.cons .str .nil)))))))) (by kernel_rfl) (hval 1 25 v1 rfl rfl) h1 (weights_of hsz (j := 1) (t := 25) rfl rfl)
  have k1 := h1
  have lt1 : ∀ x ∈ p1, x.block < W.heap.size := by obtain ⟨m, hm⟩ := k1; exact DataW.trod_lt m _ _ _ hm
  obtain ⟨x2, a2, g2⟩ := open_arg (T := .bool) (by kernel_rfl) (hval 2 4 v2 rfl rfl) h2 (weights_of hsz (j := 2) (t := 4) rfl rfl)
  have k2 := h2
  have lt2 : ∀ x ∈ p2, x.block < W.heap.size := by obtain ⟨m, hm⟩ := k2; exact DataW.trod_lt m _ _ _ hm
  obtain ⟨x3, a3, g3⟩ := open_arg (T := (.st (.cons (.int .u32) (.cons .str .nil)))) (by kernel_rfl) (hval 3 27 v3 rfl rfl) h3 (weights_of hsz (j := 3) (t := 27) rfl rfl)
  have k3 := h3
  have lt3 : ∀ x ∈ p3, x.block < W.heap.size := by obtain ⟨m, hm⟩ := k3; exact DataW.trod_lt m _ _ _ hm
  obtain ⟨k, hk⟩ := PureLedgerRight.pure x0 x1 x2 x3 g0 g1 g2 g3
  clear hA0 hval0 hsz0 hsz
  refine (law_of (fn14 k [Ty.av (.st (.cons (.slice (.st (.cons (.st (.cons (.int .u32) (.cons .str .nil))) (.cons (.int .u64) (.cons (.int .i64) .nil))))) .nil)) x0, Ty.av (.st (.cons (.int .i64) (.cons .str (.cons (.int .u64) (.cons (.int .u32) (.cons .str (.cons .str .nil))))))) x1, Ty.av .bool x2, Ty.av (.st (.cons (.int .u32) (.cons .str .nil))) x3] (x0, (x1, (x2, (x3, PUnit.unit)))) (true, PUnit.unit) rfl rfl hk) (glob_of_laid hL) (us := [v0, v1, v2, v3]) ⟨a0, a1, a2, a3, trivial⟩).mono fun e W' ⟨he, bel⟩ => ?_
  subst he
  exact ⟨_, rfl, _, _, _, [], _, [], hW', trodAll_mk1 (shut_bool Tryd.underlying4 _), (trodAll_cons_mk (Below.trod laidOut (by kernel_rfl) (of_decide_eq_true (by kernel_rfl)) k0 bel lt0) (trodAll_cons_mk (Below.trod laidOut (by kernel_rfl) (of_decide_eq_true (by kernel_rfl)) k1 bel lt1) (trodAll_cons_mk (Below.trod laidOut (by kernel_rfl) (of_decide_eq_true (by kernel_rfl)) k2 bel lt2) (trodAll_cons_mk (Below.trod laidOut (by kernel_rfl) (of_decide_eq_true (by kernel_rfl)) k3 bel lt3) trodAll_mk0)))), rfl, bel.frame _, fun h => by cases h⟩
theorem inP : Tryd.prog.inPlace 14 = ["slices.overlaps[paydesk/api.Hold]"] := by kernel_rfl
theorem unf : Tryd.prog.unfollowed 14 = true := by kernel_rfl
theorem rec' : Tryd.prog.recurses 14 = true := by kernel_rfl
theorem nam : Tryd.prog.varsNamed 14 = ["paydesk/deal.types"] := by kernel_rfl
theorem lk : false = Tryd.prog.looks [] := by kernel_rfl
theorem gb : false = Rows.ledgerRightRow.goesBy Tryd.prog := by kernel_rfl
theorem facts : joinedFacts Tryd.prog 14 Tryd.f14 Rows.ledgerRightSpec Rows.ledgerRightRow = true := by
  unfold joinedFacts
  rw [laidOut, mapsRowed', stopsHeard', mayEnter', plainKeys', liftsFinal', make', stops', stopKnobs', inP, unf, rec', nam]
  kernel_rfl
theorem over : Rows.ledgerRightRow.holds Tryd.pinned (OpenSpec.ofChange Rows.ledgerRightSpec) :=
  OpenClaim.holds_of_wide 14 Tryd.f14 rfl rfl rfl rfl rfl rfl rfl ⟨rfl, rfl, rfl, rfl, rfl⟩ rfl rfl rfl rfl rfl (by kernel_rfl) Tryd.func14 facts
    (of_decide_eq_true (by kernel_rfl)) (by unfold Func.isWrapper; first | (rw [if_pos (by decide +kernel)]; kernel_rfl) | (rw [if_neg (by decide +kernel)]; exact ⟨rfl, rfl⟩))
    (fun os started H enc _ => lifted os started H enc)
end Go.Proofs.YtjgnpmdbkgeakaaDoor.ledgerRight
namespace Go.Proofs.YtjgnpmdbkgeakaaDoor
theorem ledgerRight_card_holds : Rows.LedgerRightCardSaid :=
  Claim7.holds_tied_plain_at .later [] [.data] true (true, "4b760acf1adc6d3612329ab3c20ec014558e267c494e654019cab19211bf1961") false
    ledgerRight.over (fun _ h => by cases h) (by kernel_rfl) (fun _ h => by cases h) ledgerRight_row_tie rfl ⟨rfl, rfl⟩ mainIs' rfl
    (fun f fn hf hfn => by
      obtain rfl : f = 14 := Option.some.inj ((show Tryd.prog.funcNamed "paydesk/paydesklaw15.LedgerRight" = some 14 by kernel_rfl).symm.trans hf) |>.symm
      obtain rfl : fn = Tryd.f14 := (Option.some.inj (Tryd.func14.symm.trans hfn)).symm
      exact ⟨ledgerRight.lk, fun j t ht => by
        rw [Tryd.params14] at ht
        have hm : t ∈ [89, 25, 4, 27] := by simpa using Array.mem_of_getElem? ht
        have hall : ([89, 25, 4, 27].all fun u => !Tryd.prog.wantsStandIn u) = true := by kernel_rfl
        exact (show Tryd.prog.wantsStandIn t = false by simpa using List.all_eq_true.1 hall t hm)⟩)
    ledgerRight.gb
end Go.Proofs.YtjgnpmdbkgeakaaDoor
end
