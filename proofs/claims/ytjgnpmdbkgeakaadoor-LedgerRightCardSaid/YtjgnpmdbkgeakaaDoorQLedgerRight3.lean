/- THE CLAIM'S TEXTS, part 3: what its proof needs of the theory, the functions, their equations and the laws. No condition. -/
import Derived.Test.YtjgnpmdbkgeakaaDoorQLedgerRight2
import Derived.Deep.LoopGhost
import Derived.Deep.RegionLaw
import Derived.Lib.AppendZeros
import Derived.Laws.Externs
import Derived.Lib.Overlaps
section
set_option linter.unusedVariables false
set_option linter.unusedSimpArgs false
namespace Go.Proofs.YtjgnpmdbkgeakaaDoor.G
open Go Go.Proofs.YtjgnpmdbkgeakaaDoor.Th
def til : List (Nat × TInfo) := [
  (3, ⟨.int .i64, 1, 8, (.int .i64), [.int .i64 0], [], [], true, false, [], []⟩),
  (4, ⟨.bool, 1, 1, .bool, [.bool false], [], [], true, false, [], []⟩),
  (5, ⟨.int .u8, 1, 1, (.int .u8), [.int .u8 0], [], [], true, false, [], []⟩),
  (9, ⟨.str, 1, 16, .str, [.str []], [], [], true, false, [], [(229, 8)]⟩),
  (22, ⟨.int .u64, 1, 8, (.int .u64), [.int .u64 0], [], [], true, false, [], []⟩),
  (23, ⟨.int .u32, 1, 4, (.int .u32), [.int .u32 0], [], [], true, false, [], []⟩),
  (25, ⟨.struct, 6, 72, (.st (.cons (.int .i64) (.cons .str (.cons (.int .u64) (.cons (.int .u32) (.cons .str (.cons .str .nil))))))), [.int .i64 0, .str [], .int .u64 0, .int .u32 0, .str [], .str []], [(0, 3), (1, 9), (2, 22), (3, 23), (4, 9), (5, 9)], [1, 1, 1, 1, 1, 1], true, true, [], []⟩),
  (27, ⟨.struct, 2, 24, (.st (.cons (.int .u32) (.cons .str .nil))), [.int .u32 0, .str []], [(0, 23), (1, 9)], [1, 1], true, true, [], []⟩),
  (37, ⟨.slice 160, 1, 24, (.slice (.st (.cons (.int .i64) (.cons .str .nil)))), [.nilsl], [], [], true, false, [], []⟩),
  (39, ⟨.struct, 2, 40, (.st (.cons .str (.cons (.slice (.st (.cons (.int .i64) (.cons .str .nil)))) .nil))), [.str [], .nilsl], [(0, 9), (1, 37)], [1, 1], true, false, [], []⟩),
  (41, ⟨.int .i64, 1, 8, (.int .i64), [.int .i64 0], [], [], true, false, [], []⟩),
  (54, ⟨.struct, 8, 88, (.st (.cons (.st (.cons (.int .u32) (.cons .str .nil))) (.cons (.int .i64) (.cons .str (.cons (.int .u64) (.cons .str (.cons (.int .i64) (.cons (.int .i64) .nil)))))))), [.int .u32 0, .str [], .int .i64 0, .str [], .int .u64 0, .str [], .int .i64 0, .int .i64 0], [(0, 27), (2, 3), (3, 9), (4, 22), (5, 9), (6, 3), (7, 3)], [2, 1, 1, 1, 1, 1, 1], true, true, [], []⟩),
  (56, ⟨.struct, 7, 80, (.st (.cons (.int .i64) (.cons (.st (.cons (.int .i64) (.cons .str (.cons (.int .u64) (.cons (.int .u32) (.cons .str (.cons .str .nil))))))) .nil))), [.int .i64 0, .int .i64 0, .str [], .int .u64 0, .int .u32 0, .str [], .str []], [(0, 3), (1, 25)], [1, 6], true, true, [], []⟩),
  (58, ⟨.slice 25, 1, 24, (.slice (.st (.cons (.int .i64) (.cons .str (.cons (.int .u64) (.cons (.int .u32) (.cons .str (.cons .str .nil)))))))), [.nilsl], [], [], true, false, [], []⟩),
  (60, ⟨.struct, 12, 152, (.st (.cons (.st (.cons (.st (.cons (.int .u32) (.cons .str .nil))) (.cons (.int .i64) (.cons .str (.cons (.int .u64) (.cons .str (.cons (.int .i64) (.cons (.int .i64) .nil)))))))) (.cons (.slice (.st (.cons (.int .i64) (.cons .str (.cons (.int .u64) (.cons (.int .u32) (.cons .str (.cons .str .nil)))))))) (.cons (.slice (.st (.cons (.int .i64) (.cons .str (.cons (.int .u64) (.cons (.int .u32) (.cons .str (.cons .str .nil)))))))) (.cons (.int .i64) (.cons .bool .nil)))))), [.int .u32 0, .str [], .int .i64 0, .str [], .int .u64 0, .str [], .int .i64 0, .int .i64 0, .nilsl, .nilsl, .int .i64 0, .bool false], [(0, 54), (8, 58), (9, 58), (10, 3), (11, 4)], [8, 1, 1, 1, 1], true, false, [], []⟩),
  (69, ⟨.slice 56, 1, 24, (.slice (.st (.cons (.int .i64) (.cons (.st (.cons (.int .i64) (.cons .str (.cons (.int .u64) (.cons (.int .u32) (.cons .str (.cons .str .nil))))))) .nil)))), [.nilsl], [], [], true, false, [], []⟩),
  (110, ⟨.slice 5, 1, 24, (.slice (.int .u8)), [.nilsl], [], [], true, false, [], []⟩),
  (115, ⟨.struct, 2, 32, (.st (.cons (.slice (.int .u8)) (.cons .bool .nil))), [.nilsl, .bool false], [(0, 110), (1, 4)], [1, 1], true, false, [], []⟩),
  (121, ⟨.struct, 5, 88, (.st (.cons (.st (.cons (.slice (.int .u8)) (.cons .bool .nil))) (.cons (.slice (.int .u8)) (.cons (.slice (.int .u8)) (.cons (.int .i64) .nil))))), [.nilsl, .bool false, .nilsl, .nilsl, .int .i64 0], [(0, 115), (2, 110), (3, 110), (4, 3)], [2, 1, 1, 1], true, false, [], []⟩),
  (126, ⟨.slice 110, 1, 24, (.slice (.slice (.int .u8))), [.nilsl], [], [], true, false, [], []⟩),
  (136, ⟨.struct, 2, 32, (.st (.cons (.int .i64) (.cons (.slice (.slice (.int .u8))) .nil))), [.int .i64 0, .nilsl], [(0, 3), (1, 126)], [1, 1], true, false, [], []⟩),
  (160, ⟨.struct, 2, 24, (.st (.cons (.int .i64) (.cons .str .nil))), [.int .i64 0, .str []], [(0, 3), (1, 9)], [1, 1], true, true, [], []⟩),
  (161, ⟨.slice 9, 1, 24, (.slice .str), [.nilsl], [], [], true, false, [], []⟩),
  (169, ⟨.slice 3, 1, 24, (.slice (.int .i64)), [.nilsl], [], [], true, false, [], []⟩),
  (175, ⟨.struct, 20, 240, (.st (.cons (.st (.cons (.st (.cons (.st (.cons (.int .u32) (.cons .str .nil))) (.cons (.int .i64) (.cons .str (.cons (.int .u64) (.cons .str (.cons (.int .i64) (.cons (.int .i64) .nil)))))))) (.cons (.slice (.st (.cons (.int .i64) (.cons .str (.cons (.int .u64) (.cons (.int .u32) (.cons .str (.cons .str .nil)))))))) (.cons (.slice (.st (.cons (.int .i64) (.cons .str (.cons (.int .u64) (.cons (.int .u32) (.cons .str (.cons .str .nil)))))))) (.cons (.int .i64) (.cons .bool .nil)))))) (.cons (.st (.cons (.int .i64) (.cons (.st (.cons (.int .i64) (.cons .str (.cons (.int .u64) (.cons (.int .u32) (.cons .str (.cons .str .nil))))))) .nil))) (.cons (.int .i64) .nil)))), [.int .u32 0, .str [], .int .i64 0, .str [], .int .u64 0, .str [], .int .i64 0, .int .i64 0, .nilsl, .nilsl, .int .i64 0, .bool false, .int .i64 0, .int .i64 0, .str [], .int .u64 0, .int .u32 0, .str [], .str [], .int .i64 0], [(0, 60), (12, 56), (19, 3)], [12, 7, 1], true, false, [], []⟩),
  (196, ⟨.struct, 2, 16, (.st (.cons (.int .u64) (.cons (.int .u64) .nil))), [.int .u64 0, .int .u64 0], [(0, 22), (1, 22)], [1, 1], true, true, [], []⟩),
  (222, ⟨.struct, 3, 24, (.st (.cons (.int .i64) (.cons (.int .i64) (.cons (.int .i64) .nil)))), [.int .i64 0, .int .i64 0, .int .i64 0], [(0, 3), (1, 3), (2, 3)], [1, 1, 1], true, true, [], []⟩),
  (266, ⟨.slice 222, 1, 24, (.slice (.st (.cons (.int .i64) (.cons (.int .i64) (.cons (.int .i64) .nil))))), [.nilsl], [], [], true, false, [], []⟩),
  (268, ⟨.struct, 2, 16, (.st (.cons (.int .i64) (.cons (.int .i64) .nil))), [.int .i64 0, .int .i64 0], [(0, 3), (1, 3)], [1, 1], true, true, [("paydesk/field.ahead", 245), ("paydesk/field.sized", 246)], []⟩),
  (270, ⟨.struct, 1, 8, (.st (.cons (.int .i64) .nil)), [.int .i64 0], [(0, 3)], [1], true, true, [("paydesk/field.ahead", 247), ("paydesk/field.sized", 248)], []⟩)
]
noncomputable def TI : TEnv := tiOf til
theorem hT : TIok Tryd.prog TI := TIok.of (by kernel_rfl)
theorem hm : Tryd.prog.follows .mixedOrders = true := rfl
noncomputable def O_0 (_ : Nat) : Orc := fun _ _ _ _ => none
theorem ok_O_0 (k : Nat) : OrcOK (O_0 k) (CallOK Tryd.prog) := orc_none
noncomputable def c175 : Code := Tryd.f175.body.getD .skip
noncomputable def mi175 : Msk := ⟨[(.tmp 0, .val (.int .i64))], []⟩
noncomputable def mo175 : Msk := ⟨[(.res 2, .val (.st (.cons (.int .i64) (.cons (.int .i64) (.cons (.int .i64) .nil))))), (.tmp 3, .val .bool)], []⟩
noncomputable def L175_2 (k : Nat) : LOrc := fun _ _ _ _ => none
noncomputable def b175_2 : Code := (findLoop 2 c175).getD .skip
noncomputable def m175_2 : Msk := ⟨[(.tmp 0, .val (.int .i64)), (.tmp 2, .ptr 2 0), (.tmp 21, .row false (.st (.cons (.int .i64) (.cons (.int .i64) (.cons (.int .i64) .nil))))), (.tmp 22, .val (.int .i64)), (.tmp 23, .val (.int .i64)), (.cell 2 0, .val (.int .i64)), (.cell 2 1, .val (.int .i64)), (.cell 2 2, .val (.int .i64))], [(2, 3)]⟩
noncomputable def x175_2 : List (X × Msk) := [(.exit 0, ⟨[(.tmp 2, .ptr 2 0), (.cell 2 0, .val (.int .i64)), (.cell 2 1, .val (.int .i64)), (.cell 2 2, .val (.int .i64))], [(2, 3)]⟩), (.ret, ⟨[(.tmp 2, .ptr 2 0), (.tmp 3, .val .bool), (.cell 2 0, .val (.int .i64)), (.cell 2 1, .val (.int .i64)), (.cell 2 2, .val (.int .i64))], [(2, 3)]⟩)]
noncomputable def F175_2 (k : Nat) : Nat → m175_2.den → Option (denE x175_2)
  | 0, _ => none
  | j + 1, v => round TI (O_0 k) (L175_2 k) b175_2 m175_2 x175_2 (F175_2 k j) v
theorem lk175_2_ (k : Nat) : LinksOK Tryd.prog 34 (L175_2 k) b175_2 := (And.intro True.intro (And.intro (And.intro True.intro True.intro) (And.intro (And.intro True.intro (And.intro True.intro (And.intro (And.intro True.intro True.intro) True.intro))) True.intro)))
noncomputable def L175 (k : Nat) : LOrc := fun R lk s K => match lk with
  | .loop r => bif Nat.beq r 2 then link m175_2 x175_2 (F175_2 k k) s K else none
  | .label l => none
theorem lk_L175_2 (k : Nat) : LoopOK Tryd.prog 34 (L175 k) b175_2 := loopOK_of hm hT (ok_O_0 k) (fun _ _ _ h => h) rfl (lk175_2_ k) rfl rfl (F := F175_2 k) (fun _ => rfl) (fun _ _ => rfl) (n := k) fun _ _ _ => rfl
noncomputable def F175 (k : Nat) (v : mi175.den) : Option mo175.den := runF TI (O_0 k) (L175 k) c175 mi175 mo175 v
theorem lk175 (k : Nat) : LinksOK Tryd.prog 34 (L175 k) c175 := (And.intro True.intro (And.intro (And.intro True.intro (lk_L175_2 k)) (And.intro True.intro True.intro)))
theorem fn175 (k : Nat) (args : List AV) (x : mi175.den) (r : mo175.den) (h1 : args.length = mi175.items.length) (h2 : mi175.dec (Th.start args) = some x) (h3 : F175 k x = some r) : CallOK Tryd.prog 175 args (ansOf (outL mo175.items r)) :=
  call_of hm hT (ok_O_0 k) (fn := Tryd.f175) (c := c175) Tryd.func175 rfl rfl rfl (lk175 k) rfl (by decide) rfl h1 h2 h3
noncomputable def O175 (k : Nat) : Orc := fun R f args K => bif Nat.beq f 175 then callF mi175 mo175 (F175 k) args K else O_0 k R f args K
theorem ok_O175 (k : Nat) : OrcOK (O175 k) (CallOK Tryd.prog) := orc_add (fn175 k) (ok_O_0 k)
noncomputable def c176 : Code := Tryd.f176.body.getD .skip
noncomputable def mi176 : Msk := ⟨[(.tmp 0, .val (.st (.cons (.int .i64) (.cons (.int .i64) (.cons (.int .i64) .nil)))))], []⟩
noncomputable def mo176 : List Msk := [⟨[(.tmp 2, .val (.ifc 268 (.st (.cons (.int .i64) (.cons (.int .i64) .nil)))))], []⟩, ⟨[(.tmp 2, .val (.ifc 270 (.st (.cons (.int .i64) .nil))))], []⟩]
noncomputable def L176 (k : Nat) : LOrc := fun _ _ _ _ => none
noncomputable def F176 (k : Nat) (v : mi176.den) : Option (denA mo176) := runA TI (O175 k) (L176 k) c176 mi176 mo176 v
theorem lk176 (k : Nat) : LinksOK Tryd.prog 22 (L176 k) c176 := (And.intro True.intro (And.intro (And.intro True.intro (And.intro (And.intro True.intro (And.intro True.intro True.intro)) (And.intro (And.intro True.intro True.intro) (And.intro True.intro (And.intro (And.intro True.intro True.intro) True.intro))))) (And.intro True.intro True.intro)))
theorem fn176 (k : Nat) (args : List AV) (x : mi176.den) (r : (denA mo176)) (h1 : args.length = mi176.items.length) (h2 : mi176.dec (Th.start args) = some x) (h3 : F176 k x = some r) : CallOK Tryd.prog 176 args (valA mo176 r) :=
  call_ofA hm hT (ok_O175 k) (fn := Tryd.f176) (c := c176) Tryd.func176 rfl rfl rfl (lk176 k) rfl (by decide) rfl h1 h2 h3
noncomputable def O176 (k : Nat) : Orc := fun R f args K => bif Nat.beq f 176 then callA mi176 mo176 (F176 k) args K else O175 k R f args K
theorem ok_O176 (k : Nat) : OrcOK (O176 k) (CallOK Tryd.prog) := orc_addA (fn176 k) (ok_O175 k)
noncomputable def c246 : Code := Tryd.f246.body.getD .skip
noncomputable def mi246 : Msk := ⟨[(.tmp 0, .val (.st (.cons (.int .i64) (.cons (.int .i64) .nil)))), (.tmp 1, .val (.int .i64))], []⟩
noncomputable def mo246 : Msk := ⟨[(.tmp 4, .val .bool)], []⟩
noncomputable def L246 (k : Nat) : LOrc := fun _ _ _ _ => none
noncomputable def F246 (k : Nat) (v : mi246.den) : Option mo246.den := runF TI (O176 k) (L246 k) c246 mi246 mo246 v
theorem lk246 (k : Nat) : LinksOK Tryd.prog 13 (L246 k) c246 := (And.intro True.intro (And.intro True.intro True.intro))
theorem fn246 (k : Nat) (args : List AV) (x : mi246.den) (r : mo246.den) (h1 : args.length = mi246.items.length) (h2 : mi246.dec (Th.start args) = some x) (h3 : F246 k x = some r) : CallOK Tryd.prog 246 args (ansOf (outL mo246.items r)) :=
  call_of hm hT (ok_O176 k) (fn := Tryd.f246) (c := c246) Tryd.func246 rfl rfl rfl (lk246 k) rfl (by decide) rfl h1 h2 h3
noncomputable def O246 (k : Nat) : Orc := fun R f args K => bif Nat.beq f 246 then callF mi246 mo246 (F246 k) args K else O176 k R f args K
theorem ok_O246 (k : Nat) : OrcOK (O246 k) (CallOK Tryd.prog) := orc_add (fn246 k) (ok_O176 k)
noncomputable def c248 : Code := Tryd.f248.body.getD .skip
noncomputable def mi248 : Msk := ⟨[(.tmp 0, .val (.st (.cons (.int .i64) .nil))), (.tmp 1, .val (.int .i64))], []⟩
noncomputable def mo248 : Msk := ⟨[(.tmp 4, .val .bool)], []⟩
noncomputable def L248 (k : Nat) : LOrc := fun _ _ _ _ => none
noncomputable def F248 (k : Nat) (v : mi248.den) : Option mo248.den := runF TI (O246 k) (L248 k) c248 mi248 mo248 v
theorem lk248 (k : Nat) : LinksOK Tryd.prog 9 (L248 k) c248 := (And.intro True.intro (And.intro True.intro True.intro))
theorem fn248 (k : Nat) (args : List AV) (x : mi248.den) (r : mo248.den) (h1 : args.length = mi248.items.length) (h2 : mi248.dec (Th.start args) = some x) (h3 : F248 k x = some r) : CallOK Tryd.prog 248 args (ansOf (outL mo248.items r)) :=
  call_of hm hT (ok_O246 k) (fn := Tryd.f248) (c := c248) Tryd.func248 rfl rfl rfl (lk248 k) rfl (by decide) rfl h1 h2 h3
noncomputable def O248 (k : Nat) : Orc := fun R f args K => bif Nat.beq f 248 then callF mi248 mo248 (F248 k) args K else O246 k R f args K
theorem ok_O248 (k : Nat) : OrcOK (O248 k) (CallOK Tryd.prog) := orc_add (fn248 k) (ok_O246 k)
noncomputable def c169 : Code := Tryd.f169.body.getD .skip
noncomputable def mi169 : Msk := ⟨[(.tmp 0, .val .str)], []⟩
noncomputable def mo169 : Msk := ⟨[(.tmp 2, .val .bool)], []⟩
noncomputable def L169_g0 (k : Nat) : LOrc := fun _ _ _ _ => none
noncomputable def b169_g0 : Code := (findScope 0 c169).getD .skip
noncomputable def l169_g0 : List (X × Msk) := [(.goto 0, ⟨[(.tmp 0, .val .str), (.tmp 3, .val (.int .i64))], []⟩)]
noncomputable def x169_g0 : List (X × Msk) := [(.ret, ⟨[(.tmp 2, .val .bool)], []⟩)]
noncomputable def F169_g0 (k : Nat) : Nat → denE l169_g0 → Option (denE x169_g0)
  | 0, _ => none
  | j + 1, v => pass TI (O248 k) (L169_g0 k) b169_g0 l169_g0 x169_g0 (F169_g0 k j) v
theorem lk169_g0_ (k : Nat) : LinksOK Tryd.prog 22 (L169_g0 k) b169_g0 := (And.intro True.intro (And.intro True.intro (And.intro (And.intro True.intro (And.intro (And.intro True.intro True.intro) True.intro)) (And.intro (And.intro True.intro (And.intro (And.intro True.intro True.intro) True.intro)) (And.intro True.intro True.intro)))))
noncomputable def L169 (k : Nat) : LOrc := fun R lk s K => match lk with
  | .loop r => none
  | .label l => (match findLabel b169_g0 l with | some _ => linkJ l169_g0 x169_g0 (F169_g0 k k) l s K | none => none)
theorem lk_L169_g0 (k : Nat) : JumpsOK Tryd.prog 22 (L169 k) b169_g0 := jumpsOK_of hm hT (ok_O248 k) (fun _ _ _ h => h) rfl (lk169_g0_ k) rfl rfl (F := F169_g0 k) (fun _ => rfl) (fun _ _ => rfl) (n := k) fun R l s K rest hf => by
  show (match findLabel b169_g0 l with | some _ => linkJ l169_g0 x169_g0 (F169_g0 k k) l s K | none => none) = _
  rw [hf]
noncomputable def F169 (k : Nat) (v : mi169.den) : Option mo169.den := runF TI (O248 k) (L169 k) c169 mi169 mo169 v
theorem lk169 (k : Nat) : LinksOK Tryd.prog 22 (L169 k) c169 := (And.intro True.intro (And.intro (lk_L169_g0 k) (And.intro True.intro (And.intro True.intro (And.intro (And.intro True.intro (And.intro (And.intro True.intro True.intro) True.intro)) (And.intro (And.intro True.intro (And.intro (And.intro True.intro True.intro) True.intro)) (And.intro True.intro True.intro)))))))
theorem fn169 (k : Nat) (args : List AV) (x : mi169.den) (r : mo169.den) (h1 : args.length = mi169.items.length) (h2 : mi169.dec (Th.start args) = some x) (h3 : F169 k x = some r) : CallOK Tryd.prog 169 args (ansOf (outL mo169.items r)) :=
  call_of hm hT (ok_O248 k) (fn := Tryd.f169) (c := c169) Tryd.func169 rfl rfl rfl (lk169 k) rfl (by decide) rfl h1 h2 h3
noncomputable def O169 (k : Nat) : Orc := fun R f args K => bif Nat.beq f 169 then callF mi169 mo169 (F169 k) args K else O248 k R f args K
theorem ok_O169 (k : Nat) : OrcOK (O169 k) (CallOK Tryd.prog) := orc_add (fn169 k) (ok_O248 k)
noncomputable def F177 (k : Nat) (v : (Int × Int × Int × Unit) × List UInt8 × Unit) : Option (Bool × Unit) := sel (decide (v.2.1.length ≤ 9223372036854775807)) (ocall (α := Bool × Unit) (F169 k ((v.2.1, ()) : List UInt8 × Unit)) fun r => some (Signs.signsOf v.1.2.1 r.1 v.2.1, ())) none
noncomputable def O177 (k : Nat) : Orc := fun R f args K => bif Nat.beq f 177 then (match args with | [.agg [.int .i64 a, .int .i64 b, .int .i64 c], .str s] => ocall (F177 k ((a, b, c, ()), s, ())) fun r => K (.bool r.1) | _ => none) else O169 k R f args K
theorem ok_O177 (k : Nat) : OrcOK (O177 k) (CallOK Tryd.prog) := by
  intro R f args K r h
  unfold O177 at h
  cases hb : Nat.beq f 177 with
  | false => rw [hb] at h; exact ok_O169 k R f args K r h
  | true =>
    rw [hb] at h
    rw [Nat.eq_of_beq_eq_true hb]
    simp only [cond_true] at h
    split at h
    · rename_i a b c s
      obtain ⟨y, hy, h⟩ := obind_some h
      unfold F177 at hy
      by_cases hl : s.length ≤ 9223372036854775807
      · rw [sel_pos hl] at hy
        obtain ⟨d, hd, hy⟩ := obind_some hy
        cases hy
        exact ⟨_, Signs.fn177 a b c s hl d.1 (fn169 k [.str s] ((s, ()) : List UInt8 × Unit) d rfl rfl hd), h⟩
      · rw [sel_neg hl] at hy; cases hy
    · cases h
noncomputable def c117 : Code := Tryd.f117.body.getD .skip
noncomputable def mi117 : Msk := ⟨[(.tmp 0, .val (.int .i64)), (.tmp 1, .val .str)], []⟩
noncomputable def mo117 : Msk := ⟨[(.tmp 4, .val .bool)], []⟩
noncomputable def L117 (k : Nat) : LOrc := fun _ _ _ _ => none
noncomputable def F117 (k : Nat) (v : mi117.den) : Option mo117.den := runF TI (O177 k) (L117 k) c117 mi117 mo117 v
theorem lk117 (k : Nat) : LinksOK Tryd.prog 25 (L117 k) c117 := (And.intro True.intro (And.intro True.intro (And.intro True.intro True.intro)))
theorem fn117 (k : Nat) (args : List AV) (x : mi117.den) (r : mo117.den) (h1 : args.length = mi117.items.length) (h2 : mi117.dec (Th.start args) = some x) (h3 : F117 k x = some r) : CallOK Tryd.prog 117 args (ansOf (outL mo117.items r)) :=
  call_of hm hT (ok_O177 k) (fn := Tryd.f117) (c := c117) Tryd.func117 rfl rfl rfl (lk117 k) rfl (by decide) rfl h1 h2 h3
noncomputable def O117 (k : Nat) : Orc := fun R f args K => bif Nat.beq f 117 then callF mi117 mo117 (F117 k) args K else O177 k R f args K
theorem ok_O117 (k : Nat) : OrcOK (O117 k) (CallOK Tryd.prog) := orc_add (fn117 k) (ok_O177 k)
noncomputable def c105 : Code := Tryd.f105.body.getD .skip
noncomputable def mi105 : Msk := ⟨[(.tmp 0, .val (.int .u64)), (.tmp 1, .val (.int .i64))], []⟩
noncomputable def mo105 : Msk := ⟨[(.tmp 4, .val .str), (.tmp 5, .val (.int .i64))], []⟩
noncomputable def L105_5 (k : Nat) : LOrc := fun _ _ _ _ => none
noncomputable def b105_5 : Code := (findLoop 5 c105).getD .skip
noncomputable def m105_5 : Msk := ⟨[(.tmp 0, .val (.int .u64)), (.tmp 6, .row false (.int .u8)), (.tmp 7, .val (.int .i64))], []⟩
noncomputable def x105_5 : List (X × Msk) := [(.exit 0, ⟨[(.tmp 0, .val (.int .u64)), (.tmp 6, .row false (.int .u8))], []⟩)]
noncomputable def F105_5 (k : Nat) : Nat → m105_5.den → Option (denE x105_5)
  | 0, _ => none
  | j + 1, v => round TI (O117 k) (L105_5 k) b105_5 m105_5 x105_5 (F105_5 k j) v
theorem lk105_5_ (k : Nat) : LinksOK Tryd.prog 35 (L105_5 k) b105_5 := (And.intro (And.intro True.intro (And.intro True.intro True.intro)) (And.intro (And.intro True.intro True.intro) True.intro))
noncomputable def L105 (k : Nat) : LOrc := fun R lk s K => match lk with
  | .loop r => bif Nat.beq r 5 then link m105_5 x105_5 (F105_5 k k) s K else none
  | .label l => none
theorem lk_L105_5 (k : Nat) : LoopOK Tryd.prog 35 (L105 k) b105_5 := loopOK_of hm hT (ok_O117 k) (fun _ _ _ h => h) rfl (lk105_5_ k) rfl rfl (F := F105_5 k) (fun _ => rfl) (fun _ _ => rfl) (n := k) fun _ _ _ => rfl
noncomputable def F105 (k : Nat) (v : mi105.den) : Option mo105.den := runF TI (O117 k) (L105 k) c105 mi105 mo105 v
theorem lk105 (k : Nat) : LinksOK Tryd.prog 35 (L105 k) c105 := (And.intro True.intro (And.intro (And.intro True.intro (And.intro (And.intro True.intro True.intro) True.intro)) (And.intro True.intro (And.intro (And.intro True.intro (lk_L105_5 k)) (And.intro (And.intro True.intro (And.intro (And.intro True.intro True.intro) True.intro)) (And.intro True.intro True.intro))))))
theorem fn105 (k : Nat) (args : List AV) (x : mi105.den) (r : mo105.den) (h1 : args.length = mi105.items.length) (h2 : mi105.dec (Th.start args) = some x) (h3 : F105 k x = some r) : CallOK Tryd.prog 105 args (ansOf (outL mo105.items r)) :=
  call_of hm hT (ok_O117 k) (fn := Tryd.f105) (c := c105) Tryd.func105 rfl rfl rfl (lk105 k) rfl (by decide) rfl h1 h2 h3
noncomputable def O105 (k : Nat) : Orc := fun R f args K => bif Nat.beq f 105 then callF mi105 mo105 (F105 k) args K else O117 k R f args K
theorem ok_O105 (k : Nat) : OrcOK (O105 k) (CallOK Tryd.prog) := orc_add (fn105 k) (ok_O117 k)
noncomputable def c202 : Code := Tryd.f202.body.getD .skip
noncomputable def mi202 : Msk := ⟨[], []⟩
noncomputable def mo202 : Msk := ⟨[(.tmp 0, .row false (.int .i64))], []⟩
noncomputable def L202 (k : Nat) : LOrc := fun _ _ _ _ => none
noncomputable def F202 (k : Nat) (v : mi202.den) : Option mo202.den := runF TI (O105 k) (L202 k) c202 mi202 mo202 v
theorem lk202 (k : Nat) : LinksOK Tryd.prog 2 (L202 k) c202 := (And.intro True.intro (And.intro True.intro True.intro))
theorem fn202 (k : Nat) (args : List AV) (x : mi202.den) (r : mo202.den) (h1 : args.length = mi202.items.length) (h2 : mi202.dec (Th.start args) = some x) (h3 : F202 k x = some r) : CallOK Tryd.prog 202 args (ansOf (outL mo202.items r)) :=
  call_of hm hT (ok_O105 k) (fn := Tryd.f202) (c := c202) Tryd.func202 rfl rfl rfl (lk202 k) rfl (by decide) rfl h1 h2 h3
noncomputable def O202 (k : Nat) : Orc := fun R f args K => bif Nat.beq f 202 then callF mi202 mo202 (F202 k) args K else O105 k R f args K
theorem ok_O202 (k : Nat) : OrcOK (O202 k) (CallOK Tryd.prog) := orc_add (fn202 k) (ok_O105 k)
noncomputable def c164 : Code := Tryd.f164.body.getD .skip
noncomputable def mi164 : Msk := ⟨[(.tmp 0, .val (.int .i64))], []⟩
noncomputable def mo164 : Msk := ⟨[(.res 2, .val (.st (.cons (.int .i64) (.cons (.int .i64) (.cons (.int .i64) .nil))))), (.tmp 3, .val .bool)], []⟩
noncomputable def L164_3 (k : Nat) : LOrc := fun _ _ _ _ => none
noncomputable def b164_3 : Code := (findLoop 3 c164).getD .skip
noncomputable def m164_3 : Msk := ⟨[(.tmp 0, .val (.int .i64)), (.tmp 2, .ptr 2 0), (.tmp 4, .row false (.int .i64)), (.tmp 5, .val (.int .i64)), (.cell 2 0, .val (.int .i64)), (.cell 2 1, .val (.int .i64)), (.cell 2 2, .val (.int .i64))], [(2, 3)]⟩
noncomputable def x164_3 : List (X × Msk) := [(.exit 0, ⟨[(.tmp 2, .ptr 2 0), (.cell 2 0, .val (.int .i64)), (.cell 2 1, .val (.int .i64)), (.cell 2 2, .val (.int .i64))], [(2, 3)]⟩), (.ret, ⟨[(.tmp 2, .ptr 2 0), (.tmp 3, .val .bool), (.cell 2 0, .val (.int .i64)), (.cell 2 1, .val (.int .i64)), (.cell 2 2, .val (.int .i64))], [(2, 3)]⟩)]
noncomputable def F164_3 (k : Nat) : Nat → m164_3.den → Option (denE x164_3)
  | 0, _ => none
  | j + 1, v => round TI (O202 k) (L164_3 k) b164_3 m164_3 x164_3 (F164_3 k j) v
theorem lk164_3_ (k : Nat) : LinksOK Tryd.prog 35 (L164_3 k) b164_3 := (And.intro (And.intro True.intro (And.intro True.intro True.intro)) (And.intro (And.intro True.intro (And.intro (And.intro True.intro True.intro) True.intro)) True.intro))
noncomputable def L164 (k : Nat) : LOrc := fun R lk s K => match lk with
  | .loop r => bif Nat.beq r 3 then link m164_3 x164_3 (F164_3 k k) s K else none
  | .label l => none
theorem lk_L164_3 (k : Nat) : LoopOK Tryd.prog 35 (L164 k) b164_3 := loopOK_of hm hT (ok_O202 k) (fun _ _ _ h => h) rfl (lk164_3_ k) rfl rfl (F := F164_3 k) (fun _ => rfl) (fun _ _ => rfl) (n := k) fun _ _ _ => rfl
noncomputable def F164 (k : Nat) (v : mi164.den) : Option mo164.den := runF TI (O202 k) (L164 k) c164 mi164 mo164 v
theorem lk164 (k : Nat) : LinksOK Tryd.prog 35 (L164 k) c164 := (And.intro True.intro (And.intro True.intro (And.intro (And.intro True.intro (lk_L164_3 k)) (And.intro True.intro True.intro))))
theorem fn164 (k : Nat) (args : List AV) (x : mi164.den) (r : mo164.den) (h1 : args.length = mi164.items.length) (h2 : mi164.dec (Th.start args) = some x) (h3 : F164 k x = some r) : CallOK Tryd.prog 164 args (ansOf (outL mo164.items r)) :=
  call_of hm hT (ok_O202 k) (fn := Tryd.f164) (c := c164) Tryd.func164 rfl rfl rfl (lk164 k) rfl (by decide) rfl h1 h2 h3
noncomputable def O164 (k : Nat) : Orc := fun R f args K => bif Nat.beq f 164 then callF mi164 mo164 (F164 k) args K else O202 k R f args K
theorem ok_O164 (k : Nat) : OrcOK (O164 k) (CallOK Tryd.prog) := orc_add (fn164 k) (ok_O202 k)
noncomputable def c171 : Code := Tryd.f171.body.getD .skip
noncomputable def mi171 : Msk := ⟨[(.tmp 0, .val .str)], []⟩
noncomputable def mo171 : Msk := ⟨[(.tmp 2, .val .bool)], []⟩
noncomputable def L171_2 (k : Nat) : LOrc := fun _ _ _ _ => none
noncomputable def b171_2 : Code := (findLoop 2 c171).getD .skip
noncomputable def m171_2 : Msk := ⟨[(.tmp 0, .val .str), (.tmp 3, .val (.int .i64))], []⟩
noncomputable def x171_2 : List (X × Msk) := [(.exit 0, ⟨[(.tmp 0, .val .str)], []⟩), (.ret, ⟨[(.tmp 2, .val .bool)], []⟩)]
noncomputable def F171_2 (k : Nat) : Nat → m171_2.den → Option (denE x171_2)
  | 0, _ => none
  | j + 1, v => round TI (O164 k) (L171_2 k) b171_2 m171_2 x171_2 (F171_2 k j) v
theorem lk171_2_ (k : Nat) : LinksOK Tryd.prog 23 (L171_2 k) b171_2 := (And.intro (And.intro True.intro (And.intro True.intro True.intro)) (And.intro (And.intro True.intro (And.intro (And.intro True.intro True.intro) True.intro)) True.intro))
noncomputable def L171 (k : Nat) : LOrc := fun R lk s K => match lk with
  | .loop r => bif Nat.beq r 2 then link m171_2 x171_2 (F171_2 k k) s K else none
  | .label l => none
theorem lk_L171_2 (k : Nat) : LoopOK Tryd.prog 23 (L171 k) b171_2 := loopOK_of hm hT (ok_O164 k) (fun _ _ _ h => h) rfl (lk171_2_ k) rfl rfl (F := F171_2 k) (fun _ => rfl) (fun _ _ => rfl) (n := k) fun _ _ _ => rfl
noncomputable def F171 (k : Nat) (v : mi171.den) : Option mo171.den := runF TI (O164 k) (L171 k) c171 mi171 mo171 v
theorem lk171 (k : Nat) : LinksOK Tryd.prog 23 (L171 k) c171 := (And.intro True.intro (And.intro (And.intro True.intro (lk_L171_2 k)) (And.intro True.intro True.intro)))
theorem fn171 (k : Nat) (args : List AV) (x : mi171.den) (r : mo171.den) (h1 : args.length = mi171.items.length) (h2 : mi171.dec (Th.start args) = some x) (h3 : F171 k x = some r) : CallOK Tryd.prog 171 args (ansOf (outL mo171.items r)) :=
  call_of hm hT (ok_O164 k) (fn := Tryd.f171) (c := c171) Tryd.func171 rfl rfl rfl (lk171 k) rfl (by decide) rfl h1 h2 h3
noncomputable def O171 (k : Nat) : Orc := fun R f args K => bif Nat.beq f 171 then callF mi171 mo171 (F171 k) args K else O164 k R f args K
theorem ok_O171 (k : Nat) : OrcOK (O171 k) (CallOK Tryd.prog) := orc_add (fn171 k) (ok_O164 k)
noncomputable def c165 : Code := Tryd.f165.body.getD .skip
noncomputable def mi165 : Msk := ⟨[(.tmp 0, .val (.int .i64)), (.tmp 1, .val .str)], []⟩
noncomputable def mo165 : Msk := ⟨[(.tmp 4, .val .bool)], []⟩
noncomputable def L165_2 (k : Nat) : LOrc := fun _ _ _ _ => none
noncomputable def b165_2 : Code := (findLoop 2 c165).getD .skip
noncomputable def m165_2 : Msk := ⟨[(.tmp 0, .val (.int .i64)), (.tmp 1, .val .str), (.tmp 5, .val (.int .i64))], []⟩
noncomputable def x165_2 : List (X × Msk) := [(.exit 0, ⟨[], []⟩), (.ret, ⟨[(.tmp 4, .val .bool)], []⟩)]
noncomputable def F165_2 (k : Nat) : Nat → m165_2.den → Option (denE x165_2)
  | 0, _ => none
  | j + 1, v => round TI (O171 k) (L165_2 k) b165_2 m165_2 x165_2 (F165_2 k j) v
theorem lk165_2_ (k : Nat) : LinksOK Tryd.prog 32 (L165_2 k) b165_2 := (And.intro (And.intro True.intro (And.intro True.intro True.intro)) (And.intro (And.intro True.intro (And.intro (And.intro True.intro (And.intro True.intro True.intro)) (And.intro True.intro (And.intro (And.intro True.intro True.intro) True.intro)))) True.intro))
noncomputable def L165 (k : Nat) : LOrc := fun R lk s K => match lk with
  | .loop r => bif Nat.beq r 2 then link m165_2 x165_2 (F165_2 k k) s K else none
  | .label l => none
theorem lk_L165_2 (k : Nat) : LoopOK Tryd.prog 32 (L165 k) b165_2 := loopOK_of hm hT (ok_O171 k) (fun _ _ _ h => h) rfl (lk165_2_ k) rfl rfl (F := F165_2 k) (fun _ => rfl) (fun _ _ => rfl) (n := k) fun _ _ _ => rfl
noncomputable def F165 (k : Nat) (v : mi165.den) : Option mo165.den := runF TI (O171 k) (L165 k) c165 mi165 mo165 v
theorem lk165 (k : Nat) : LinksOK Tryd.prog 32 (L165 k) c165 := (And.intro True.intro (And.intro (And.intro True.intro (lk_L165_2 k)) (And.intro True.intro True.intro)))
theorem fn165 (k : Nat) (args : List AV) (x : mi165.den) (r : mo165.den) (h1 : args.length = mi165.items.length) (h2 : mi165.dec (Th.start args) = some x) (h3 : F165 k x = some r) : CallOK Tryd.prog 165 args (ansOf (outL mo165.items r)) :=
  call_of hm hT (ok_O171 k) (fn := Tryd.f165) (c := c165) Tryd.func165 rfl rfl rfl (lk165 k) rfl (by decide) rfl h1 h2 h3
noncomputable def O165 (k : Nat) : Orc := fun R f args K => bif Nat.beq f 165 then callF mi165 mo165 (F165 k) args K else O171 k R f args K
theorem ok_O165 (k : Nat) : OrcOK (O165 k) (CallOK Tryd.prog) := orc_add (fn165 k) (ok_O171 k)
noncomputable def c166 : Code := Tryd.f166.body.getD .skip
noncomputable def mi166 : Msk := ⟨[(.tmp 0, .val (.int .u32))], []⟩
noncomputable def mo166 : Msk := ⟨[(.tmp 2, .val .bool)], []⟩
noncomputable def L166 (k : Nat) : LOrc := fun _ _ _ _ => none
noncomputable def F166 (k : Nat) (v : mi166.den) : Option mo166.den := runF TI (O165 k) (L166 k) c166 mi166 mo166 v
theorem lk166 (k : Nat) : LinksOK Tryd.prog 6 (L166 k) c166 := (And.intro True.intro (And.intro True.intro True.intro))
theorem fn166 (k : Nat) (args : List AV) (x : mi166.den) (r : mo166.den) (h1 : args.length = mi166.items.length) (h2 : mi166.dec (Th.start args) = some x) (h3 : F166 k x = some r) : CallOK Tryd.prog 166 args (ansOf (outL mo166.items r)) :=
  call_of hm hT (ok_O165 k) (fn := Tryd.f166) (c := c166) Tryd.func166 rfl rfl rfl (lk166 k) rfl (by decide) rfl h1 h2 h3
noncomputable def O166 (k : Nat) : Orc := fun R f args K => bif Nat.beq f 166 then callF mi166 mo166 (F166 k) args K else O165 k R f args K
theorem ok_O166 (k : Nat) : OrcOK (O166 k) (CallOK Tryd.prog) := orc_add (fn166 k) (ok_O165 k)
noncomputable def c103 : Code := Tryd.f103.body.getD .skip
noncomputable def mi103 : Msk := ⟨[(.tmp 0, .val (.int .u32)), (.tmp 1, .val (.int .u32))], []⟩
noncomputable def mo103 : Msk := ⟨[(.tmp 4, .val (.int .i64))], []⟩
noncomputable def L103 (k : Nat) : LOrc := fun _ _ _ _ => none
noncomputable def F103 (k : Nat) (v : mi103.den) : Option mo103.den := runF TI (O166 k) (L103 k) c103 mi103 mo103 v
theorem lk103 (k : Nat) : LinksOK Tryd.prog 20 (L103 k) c103 := (And.intro True.intro (And.intro True.intro (And.intro True.intro (And.intro (And.intro True.intro (And.intro (And.intro (And.intro True.intro (And.intro (And.intro True.intro True.intro) True.intro)) (And.intro True.intro True.intro)) True.intro)) (And.intro (And.intro True.intro (And.intro (And.intro True.intro True.intro) True.intro)) (And.intro (And.intro True.intro (And.intro (And.intro True.intro True.intro) True.intro)) (And.intro (And.intro True.intro (And.intro (And.intro True.intro True.intro) True.intro)) (And.intro True.intro True.intro))))))))
theorem fn103 (k : Nat) (args : List AV) (x : mi103.den) (r : mo103.den) (h1 : args.length = mi103.items.length) (h2 : mi103.dec (Th.start args) = some x) (h3 : F103 k x = some r) : CallOK Tryd.prog 103 args (ansOf (outL mo103.items r)) :=
  call_of hm hT (ok_O166 k) (fn := Tryd.f103) (c := c103) Tryd.func103 rfl rfl rfl (lk103 k) rfl (by decide) rfl h1 h2 h3
noncomputable def O103 (k : Nat) : Orc := fun R f args K => bif Nat.beq f 103 then callF mi103 mo103 (F103 k) args K else O166 k R f args K
theorem ok_O103 (k : Nat) : OrcOK (O103 k) (CallOK Tryd.prog) := orc_add (fn103 k) (ok_O166 k)
noncomputable def c167 : Code := Tryd.f167.body.getD .skip
noncomputable def mi167 : Msk := ⟨[(.tmp 0, .val .str)], []⟩
noncomputable def mo167 : Msk := ⟨[(.tmp 2, .val .bool)], []⟩
noncomputable def L167 (k : Nat) : LOrc := fun _ _ _ _ => none
noncomputable def F167 (k : Nat) (v : mi167.den) : Option mo167.den := runF TI (O103 k) (L167 k) c167 mi167 mo167 v
theorem lk167 (k : Nat) : LinksOK Tryd.prog 6 (L167 k) c167 := (And.intro True.intro (And.intro True.intro True.intro))
theorem fn167 (k : Nat) (args : List AV) (x : mi167.den) (r : mo167.den) (h1 : args.length = mi167.items.length) (h2 : mi167.dec (Th.start args) = some x) (h3 : F167 k x = some r) : CallOK Tryd.prog 167 args (ansOf (outL mo167.items r)) :=
  call_of hm hT (ok_O103 k) (fn := Tryd.f167) (c := c167) Tryd.func167 rfl rfl rfl (lk167 k) rfl (by decide) rfl h1 h2 h3
noncomputable def O167 (k : Nat) : Orc := fun R f args K => bif Nat.beq f 167 then callF mi167 mo167 (F167 k) args K else O103 k R f args K
theorem ok_O167 (k : Nat) : OrcOK (O167 k) (CallOK Tryd.prog) := orc_add (fn167 k) (ok_O103 k)
noncomputable def c104 : Code := Tryd.f104.body.getD .skip
noncomputable def mi104 : Msk := ⟨[(.tmp 0, .val .str), (.tmp 1, .val .str)], []⟩
noncomputable def mo104 : Msk := ⟨[(.tmp 4, .val (.int .i64))], []⟩
noncomputable def L104 (k : Nat) : LOrc := fun _ _ _ _ => none
noncomputable def F104 (k : Nat) (v : mi104.den) : Option mo104.den := runF TI (O167 k) (L104 k) c104 mi104 mo104 v
theorem lk104 (k : Nat) : LinksOK Tryd.prog 20 (L104 k) c104 := (And.intro True.intro (And.intro True.intro (And.intro True.intro (And.intro (And.intro True.intro (And.intro (And.intro (And.intro True.intro (And.intro (And.intro True.intro True.intro) True.intro)) (And.intro True.intro True.intro)) True.intro)) (And.intro (And.intro True.intro (And.intro (And.intro True.intro True.intro) True.intro)) (And.intro (And.intro True.intro (And.intro (And.intro True.intro True.intro) True.intro)) (And.intro (And.intro True.intro (And.intro (And.intro True.intro True.intro) True.intro)) (And.intro True.intro True.intro))))))))
theorem fn104 (k : Nat) (args : List AV) (x : mi104.den) (r : mo104.den) (h1 : args.length = mi104.items.length) (h2 : mi104.dec (Th.start args) = some x) (h3 : F104 k x = some r) : CallOK Tryd.prog 104 args (ansOf (outL mo104.items r)) :=
  call_of hm hT (ok_O167 k) (fn := Tryd.f104) (c := c104) Tryd.func104 rfl rfl rfl (lk104 k) rfl (by decide) rfl h1 h2 h3
noncomputable def O104 (k : Nat) : Orc := fun R f args K => bif Nat.beq f 104 then callF mi104 mo104 (F104 k) args K else O167 k R f args K
theorem ok_O104 (k : Nat) : OrcOK (O104 k) (CallOK Tryd.prog) := orc_add (fn104 k) (ok_O167 k)
noncomputable def c102 : Code := Tryd.f102.body.getD .skip
noncomputable def mi102 : Msk := ⟨[(.tmp 0, .val (.slice (.int .i64)))], []⟩
noncomputable def mo102 : Msk := ⟨[(.tmp 2, .val (.int .i64))], []⟩
noncomputable def L102_3 (k : Nat) : LOrc := fun _ _ _ _ => none
noncomputable def b102_3 : Code := (findLoop 3 c102).getD .skip
noncomputable def m102_3 : Msk := ⟨[(.tmp 3, .val (.int .i64)), (.tmp 6, .val (.slice (.int .i64))), (.tmp 7, .val (.int .i64)), (.tmp 8, .val (.int .i64))], []⟩
noncomputable def x102_3 : List (X × Msk) := [(.exit 0, ⟨[(.tmp 3, .val (.int .i64))], []⟩), (.ret, ⟨[(.tmp 2, .val (.int .i64))], []⟩)]
noncomputable def F102_3 (k : Nat) : Nat → m102_3.den → Option (denE x102_3)
  | 0, _ => none
  | j + 1, v => round TI (O104 k) (L102_3 k) b102_3 m102_3 x102_3 (F102_3 k j) v
theorem lk102_3_ (k : Nat) : LinksOK Tryd.prog 18 (L102_3 k) b102_3 := (And.intro True.intro (And.intro (And.intro True.intro True.intro) (And.intro (And.intro True.intro (And.intro True.intro (And.intro (And.intro True.intro True.intro) True.intro))) True.intro)))
noncomputable def L102 (k : Nat) : LOrc := fun R lk s K => match lk with
  | .loop r => bif Nat.beq r 3 then link m102_3 x102_3 (F102_3 k k) s K else none
  | .label l => none
theorem lk_L102_3 (k : Nat) : LoopOK Tryd.prog 18 (L102 k) b102_3 := loopOK_of hm hT (ok_O104 k) (fun _ _ _ h => h) rfl (lk102_3_ k) rfl rfl (F := F102_3 k) (fun _ => rfl) (fun _ _ => rfl) (n := k) fun _ _ _ => rfl
noncomputable def F102 (k : Nat) (v : mi102.den) : Option mo102.den := runF TI (O104 k) (L102 k) c102 mi102 mo102 v
theorem lk102 (k : Nat) : LinksOK Tryd.prog 18 (L102 k) c102 := (And.intro True.intro (And.intro True.intro (And.intro (And.intro True.intro (lk_L102_3 k)) (And.intro True.intro True.intro))))
theorem fn102 (k : Nat) (args : List AV) (x : mi102.den) (r : mo102.den) (h1 : args.length = mi102.items.length) (h2 : mi102.dec (Th.start args) = some x) (h3 : F102 k x = some r) : CallOK Tryd.prog 102 args (ansOf (outL mo102.items r)) :=
  call_of hm hT (ok_O104 k) (fn := Tryd.f102) (c := c102) Tryd.func102 rfl rfl rfl (lk102 k) rfl (by decide) rfl h1 h2 h3
noncomputable def O102 (k : Nat) : Orc := fun R f args K => bif Nat.beq f 102 then callF mi102 mo102 (F102 k) args K else O104 k R f args K
theorem ok_O102 (k : Nat) : OrcOK (O102 k) (CallOK Tryd.prog) := orc_add (fn102 k) (ok_O104 k)
noncomputable def c29 : Code := Tryd.f29.body.getD .skip
noncomputable def mi29 : Msk := ⟨[(.tmp 0, .val (.st (.cons (.int .u32) (.cons .str .nil)))), (.tmp 1, .val (.st (.cons (.int .u32) (.cons .str .nil))))], []⟩
noncomputable def mo29 : Msk := ⟨[(.tmp 4, .val (.int .i64))], []⟩
noncomputable def L29 (k : Nat) : LOrc := fun _ _ _ _ => none
noncomputable def F29 (k : Nat) (v : mi29.den) : Option mo29.den := runF TI (O102 k) (L29 k) c29 mi29 mo29 v
theorem lk29 (k : Nat) : LinksOK Tryd.prog 17 (L29 k) c29 := (And.intro True.intro (And.intro True.intro True.intro))
theorem fn29 (k : Nat) (args : List AV) (x : mi29.den) (r : mo29.den) (h1 : args.length = mi29.items.length) (h2 : mi29.dec (Th.start args) = some x) (h3 : F29 k x = some r) : CallOK Tryd.prog 29 args (ansOf (outL mo29.items r)) :=
  call_of hm hT (ok_O102 k) (fn := Tryd.f29) (c := c29) Tryd.func29 rfl rfl rfl (lk29 k) rfl (by decide) rfl h1 h2 h3
noncomputable def O29 (k : Nat) : Orc := fun R f args K => bif Nat.beq f 29 then callF mi29 mo29 (F29 k) args K else O102 k R f args K
theorem ok_O29 (k : Nat) : OrcOK (O29 k) (CallOK Tryd.prog) := orc_add (fn29 k) (ok_O102 k)
noncomputable def c42 : Code := Tryd.f42.body.getD .skip
noncomputable def mi42 : Msk := ⟨[(.tmp 0, .val (.int .i64))], []⟩
noncomputable def mo42 : Msk := ⟨[(.tmp 2, .val .bool)], []⟩
noncomputable def L42 (k : Nat) : LOrc := fun _ _ _ _ => none
noncomputable def F42 (k : Nat) (v : mi42.den) : Option mo42.den := runF TI (O29 k) (L42 k) c42 mi42 mo42 v
theorem lk42 (k : Nat) : LinksOK Tryd.prog 9 (L42 k) c42 := (And.intro True.intro (And.intro (And.intro True.intro (And.intro (And.intro True.intro (And.intro True.intro (And.intro True.intro (And.intro True.intro (And.intro True.intro (And.intro True.intro True.intro)))))) (And.intro (And.intro True.intro True.intro) True.intro))) (And.intro True.intro True.intro)))
theorem fn42 (k : Nat) (args : List AV) (x : mi42.den) (r : mo42.den) (h1 : args.length = mi42.items.length) (h2 : mi42.dec (Th.start args) = some x) (h3 : F42 k x = some r) : CallOK Tryd.prog 42 args (ansOf (outL mo42.items r)) :=
  call_of hm hT (ok_O29 k) (fn := Tryd.f42) (c := c42) Tryd.func42 rfl rfl rfl (lk42 k) rfl (by decide) rfl h1 h2 h3
noncomputable def O42 (k : Nat) : Orc := fun R f args K => bif Nat.beq f 42 then callF mi42 mo42 (F42 k) args K else O29 k R f args K
theorem ok_O42 (k : Nat) : OrcOK (O42 k) (CallOK Tryd.prog) := orc_add (fn42 k) (ok_O29 k)
noncomputable def F170 (k : Nat) (v : List UInt8 × Bool × Unit) : Option (Int × Unit) := sel (decide (v.1.length ≤ 9223372036854775807)) (some ((Sum.sumOf (Sum.backs (toBytes v.1)) v.2.1).1, ())) none
noncomputable def O170 (k : Nat) : Orc := fun R f args K => bif Nat.beq f 170 then (match args with | [.str b, .bool t] => ocall (F170 k (b, t, ())) fun r => K (.int .i64 r.1) | _ => none) else O42 k R f args K
theorem ok_O170 (k : Nat) : OrcOK (O170 k) (CallOK Tryd.prog) := by
  intro R f args K r h
  unfold O170 at h
  cases hb : Nat.beq f 170 with
  | false => rw [hb] at h; exact ok_O42 k R f args K r h
  | true =>
    rw [hb] at h
    rw [Nat.eq_of_beq_eq_true hb]
    simp only [cond_true] at h
    split at h
    · rename_i b t
      unfold F170 at h
      by_cases hl : b.length ≤ 9223372036854775807
      · rw [sel_pos hl] at h
        exact ⟨_, Sum.fn170 b hl t, h⟩
      · rw [sel_neg hl] at h; cases h
    · cases h
noncomputable def c107 : Code := Tryd.f107.body.getD .skip
noncomputable def mi107 : Msk := ⟨[(.tmp 0, .val .str)], []⟩
noncomputable def mo107 : Msk := ⟨[(.tmp 2, .val .bool)], []⟩
noncomputable def L107 (k : Nat) : LOrc := fun _ _ _ _ => none
noncomputable def F107 (k : Nat) (v : mi107.den) : Option mo107.den := runF TI (O170 k) (L107 k) c107 mi107 mo107 v
theorem lk107 (k : Nat) : LinksOK Tryd.prog 11 (L107 k) c107 := (And.intro True.intro (And.intro True.intro True.intro))
theorem fn107 (k : Nat) (args : List AV) (x : mi107.den) (r : mo107.den) (h1 : args.length = mi107.items.length) (h2 : mi107.dec (Th.start args) = some x) (h3 : F107 k x = some r) : CallOK Tryd.prog 107 args (ansOf (outL mo107.items r)) :=
  call_of hm hT (ok_O170 k) (fn := Tryd.f107) (c := c107) Tryd.func107 rfl rfl rfl (lk107 k) rfl (by decide) rfl h1 h2 h3
noncomputable def O107 (k : Nat) : Orc := fun R f args K => bif Nat.beq f 107 then callF mi107 mo107 (F107 k) args K else O170 k R f args K
theorem ok_O107 (k : Nat) : OrcOK (O107 k) (CallOK Tryd.prog) := orc_add (fn107 k) (ok_O170 k)
noncomputable def c108 : Code := Tryd.f108.body.getD .skip
noncomputable def mi108 : Msk := ⟨[(.tmp 0, .val (.int .i64))], []⟩
noncomputable def mo108 : Msk := ⟨[(.tmp 2, .val .str)], []⟩
noncomputable def L108 (k : Nat) : LOrc := fun _ _ _ _ => none
noncomputable def F108 (k : Nat) (v : mi108.den) : Option mo108.den := runF TI (O107 k) (L108 k) c108 mi108 mo108 v
theorem lk108 (k : Nat) : LinksOK Tryd.prog 12 (L108 k) c108 := (And.intro True.intro (And.intro (And.intro True.intro (And.intro (And.intro True.intro True.intro) True.intro)) (And.intro True.intro True.intro)))
theorem fn108 (k : Nat) (args : List AV) (x : mi108.den) (r : mo108.den) (h1 : args.length = mi108.items.length) (h2 : mi108.dec (Th.start args) = some x) (h3 : F108 k x = some r) : CallOK Tryd.prog 108 args (ansOf (outL mo108.items r)) :=
  call_of hm hT (ok_O107 k) (fn := Tryd.f108) (c := c108) Tryd.func108 rfl rfl rfl (lk108 k) rfl (by decide) rfl h1 h2 h3
noncomputable def O108 (k : Nat) : Orc := fun R f args K => bif Nat.beq f 108 then callF mi108 mo108 (F108 k) args K else O107 k R f args K
theorem ok_O108 (k : Nat) : OrcOK (O108 k) (CallOK Tryd.prog) := orc_add (fn108 k) (ok_O107 k)
noncomputable def c109 : Code := Tryd.f109.body.getD .skip
noncomputable def mi109 : Msk := ⟨[(.tmp 0, .val (.st (.cons (.int .i64) (.cons .str (.cons (.int .u64) (.cons (.int .u32) (.cons .str (.cons .str .nil))))))))], []⟩
noncomputable def mo109 : Msk := ⟨[(.tmp 2, .row false (.st (.cons (.int .i64) (.cons .str .nil))))], []⟩
noncomputable def L109 (k : Nat) : LOrc := fun _ _ _ _ => none
noncomputable def F109 (k : Nat) (v : mi109.den) : Option mo109.den := runF TI (O108 k) (L109 k) c109 mi109 mo109 v
theorem lk109 (k : Nat) : LinksOK Tryd.prog 57 (L109 k) c109 := (And.intro True.intro (And.intro True.intro (And.intro True.intro (And.intro (And.intro True.intro (And.intro (And.intro True.intro True.intro) True.intro)) (And.intro True.intro (And.intro True.intro (And.intro (And.intro True.intro (And.intro True.intro True.intro)) (And.intro True.intro True.intro))))))))
theorem fn109 (k : Nat) (args : List AV) (x : mi109.den) (r : mo109.den) (h1 : args.length = mi109.items.length) (h2 : mi109.dec (Th.start args) = some x) (h3 : F109 k x = some r) : CallOK Tryd.prog 109 args (ansOf (outL mo109.items r)) :=
  call_of hm hT (ok_O108 k) (fn := Tryd.f109) (c := c109) Tryd.func109 rfl rfl rfl (lk109 k) rfl (by decide) rfl h1 h2 h3
noncomputable def O109 (k : Nat) : Orc := fun R f args K => bif Nat.beq f 109 then callF mi109 mo109 (F109 k) args K else O108 k R f args K
theorem ok_O109 (k : Nat) : OrcOK (O109 k) (CallOK Tryd.prog) := orc_add (fn109 k) (ok_O108 k)
noncomputable def c121 : Code := Tryd.f121.body.getD .skip
noncomputable def mi121 : Msk := ⟨[(.tmp 0, .val .str)], []⟩
noncomputable def mo121 : Msk := ⟨[(.tmp 2, .val .bool)], []⟩
noncomputable def L121 (k : Nat) : LOrc := fun _ _ _ _ => none
noncomputable def F121 (k : Nat) (v : mi121.den) : Option mo121.den := runF TI (O109 k) (L121 k) c121 mi121 mo121 v
theorem lk121 (k : Nat) : LinksOK Tryd.prog 12 (L121 k) c121 := (And.intro True.intro (And.intro (And.intro True.intro (And.intro (And.intro True.intro (And.intro True.intro (And.intro True.intro (And.intro True.intro (And.intro True.intro (And.intro True.intro (And.intro True.intro (And.intro True.intro (And.intro True.intro (And.intro True.intro (And.intro True.intro (And.intro True.intro True.intro)))))))))))) (And.intro (And.intro True.intro True.intro) True.intro))) (And.intro True.intro True.intro)))
theorem fn121 (k : Nat) (args : List AV) (x : mi121.den) (r : mo121.den) (h1 : args.length = mi121.items.length) (h2 : mi121.dec (Th.start args) = some x) (h3 : F121 k x = some r) : CallOK Tryd.prog 121 args (ansOf (outL mo121.items r)) :=
  call_of hm hT (ok_O109 k) (fn := Tryd.f121) (c := c121) Tryd.func121 rfl rfl rfl (lk121 k) rfl (by decide) rfl h1 h2 h3
noncomputable def O121 (k : Nat) : Orc := fun R f args K => bif Nat.beq f 121 then callF mi121 mo121 (F121 k) args K else O109 k R f args K
theorem ok_O121 (k : Nat) : OrcOK (O121 k) (CallOK Tryd.prog) := orc_add (fn121 k) (ok_O109 k)
noncomputable def c44 : Code := Tryd.f44.body.getD .skip
noncomputable def mi44 : Msk := ⟨[(.tmp 0, .val (.st (.cons .str (.cons (.slice (.st (.cons (.int .i64) (.cons .str .nil)))) .nil))))], []⟩
noncomputable def mo44 : Msk := ⟨[(.tmp 2, .val .bool)], []⟩
noncomputable def L44_3 (k : Nat) : LOrc := fun _ _ _ _ => none
noncomputable def b44_3 : Code := (findLoop 3 c44).getD .skip
noncomputable def m44_3 : Msk := ⟨[(.tmp 1, .ptr 1 0), (.tmp 3, .val (.int .i64)), (.tmp 7, .val (.slice (.st (.cons (.int .i64) (.cons .str .nil))))), (.tmp 8, .val (.int .i64)), (.tmp 9, .val (.int .i64)), (.cell 1 0, .val .str), (.cell 1 1, .val (.slice (.st (.cons (.int .i64) (.cons .str .nil)))))], [(1, 2)]⟩
noncomputable def x44_3 : List (X × Msk) := [(.exit 0, ⟨[(.tmp 1, .ptr 1 0), (.cell 1 0, .val .str), (.cell 1 1, .val (.slice (.st (.cons (.int .i64) (.cons .str .nil)))))], [(1, 2)]⟩), (.ret, ⟨[(.tmp 2, .val .bool)], []⟩)]
noncomputable def F44_3 (k : Nat) : Nat → m44_3.den → Option (denE x44_3)
  | 0, _ => none
  | j + 1, v => round TI (O121 k) (L44_3 k) b44_3 m44_3 x44_3 (F44_3 k j) v
theorem lk44_3_ (k : Nat) : LinksOK Tryd.prog 37 (L44_3 k) b44_3 := (And.intro True.intro (And.intro (And.intro True.intro True.intro) (And.intro (And.intro True.intro (And.intro (And.intro True.intro (And.intro (And.intro True.intro True.intro) True.intro)) True.intro)) True.intro)))
noncomputable def L44 (k : Nat) : LOrc := fun R lk s K => match lk with
  | .loop r => bif Nat.beq r 3 then link m44_3 x44_3 (F44_3 k k) s K else none
  | .label l => none
theorem lk_L44_3 (k : Nat) : LoopOK Tryd.prog 37 (L44 k) b44_3 := loopOK_of hm hT (ok_O121 k) (fun _ _ _ h => h) rfl (lk44_3_ k) rfl rfl (F := F44_3 k) (fun _ => rfl) (fun _ _ => rfl) (n := k) fun _ _ _ => rfl
noncomputable def F44 (k : Nat) (v : mi44.den) : Option mo44.den := runF TI (O121 k) (L44 k) c44 mi44 mo44 v
theorem lk44 (k : Nat) : LinksOK Tryd.prog 37 (L44 k) c44 := (And.intro True.intro (And.intro True.intro (And.intro (And.intro True.intro (lk_L44_3 k)) (And.intro True.intro True.intro))))
theorem fn44 (k : Nat) (args : List AV) (x : mi44.den) (r : mo44.den) (h1 : args.length = mi44.items.length) (h2 : mi44.dec (Th.start args) = some x) (h3 : F44 k x = some r) : CallOK Tryd.prog 44 args (ansOf (outL mo44.items r)) :=
  call_of hm hT (ok_O121 k) (fn := Tryd.f44) (c := c44) Tryd.func44 rfl rfl rfl (lk44 k) rfl (by decide) rfl h1 h2 h3
noncomputable def O44 (k : Nat) : Orc := fun R f args K => bif Nat.beq f 44 then callF mi44 mo44 (F44 k) args K else O121 k R f args K
theorem ok_O44 (k : Nat) : OrcOK (O44 k) (CallOK Tryd.prog) := orc_add (fn44 k) (ok_O121 k)
noncomputable def c33 : Code := Tryd.f33.body.getD .skip
noncomputable def mi33 : Msk := ⟨[(.tmp 0, .val (.st (.cons (.int .i64) (.cons .str (.cons (.int .u64) (.cons (.int .u32) (.cons .str (.cons .str .nil))))))))], []⟩
noncomputable def mo33 : Msk := ⟨[(.tmp 2, .val .bool)], []⟩
noncomputable def L33 (k : Nat) : LOrc := fun _ _ _ _ => none
noncomputable def F33 (k : Nat) (v : mi33.den) : Option mo33.den := runF TI (O44 k) (L33 k) c33 mi33 mo33 v
theorem lk33 (k : Nat) : LinksOK Tryd.prog 30 (L33 k) c33 := (And.intro True.intro (And.intro (And.intro True.intro (And.intro (And.intro True.intro (And.intro (And.intro True.intro True.intro) True.intro)) (And.intro True.intro (And.intro (And.intro True.intro True.intro) True.intro)))) (And.intro True.intro True.intro)))
theorem fn33 (k : Nat) (args : List AV) (x : mi33.den) (r : mo33.den) (h1 : args.length = mi33.items.length) (h2 : mi33.dec (Th.start args) = some x) (h3 : F33 k x = some r) : CallOK Tryd.prog 33 args (ansOf (outL mo33.items r)) :=
  call_of hm hT (ok_O44 k) (fn := Tryd.f33) (c := c33) Tryd.func33 rfl rfl rfl (lk33 k) rfl (by decide) rfl h1 h2 h3
noncomputable def O33 (k : Nat) : Orc := fun R f args K => bif Nat.beq f 33 then callF mi33 mo33 (F33 k) args K else O44 k R f args K
theorem ok_O33 (k : Nat) : OrcOK (O33 k) (CallOK Tryd.prog) := orc_add (fn33 k) (ok_O44 k)
noncomputable def c27 : Code := Tryd.f27.body.getD .skip
noncomputable def mi27 : Msk := ⟨[(.tmp 0, .val (.st (.cons (.int .u32) (.cons .str .nil))))], []⟩
noncomputable def mo27 : Msk := ⟨[(.tmp 2, .val .bool)], []⟩
noncomputable def L27 (k : Nat) : LOrc := fun _ _ _ _ => none
noncomputable def F27 (k : Nat) (v : mi27.den) : Option mo27.den := runF TI (O33 k) (L27 k) c27 mi27 mo27 v
theorem lk27 (k : Nat) : LinksOK Tryd.prog 9 (L27 k) c27 := (And.intro True.intro (And.intro True.intro True.intro))
theorem fn27 (k : Nat) (args : List AV) (x : mi27.den) (r : mo27.den) (h1 : args.length = mi27.items.length) (h2 : mi27.dec (Th.start args) = some x) (h3 : F27 k x = some r) : CallOK Tryd.prog 27 args (ansOf (outL mo27.items r)) :=
  call_of hm hT (ok_O33 k) (fn := Tryd.f27) (c := c27) Tryd.func27 rfl rfl rfl (lk27 k) rfl (by decide) rfl h1 h2 h3
noncomputable def O27 (k : Nat) : Orc := fun R f args K => bif Nat.beq f 27 then callF mi27 mo27 (F27 k) args K else O33 k R f args K
theorem ok_O27 (k : Nat) : OrcOK (O27 k) (CallOK Tryd.prog) := orc_add (fn27 k) (ok_O33 k)
noncomputable def c26 : Code := Tryd.f26.body.getD .skip
noncomputable def mi26 : Msk := ⟨[(.tmp 0, .val (.st (.cons (.int .i64) (.cons .str (.cons (.int .u64) (.cons (.int .u32) (.cons .str (.cons .str .nil))))))))], []⟩
noncomputable def mo26 : Msk := ⟨[(.res 2, .val (.st (.cons (.int .u32) (.cons .str .nil))))], []⟩
noncomputable def L26 (k : Nat) : LOrc := fun _ _ _ _ => none
noncomputable def F26 (k : Nat) (v : mi26.den) : Option mo26.den := runF TI (O27 k) (L26 k) c26 mi26 mo26 v
theorem lk26 (k : Nat) : LinksOK Tryd.prog 8 (L26 k) c26 := (And.intro True.intro (And.intro True.intro True.intro))
theorem fn26 (k : Nat) (args : List AV) (x : mi26.den) (r : mo26.den) (h1 : args.length = mi26.items.length) (h2 : mi26.dec (Th.start args) = some x) (h3 : F26 k x = some r) : CallOK Tryd.prog 26 args (ansOf (outL mo26.items r)) :=
  call_of hm hT (ok_O27 k) (fn := Tryd.f26) (c := c26) Tryd.func26 rfl rfl rfl (lk26 k) rfl (by decide) rfl h1 h2 h3
noncomputable def O26 (k : Nat) : Orc := fun R f args K => bif Nat.beq f 26 then callF mi26 mo26 (F26 k) args K else O27 k R f args K
theorem ok_O26 (k : Nat) : OrcOK (O26 k) (CallOK Tryd.prog) := orc_add (fn26 k) (ok_O27 k)
noncomputable def c24 : Code := Tryd.f24.body.getD .skip
noncomputable def mi24 : Msk := ⟨[(.tmp 0, .val (.st (.cons (.int .i64) (.cons .str (.cons (.int .u64) (.cons (.int .u32) (.cons .str (.cons .str .nil))))))))], []⟩
noncomputable def mo24 : Msk := ⟨[(.tmp 2, .val .bool)], []⟩
noncomputable def L24 (k : Nat) : LOrc := fun _ _ _ _ => none
noncomputable def F24 (k : Nat) (v : mi24.den) : Option mo24.den := runF TI (O26 k) (L24 k) c24 mi24 mo24 v
theorem lk24 (k : Nat) : LinksOK Tryd.prog 19 (L24 k) c24 := (And.intro True.intro (And.intro True.intro True.intro))
theorem fn24 (k : Nat) (args : List AV) (x : mi24.den) (r : mo24.den) (h1 : args.length = mi24.items.length) (h2 : mi24.dec (Th.start args) = some x) (h3 : F24 k x = some r) : CallOK Tryd.prog 24 args (ansOf (outL mo24.items r)) :=
  call_of hm hT (ok_O26 k) (fn := Tryd.f24) (c := c24) Tryd.func24 rfl rfl rfl (lk24 k) rfl (by decide) rfl h1 h2 h3
noncomputable def O24 (k : Nat) : Orc := fun R f args K => bif Nat.beq f 24 then callF mi24 mo24 (F24 k) args K else O26 k R f args K
theorem ok_O24 (k : Nat) : OrcOK (O24 k) (CallOK Tryd.prog) := orc_add (fn24 k) (ok_O26 k)
noncomputable def c25 : Code := Tryd.f25.body.getD .skip
noncomputable def mi25 : Msk := ⟨[(.tmp 0, .val (.st (.cons (.int .u32) (.cons .str .nil))))], []⟩
noncomputable def mo25 : Msk := ⟨[(.tmp 2, .val .bool)], []⟩
noncomputable def L25 (k : Nat) : LOrc := fun _ _ _ _ => none
noncomputable def F25 (k : Nat) (v : mi25.den) : Option mo25.den := runF TI (O24 k) (L25 k) c25 mi25 mo25 v
theorem lk25 (k : Nat) : LinksOK Tryd.prog 7 (L25 k) c25 := (And.intro True.intro (And.intro True.intro True.intro))
theorem fn25 (k : Nat) (args : List AV) (x : mi25.den) (r : mo25.den) (h1 : args.length = mi25.items.length) (h2 : mi25.dec (Th.start args) = some x) (h3 : F25 k x = some r) : CallOK Tryd.prog 25 args (ansOf (outL mo25.items r)) :=
  call_of hm hT (ok_O24 k) (fn := Tryd.f25) (c := c25) Tryd.func25 rfl rfl rfl (lk25 k) rfl (by decide) rfl h1 h2 h3
noncomputable def O25 (k : Nat) : Orc := fun R f args K => bif Nat.beq f 25 then callF mi25 mo25 (F25 k) args K else O24 k R f args K
theorem ok_O25 (k : Nat) : OrcOK (O25 k) (CallOK Tryd.prog) := orc_add (fn25 k) (ok_O24 k)
noncomputable def c101 : Code := Tryd.f101.body.getD .skip
noncomputable def mi101 : Msk := ⟨[(.tmp 0, .val (.int .i64)), (.tmp 1, .val .str)], []⟩
noncomputable def mo101 : Msk := ⟨[(.tmp 4, .val .bool)], []⟩
noncomputable def L101 (k : Nat) : LOrc := fun _ _ _ _ => none
noncomputable def F101 (k : Nat) (v : mi101.den) : Option mo101.den := runF TI (O25 k) (L101 k) c101 mi101 mo101 v
theorem lk101 (k : Nat) : LinksOK Tryd.prog 42 (L101 k) c101 := (And.intro True.intro (And.intro True.intro (And.intro (And.intro True.intro (And.intro (And.intro True.intro True.intro) True.intro)) (And.intro True.intro True.intro))))
theorem fn101 (k : Nat) (args : List AV) (x : mi101.den) (r : mo101.den) (h1 : args.length = mi101.items.length) (h2 : mi101.dec (Th.start args) = some x) (h3 : F101 k x = some r) : CallOK Tryd.prog 101 args (ansOf (outL mo101.items r)) :=
  call_of hm hT (ok_O25 k) (fn := Tryd.f101) (c := c101) Tryd.func101 rfl rfl rfl (lk101 k) rfl (by decide) rfl h1 h2 h3
noncomputable def O101 (k : Nat) : Orc := fun R f args K => bif Nat.beq f 101 then callF mi101 mo101 (F101 k) args K else O25 k R f args K
theorem ok_O101 (k : Nat) : OrcOK (O101 k) (CallOK Tryd.prog) := orc_add (fn101 k) (ok_O25 k)
noncomputable def c28 : Code := Tryd.f28.body.getD .skip
noncomputable def mi28 : Msk := ⟨[(.tmp 0, .val (.st (.cons (.int .u32) (.cons .str .nil))))], []⟩
noncomputable def mo28 : Msk := ⟨[(.tmp 2, .val .bool)], []⟩
noncomputable def L28 (k : Nat) : LOrc := fun _ _ _ _ => none
noncomputable def F28 (k : Nat) (v : mi28.den) : Option mo28.den := runF TI (O101 k) (L28 k) c28 mi28 mo28 v
theorem lk28 (k : Nat) : LinksOK Tryd.prog 11 (L28 k) c28 := (And.intro True.intro (And.intro True.intro True.intro))
theorem fn28 (k : Nat) (args : List AV) (x : mi28.den) (r : mo28.den) (h1 : args.length = mi28.items.length) (h2 : mi28.dec (Th.start args) = some x) (h3 : F28 k x = some r) : CallOK Tryd.prog 28 args (ansOf (outL mo28.items r)) :=
  call_of hm hT (ok_O101 k) (fn := Tryd.f28) (c := c28) Tryd.func28 rfl rfl rfl (lk28 k) rfl (by decide) rfl h1 h2 h3
noncomputable def O28 (k : Nat) : Orc := fun R f args K => bif Nat.beq f 28 then callF mi28 mo28 (F28 k) args K else O101 k R f args K
theorem ok_O28 (k : Nat) : OrcOK (O28 k) (CallOK Tryd.prog) := orc_add (fn28 k) (ok_O101 k)
noncomputable def c30 : Code := Tryd.f30.body.getD .skip
noncomputable def mi30 : Msk := ⟨[(.tmp 0, .val (.st (.cons (.int .u32) (.cons .str .nil)))), (.tmp 1, .val (.st (.cons (.int .u32) (.cons .str .nil))))], []⟩
noncomputable def mo30 : Msk := ⟨[(.tmp 4, .val (.int .i64))], []⟩
noncomputable def L30 (k : Nat) : LOrc := fun _ _ _ _ => none
noncomputable def F30 (k : Nat) (v : mi30.den) : Option mo30.den := runF TI (O28 k) (L30 k) c30 mi30 mo30 v
theorem lk30 (k : Nat) : LinksOK Tryd.prog 27 (L30 k) c30 := (And.intro True.intro (And.intro (And.intro True.intro (And.intro (And.intro True.intro True.intro) True.intro)) (And.intro (And.intro True.intro (And.intro (And.intro True.intro True.intro) True.intro)) (And.intro True.intro True.intro))))
theorem fn30 (k : Nat) (args : List AV) (x : mi30.den) (r : mo30.den) (h1 : args.length = mi30.items.length) (h2 : mi30.dec (Th.start args) = some x) (h3 : F30 k x = some r) : CallOK Tryd.prog 30 args (ansOf (outL mo30.items r)) :=
  call_of hm hT (ok_O28 k) (fn := Tryd.f30) (c := c30) Tryd.func30 rfl rfl rfl (lk30 k) rfl (by decide) rfl h1 h2 h3
noncomputable def O30 (k : Nat) : Orc := fun R f args K => bif Nat.beq f 30 then callF mi30 mo30 (F30 k) args K else O28 k R f args K
theorem ok_O30 (k : Nat) : OrcOK (O30 k) (CallOK Tryd.prog) := orc_add (fn30 k) (ok_O28 k)
noncomputable def c3 : Code := Tryd.f3.body.getD .skip
noncomputable def mi3 : Msk := ⟨[(.tmp 0, .val (.st (.cons (.int .i64) (.cons .str (.cons (.int .u64) (.cons (.int .u32) (.cons .str (.cons .str .nil)))))))), (.tmp 1, .val (.st (.cons (.int .u32) (.cons .str .nil)))), (.tmp 2, .val (.st (.cons (.int .u32) (.cons .str .nil)))), (.tmp 3, .val (.int .i64))], []⟩
noncomputable def mo3 : Msk := ⟨[(.tmp 8, .val .bool)], []⟩
noncomputable def L3 (k : Nat) : LOrc := fun _ _ _ _ => none
noncomputable def F3 (k : Nat) (v : mi3.den) : Option mo3.den := runF TI (O30 k) (L3 k) c3 mi3 mo3 v
theorem lk3 (k : Nat) : LinksOK Tryd.prog 57 (L3 k) c3 := (And.intro True.intro (And.intro (And.intro True.intro (And.intro (And.intro True.intro True.intro) True.intro)) (And.intro (And.intro True.intro (And.intro (And.intro True.intro True.intro) True.intro)) (And.intro True.intro True.intro))))
theorem fn3 (k : Nat) (args : List AV) (x : mi3.den) (r : mo3.den) (h1 : args.length = mi3.items.length) (h2 : mi3.dec (Th.start args) = some x) (h3 : F3 k x = some r) : CallOK Tryd.prog 3 args (ansOf (outL mo3.items r)) :=
  call_of hm hT (ok_O30 k) (fn := Tryd.f3) (c := c3) Tryd.func3 rfl rfl rfl (lk3 k) rfl (by decide) rfl h1 h2 h3
noncomputable def O3 (k : Nat) : Orc := fun R f args K => bif Nat.beq f 3 then callF mi3 mo3 (F3 k) args K else O30 k R f args K
theorem ok_O3 (k : Nat) : OrcOK (O3 k) (CallOK Tryd.prog) := orc_add (fn3 k) (ok_O30 k)
noncomputable def c4 : Code := Tryd.f4.body.getD .skip
noncomputable def mi4 : Msk := ⟨[(.tmp 0, .val (.st (.cons (.int .u32) (.cons .str .nil)))), (.tmp 1, .val (.st (.cons (.int .u32) (.cons .str .nil)))), (.tmp 2, .val (.st (.cons (.int .u32) (.cons .str .nil))))], []⟩
noncomputable def mo4 : Msk := ⟨[(.tmp 6, .val .bool)], []⟩
noncomputable def L4 (k : Nat) : LOrc := fun _ _ _ _ => none
noncomputable def F4 (k : Nat) (v : mi4.den) : Option mo4.den := runF TI (O3 k) (L4 k) c4 mi4 mo4 v
theorem lk4 (k : Nat) : LinksOK Tryd.prog 72 (L4 k) c4 := (And.intro True.intro (And.intro (And.intro True.intro (And.intro (And.intro True.intro True.intro) True.intro)) (And.intro (And.intro True.intro (And.intro (And.intro True.intro True.intro) True.intro)) (And.intro True.intro (And.intro True.intro True.intro)))))
theorem fn4 (k : Nat) (args : List AV) (x : mi4.den) (r : mo4.den) (h1 : args.length = mi4.items.length) (h2 : mi4.dec (Th.start args) = some x) (h3 : F4 k x = some r) : CallOK Tryd.prog 4 args (ansOf (outL mo4.items r)) :=
  call_of hm hT (ok_O3 k) (fn := Tryd.f4) (c := c4) Tryd.func4 rfl rfl rfl (lk4 k) rfl (by decide) rfl h1 h2 h3
noncomputable def O4 (k : Nat) : Orc := fun R f args K => bif Nat.beq f 4 then callF mi4 mo4 (F4 k) args K else O3 k R f args K
theorem ok_O4 (k : Nat) : OrcOK (O4 k) (CallOK Tryd.prog) := orc_add (fn4 k) (ok_O3 k)
noncomputable def c5 : Code := Tryd.f5.body.getD .skip
noncomputable def mi5 : Msk := ⟨[(.tmp 0, .val (.st (.cons (.int .i64) (.cons .str (.cons (.int .u64) (.cons (.int .u32) (.cons .str (.cons .str .nil)))))))), (.tmp 1, .val (.int .u8)), (.tmp 2, .val (.int .u8))], []⟩
noncomputable def mo5 : Msk := ⟨[(.tmp 6, .val .bool)], []⟩
noncomputable def L5 (k : Nat) : LOrc := fun _ _ _ _ => none
noncomputable def F5 (k : Nat) (v : mi5.den) : Option mo5.den := runF TI (O4 k) (L5 k) c5 mi5 mo5 v
theorem lk5 (k : Nat) : LinksOK Tryd.prog 60 (L5 k) c5 := (And.intro True.intro (And.intro (And.intro True.intro (And.intro (And.intro True.intro True.intro) True.intro)) (And.intro (And.intro True.intro (And.intro (And.intro True.intro True.intro) True.intro)) (And.intro True.intro (And.intro True.intro (And.intro True.intro (And.intro True.intro (And.intro True.intro True.intro))))))))
theorem fn5 (k : Nat) (args : List AV) (x : mi5.den) (r : mo5.den) (h1 : args.length = mi5.items.length) (h2 : mi5.dec (Th.start args) = some x) (h3 : F5 k x = some r) : CallOK Tryd.prog 5 args (ansOf (outL mo5.items r)) :=
  call_of hm hT (ok_O4 k) (fn := Tryd.f5) (c := c5) Tryd.func5 rfl rfl rfl (lk5 k) rfl (by decide) rfl h1 h2 h3
noncomputable def O5 (k : Nat) : Orc := fun R f args K => bif Nat.beq f 5 then callF mi5 mo5 (F5 k) args K else O4 k R f args K
theorem ok_O5 (k : Nat) : OrcOK (O5 k) (CallOK Tryd.prog) := orc_add (fn5 k) (ok_O4 k)
noncomputable def c43 : Code := Tryd.f43.body.getD .skip
noncomputable def mi43 : Msk := ⟨[(.tmp 0, .val (.int .i64))], []⟩
noncomputable def mo43 : Msk := ⟨[(.tmp 2, .val .bool)], []⟩
noncomputable def L43 (k : Nat) : LOrc := fun _ _ _ _ => none
noncomputable def F43 (k : Nat) (v : mi43.den) : Option mo43.den := runF TI (O5 k) (L43 k) c43 mi43 mo43 v
theorem lk43 (k : Nat) : LinksOK Tryd.prog 17 (L43 k) c43 := (And.intro True.intro (And.intro True.intro True.intro))
theorem fn43 (k : Nat) (args : List AV) (x : mi43.den) (r : mo43.den) (h1 : args.length = mi43.items.length) (h2 : mi43.dec (Th.start args) = some x) (h3 : F43 k x = some r) : CallOK Tryd.prog 43 args (ansOf (outL mo43.items r)) :=
  call_of hm hT (ok_O5 k) (fn := Tryd.f43) (c := c43) Tryd.func43 rfl rfl rfl (lk43 k) rfl (by decide) rfl h1 h2 h3
noncomputable def O43 (k : Nat) : Orc := fun R f args K => bif Nat.beq f 43 then callF mi43 mo43 (F43 k) args K else O5 k R f args K
theorem ok_O43 (k : Nat) : OrcOK (O43 k) (CallOK Tryd.prog) := orc_add (fn43 k) (ok_O5 k)
noncomputable def c110 : Code := Tryd.f110.body.getD .skip
noncomputable def mi110 : Msk := ⟨[(.tmp 0, .val .str)], []⟩
noncomputable def mo110 : Msk := ⟨[(.tmp 2, .val .bool)], []⟩
noncomputable def L110_5 (k : Nat) : LOrc := fun _ _ _ _ => none
noncomputable def b110_5 : Code := (findLoop 5 c110).getD .skip
noncomputable def m110_5 : Msk := ⟨[(.tmp 0, .val .str), (.tmp 3, .val (.int .i64)), (.tmp 4, .val (.int .i64))], []⟩
noncomputable def x110_5 : List (X × Msk) := [(.exit 0, ⟨[(.tmp 3, .val (.int .i64))], []⟩)]
noncomputable def F110_5 (k : Nat) : Nat → m110_5.den → Option (denE x110_5)
  | 0, _ => none
  | j + 1, v => round TI (O43 k) (L110_5 k) b110_5 m110_5 x110_5 (F110_5 k j) v
theorem lk110_5_ (k : Nat) : LinksOK Tryd.prog 38 (L110_5 k) b110_5 := (And.intro (And.intro True.intro (And.intro True.intro True.intro)) (And.intro (And.intro True.intro (And.intro (And.intro True.intro (And.intro (And.intro True.intro (And.intro True.intro (And.intro True.intro True.intro))) True.intro)) True.intro)) True.intro))
noncomputable def L110 (k : Nat) : LOrc := fun R lk s K => match lk with
  | .loop r => bif Nat.beq r 5 then link m110_5 x110_5 (F110_5 k k) s K else none
  | .label l => none
theorem lk_L110_5 (k : Nat) : LoopOK Tryd.prog 38 (L110 k) b110_5 := loopOK_of hm hT (ok_O43 k) (fun _ _ _ h => h) rfl (lk110_5_ k) rfl rfl (F := F110_5 k) (fun _ => rfl) (fun _ _ => rfl) (n := k) fun _ _ _ => rfl
noncomputable def F110 (k : Nat) (v : mi110.den) : Option mo110.den := runF TI (O43 k) (L110 k) c110 mi110 mo110 v
theorem lk110 (k : Nat) : LinksOK Tryd.prog 38 (L110 k) c110 := (And.intro True.intro (And.intro (And.intro True.intro (And.intro (And.intro True.intro True.intro) True.intro)) (And.intro True.intro (And.intro (And.intro True.intro (lk_L110_5 k)) (And.intro True.intro True.intro)))))
theorem fn110 (k : Nat) (args : List AV) (x : mi110.den) (r : mo110.den) (h1 : args.length = mi110.items.length) (h2 : mi110.dec (Th.start args) = some x) (h3 : F110 k x = some r) : CallOK Tryd.prog 110 args (ansOf (outL mo110.items r)) :=
  call_of hm hT (ok_O43 k) (fn := Tryd.f110) (c := c110) Tryd.func110 rfl rfl rfl (lk110 k) rfl (by decide) rfl h1 h2 h3
noncomputable def O110 (k : Nat) : Orc := fun R f args K => bif Nat.beq f 110 then callF mi110 mo110 (F110 k) args K else O43 k R f args K
theorem ok_O110 (k : Nat) : OrcOK (O110 k) (CallOK Tryd.prog) := orc_add (fn110 k) (ok_O43 k)
noncomputable def c36 : Code := Tryd.f36.body.getD .skip
noncomputable def mi36 : Msk := ⟨[(.tmp 0, .val (.st (.cons (.int .i64) (.cons .str (.cons (.int .u64) (.cons (.int .u32) (.cons .str (.cons .str .nil))))))))], []⟩
noncomputable def mo36 : Msk := ⟨[(.tmp 2, .val .bool)], []⟩
noncomputable def L36 (k : Nat) : LOrc := fun _ _ _ _ => none
noncomputable def F36 (k : Nat) (v : mi36.den) : Option mo36.den := runF TI (O110 k) (L36 k) c36 mi36 mo36 v
theorem lk36 (k : Nat) : LinksOK Tryd.prog 57 (L36 k) c36 := (And.intro True.intro (And.intro (And.intro True.intro (And.intro (And.intro True.intro True.intro) True.intro)) (And.intro (And.intro True.intro (And.intro (And.intro True.intro True.intro) True.intro)) (And.intro True.intro True.intro))))
theorem fn36 (k : Nat) (args : List AV) (x : mi36.den) (r : mo36.den) (h1 : args.length = mi36.items.length) (h2 : mi36.dec (Th.start args) = some x) (h3 : F36 k x = some r) : CallOK Tryd.prog 36 args (ansOf (outL mo36.items r)) :=
  call_of hm hT (ok_O110 k) (fn := Tryd.f36) (c := c36) Tryd.func36 rfl rfl rfl (lk36 k) rfl (by decide) rfl h1 h2 h3
noncomputable def O36 (k : Nat) : Orc := fun R f args K => bif Nat.beq f 36 then callF mi36 mo36 (F36 k) args K else O110 k R f args K
theorem ok_O36 (k : Nat) : OrcOK (O36 k) (CallOK Tryd.prog) := orc_add (fn36 k) (ok_O110 k)
noncomputable def c6 : Code := Tryd.f6.body.getD .skip
noncomputable def mi6 : Msk := ⟨[(.tmp 0, .val (.st (.cons (.int .i64) (.cons .str (.cons (.int .u64) (.cons (.int .u32) (.cons .str (.cons .str .nil)))))))), (.tmp 1, .val (.st (.cons .str (.cons (.slice (.st (.cons (.int .i64) (.cons .str .nil)))) .nil)))), (.tmp 2, .val (.int .i64))], []⟩
noncomputable def mo6 : Msk := ⟨[(.tmp 6, .val .bool)], []⟩
noncomputable def L6 (k : Nat) : LOrc := fun _ _ _ _ => none
noncomputable def F6 (k : Nat) (v : mi6.den) : Option mo6.den := runF TI (O36 k) (L6 k) c6 mi6 mo6 v
theorem lk6 (k : Nat) : LinksOK Tryd.prog 88 (L6 k) c6 := (And.intro True.intro (And.intro (And.intro True.intro (And.intro (And.intro True.intro True.intro) True.intro)) (And.intro (And.intro True.intro (And.intro (And.intro True.intro True.intro) True.intro)) (And.intro True.intro (And.intro True.intro (And.intro (And.intro True.intro (And.intro (And.intro True.intro True.intro) True.intro)) (And.intro True.intro (And.intro True.intro (And.intro True.intro True.intro)))))))))
theorem fn6 (k : Nat) (args : List AV) (x : mi6.den) (r : mo6.den) (h1 : args.length = mi6.items.length) (h2 : mi6.dec (Th.start args) = some x) (h3 : F6 k x = some r) : CallOK Tryd.prog 6 args (ansOf (outL mo6.items r)) :=
  call_of hm hT (ok_O36 k) (fn := Tryd.f6) (c := c6) Tryd.func6 rfl rfl rfl (lk6 k) rfl (by decide) rfl h1 h2 h3
noncomputable def O6 (k : Nat) : Orc := fun R f args K => bif Nat.beq f 6 then callF mi6 mo6 (F6 k) args K else O36 k R f args K
theorem ok_O6 (k : Nat) : OrcOK (O6 k) (CallOK Tryd.prog) := orc_add (fn6 k) (ok_O36 k)
noncomputable def c7 : Code := Tryd.f7.body.getD .skip
noncomputable def mi7 : Msk := ⟨[(.tmp 0, .val (.st (.cons (.int .i64) (.cons .str (.cons (.int .u64) (.cons (.int .u32) (.cons .str (.cons .str .nil)))))))), (.tmp 1, .val (.st (.cons (.int .i64) (.cons .str (.cons (.int .u64) (.cons (.int .u32) (.cons .str (.cons .str .nil)))))))), (.tmp 2, .val (.st (.cons .str (.cons (.slice (.st (.cons (.int .i64) (.cons .str .nil)))) .nil))))], []⟩
noncomputable def mo7 : Msk := ⟨[(.tmp 6, .val .bool)], []⟩
noncomputable def L7 (k : Nat) : LOrc := fun _ _ _ _ => none
noncomputable def F7 (k : Nat) (v : mi7.den) : Option mo7.den := runF TI (O6 k) (L7 k) c7 mi7 mo7 v
theorem lk7 (k : Nat) : LinksOK Tryd.prog 100 (L7 k) c7 := (And.intro True.intro (And.intro (And.intro True.intro (And.intro (And.intro True.intro True.intro) True.intro)) (And.intro (And.intro True.intro (And.intro (And.intro True.intro True.intro) True.intro)) (And.intro True.intro (And.intro True.intro (And.intro (And.intro True.intro (And.intro (And.intro True.intro (And.intro True.intro (And.intro (And.intro True.intro True.intro) True.intro))) True.intro)) (And.intro True.intro (And.intro (And.intro True.intro (And.intro (And.intro True.intro True.intro) True.intro)) (And.intro True.intro (And.intro True.intro True.intro))))))))))
theorem fn7 (k : Nat) (args : List AV) (x : mi7.den) (r : mo7.den) (h1 : args.length = mi7.items.length) (h2 : mi7.dec (Th.start args) = some x) (h3 : F7 k x = some r) : CallOK Tryd.prog 7 args (ansOf (outL mo7.items r)) :=
  call_of hm hT (ok_O6 k) (fn := Tryd.f7) (c := c7) Tryd.func7 rfl rfl rfl (lk7 k) rfl (by decide) rfl h1 h2 h3
noncomputable def O7 (k : Nat) : Orc := fun R f args K => bif Nat.beq f 7 then callF mi7 mo7 (F7 k) args K else O6 k R f args K
theorem ok_O7 (k : Nat) : OrcOK (O7 k) (CallOK Tryd.prog) := orc_add (fn7 k) (ok_O6 k)
noncomputable def c9 : Code := Tryd.f9.body.getD .skip
noncomputable def mi9 : Msk := ⟨[(.tmp 0, .val (.st (.cons (.st (.cons (.int .u32) (.cons .str .nil))) (.cons (.int .i64) (.cons .str (.cons (.int .u64) (.cons .str (.cons (.int .i64) (.cons (.int .i64) .nil))))))))), (.tmp 1, .val (.st (.cons (.int .i64) (.cons (.st (.cons (.int .i64) (.cons .str (.cons (.int .u64) (.cons (.int .u32) (.cons .str (.cons .str .nil))))))) .nil)))), (.tmp 2, .val (.int .i64))], []⟩
noncomputable def mo9 : Msk := ⟨[(.tmp 6, .val .bool)], []⟩
noncomputable def L9_12 (k : Nat) : LOrc := fun _ _ _ _ => none
noncomputable def b9_12 : Code := (findLoop 12 c9).getD .skip
noncomputable def m9_12 : Msk := ⟨[(.tmp 3, .ptr 3 0), (.tmp 4, .ptr 4 0), (.tmp 7, .ptr 7 0), (.tmp 10, .val (.int .i64)), (.cell 3 0, .val (.int .u32)), (.cell 3 1, .val .str), (.cell 3 2, .val (.int .i64)), (.cell 3 3, .val .str), (.cell 3 4, .val (.int .u64)), (.cell 3 5, .val .str), (.cell 3 6, .val (.int .i64)), (.cell 3 7, .val (.int .i64)), (.cell 4 0, .val (.int .i64)), (.cell 4 1, .val (.int .i64)), (.cell 4 2, .val .str), (.cell 4 3, .val (.int .u64)), (.cell 4 4, .val (.int .u32)), (.cell 4 5, .val .str), (.cell 4 6, .val .str), (.cell 7 0, .val (.int .u32)), (.cell 7 1, .val .str), (.cell 7 2, .val (.int .i64)), (.cell 7 3, .val .str), (.cell 7 4, .val (.int .u64)), (.cell 7 5, .val .str), (.cell 7 6, .val (.int .i64)), (.cell 7 7, .val (.int .i64)), (.cell 7 8, .val (.slice (.st (.cons (.int .i64) (.cons .str (.cons (.int .u64) (.cons (.int .u32) (.cons .str (.cons .str .nil))))))))), (.cell 7 9, .val (.slice (.st (.cons (.int .i64) (.cons .str (.cons (.int .u64) (.cons (.int .u32) (.cons .str (.cons .str .nil))))))))), (.cell 7 10, .val (.int .i64)), (.cell 7 11, .val .bool)], [(3, 8), (4, 7), (7, 12)]⟩
noncomputable def x9_12 : List (X × Msk) := [(.exit 0, ⟨[(.tmp 3, .ptr 3 0), (.tmp 4, .ptr 4 0), (.tmp 7, .ptr 7 0), (.cell 3 0, .val (.int .u32)), (.cell 3 1, .val .str), (.cell 3 2, .val (.int .i64)), (.cell 3 3, .val .str), (.cell 3 4, .val (.int .u64)), (.cell 3 5, .val .str), (.cell 3 6, .val (.int .i64)), (.cell 3 7, .val (.int .i64)), (.cell 4 0, .val (.int .i64)), (.cell 4 1, .val (.int .i64)), (.cell 4 2, .val .str), (.cell 4 3, .val (.int .u64)), (.cell 4 4, .val (.int .u32)), (.cell 4 5, .val .str), (.cell 4 6, .val .str), (.cell 7 0, .val (.int .u32)), (.cell 7 1, .val .str), (.cell 7 2, .val (.int .i64)), (.cell 7 3, .val .str), (.cell 7 4, .val (.int .u64)), (.cell 7 5, .val .str), (.cell 7 6, .val (.int .i64)), (.cell 7 7, .val (.int .i64)), (.cell 7 8, .val (.slice (.st (.cons (.int .i64) (.cons .str (.cons (.int .u64) (.cons (.int .u32) (.cons .str (.cons .str .nil))))))))), (.cell 7 9, .val (.slice (.st (.cons (.int .i64) (.cons .str (.cons (.int .u64) (.cons (.int .u32) (.cons .str (.cons .str .nil))))))))), (.cell 7 10, .val (.int .i64)), (.cell 7 11, .val .bool)], [(3, 8), (4, 7), (7, 12)]⟩), (.ret, ⟨[(.tmp 6, .val .bool)], []⟩)]
noncomputable def F9_12 (k : Nat) : Nat → m9_12.den → Option (denE x9_12)
  | 0, _ => none
  | j + 1, v => round TI (O7 k) (L9_12 k) b9_12 m9_12 x9_12 (F9_12 k j) v
theorem lk9_12_ (k : Nat) : LinksOK Tryd.prog 222 (L9_12 k) b9_12 := (And.intro (And.intro True.intro (And.intro True.intro True.intro)) (And.intro (And.intro True.intro (And.intro True.intro (And.intro (And.intro True.intro True.intro) True.intro))) True.intro))
noncomputable def L9_18 (k : Nat) : LOrc := fun _ _ _ _ => none
noncomputable def b9_18 : Code := (findLoop 18 c9).getD .skip
noncomputable def m9_18 : Msk := ⟨[(.tmp 3, .ptr 3 0), (.tmp 4, .ptr 4 0), (.tmp 7, .ptr 7 0), (.tmp 12, .val (.int .i64)), (.cell 3 0, .val (.int .u32)), (.cell 3 1, .val .str), (.cell 3 2, .val (.int .i64)), (.cell 3 3, .val .str), (.cell 3 4, .val (.int .u64)), (.cell 3 5, .val .str), (.cell 3 6, .val (.int .i64)), (.cell 3 7, .val (.int .i64)), (.cell 4 0, .val (.int .i64)), (.cell 4 1, .val (.int .i64)), (.cell 4 2, .val .str), (.cell 4 3, .val (.int .u64)), (.cell 4 4, .val (.int .u32)), (.cell 4 5, .val .str), (.cell 4 6, .val .str), (.cell 7 0, .val (.int .u32)), (.cell 7 1, .val .str), (.cell 7 2, .val (.int .i64)), (.cell 7 3, .val .str), (.cell 7 4, .val (.int .u64)), (.cell 7 5, .val .str), (.cell 7 6, .val (.int .i64)), (.cell 7 7, .val (.int .i64)), (.cell 7 8, .val (.slice (.st (.cons (.int .i64) (.cons .str (.cons (.int .u64) (.cons (.int .u32) (.cons .str (.cons .str .nil))))))))), (.cell 7 9, .val (.slice (.st (.cons (.int .i64) (.cons .str (.cons (.int .u64) (.cons (.int .u32) (.cons .str (.cons .str .nil))))))))), (.cell 7 10, .val (.int .i64)), (.cell 7 11, .val .bool)], [(3, 8), (4, 7), (7, 12)]⟩
noncomputable def x9_18 : List (X × Msk) := [(.exit 2, ⟨[(.tmp 3, .ptr 3 0), (.tmp 7, .ptr 7 0), (.cell 3 0, .val (.int .u32)), (.cell 3 1, .val .str), (.cell 3 2, .val (.int .i64)), (.cell 3 3, .val .str), (.cell 3 4, .val (.int .u64)), (.cell 3 5, .val .str), (.cell 3 6, .val (.int .i64)), (.cell 3 7, .val (.int .i64)), (.cell 7 0, .val (.int .u32)), (.cell 7 1, .val .str), (.cell 7 2, .val (.int .i64)), (.cell 7 3, .val .str), (.cell 7 4, .val (.int .u64)), (.cell 7 5, .val .str), (.cell 7 6, .val (.int .i64)), (.cell 7 7, .val (.int .i64)), (.cell 7 8, .val (.slice (.st (.cons (.int .i64) (.cons .str (.cons (.int .u64) (.cons (.int .u32) (.cons .str (.cons .str .nil))))))))), (.cell 7 9, .val (.slice (.st (.cons (.int .i64) (.cons .str (.cons (.int .u64) (.cons (.int .u32) (.cons .str (.cons .str .nil))))))))), (.cell 7 10, .val (.int .i64)), (.cell 7 11, .val .bool)], [(3, 8), (7, 12)]⟩), (.ret, ⟨[(.tmp 6, .val .bool)], []⟩)]
noncomputable def F9_18 (k : Nat) : Nat → m9_18.den → Option (denE x9_18)
  | 0, _ => none
  | j + 1, v => round TI (O7 k) (L9_18 k) b9_18 m9_18 x9_18 (F9_18 k j) v
theorem lk9_18_ (k : Nat) : LinksOK Tryd.prog 222 (L9_18 k) b9_18 := (And.intro (And.intro True.intro (And.intro True.intro True.intro)) (And.intro (And.intro True.intro (And.intro True.intro (And.intro (And.intro True.intro True.intro) True.intro))) True.intro))
noncomputable def L9 (k : Nat) : LOrc := fun R lk s K => match lk with
  | .loop r => bif Nat.beq r 12 then link m9_12 x9_12 (F9_12 k k) s K else bif Nat.beq r 18 then link m9_18 x9_18 (F9_18 k k) s K else none
  | .label l => none
theorem lk_L9_12 (k : Nat) : LoopOK Tryd.prog 222 (L9 k) b9_12 := loopOK_of hm hT (ok_O7 k) (fun _ _ _ h => h) rfl (lk9_12_ k) rfl rfl (F := F9_12 k) (fun _ => rfl) (fun _ _ => rfl) (n := k) fun _ _ _ => rfl
theorem lk_L9_18 (k : Nat) : LoopOK Tryd.prog 222 (L9 k) b9_18 := loopOK_of hm hT (ok_O7 k) (fun _ _ _ h => h) rfl (lk9_18_ k) rfl rfl (F := F9_18 k) (fun _ => rfl) (fun _ _ => rfl) (n := k) fun _ _ _ => rfl
noncomputable def F9 (k : Nat) (v : mi9.den) : Option mo9.den := runF TI (O7 k) (L9 k) c9 mi9 mo9 v
theorem lk9 (k : Nat) : LinksOK Tryd.prog 222 (L9 k) c9 := (And.intro True.intro (And.intro (And.intro True.intro (And.intro (And.intro True.intro True.intro) True.intro)) (And.intro (And.intro True.intro (And.intro (And.intro True.intro True.intro) True.intro)) (And.intro True.intro (And.intro (And.intro True.intro (And.intro (And.intro True.intro True.intro) True.intro)) (And.intro True.intro (And.intro (And.intro True.intro (And.intro (And.intro True.intro True.intro) True.intro)) (And.intro (And.intro True.intro (lk_L9_12 k)) (And.intro (And.intro True.intro (lk_L9_18 k)) (And.intro True.intro True.intro))))))))))
theorem fn9 (k : Nat) (args : List AV) (x : mi9.den) (r : mo9.den) (h1 : args.length = mi9.items.length) (h2 : mi9.dec (Th.start args) = some x) (h3 : F9 k x = some r) : CallOK Tryd.prog 9 args (ansOf (outL mo9.items r)) :=
  call_of hm hT (ok_O7 k) (fn := Tryd.f9) (c := c9) Tryd.func9 rfl rfl rfl (lk9 k) rfl (by decide) rfl h1 h2 h3
noncomputable def O9 (k : Nat) : Orc := fun R f args K => bif Nat.beq f 9 then callF mi9 mo9 (F9 k) args K else O7 k R f args K
theorem ok_O9 (k : Nat) : OrcOK (O9 k) (CallOK Tryd.prog) := orc_add (fn9 k) (ok_O7 k)
end Go.Proofs.YtjgnpmdbkgeakaaDoor.G
end
section
set_option maxRecDepth 1000000
set_option linter.unusedVariables false
set_option linter.unusedSimpArgs false
namespace Go.Proofs.YtjgnpmdbkgeakaaDoor.G
open Go Go.Proofs.YtjgnpmdbkgeakaaDoor Th
noncomputable def G175_2 (k : Nat) (j : Nat) (v : Int × List (Int × Int × Int × Unit) × Int × Int × Int × Int × Int × Unit) : Option (Int × Int × Int × Unit ⊕ Bool × Int × Int × Int × Unit) := F175_2 k j v
theorem G175_2_eq (k : Nat) (j : Nat) (v0 : Int) (v1 : List (Int × Int × Int × Unit)) (v2 v3 v4 v5 v6 : Int) : G175_2 k (j + 1) (v0, v1, v2, v3, v4, v5, v6, ()) = sel (decide (v3 < v2)) (sel (decide (0 ≤ v3)) (sel (decide (v3 < Int.ofNat v1.length)) (sel (decide (v3.toNat < v1.length)) (sel
 (decide ((v1.getD v3.toNat (0, 0, 0, ())).1 = v0)) (some (Sum.inr (true, (v1.getD v3.toNat (0, 0, 0, ())).1, (v1.getD v3.toNat (0, 0, 0, ())).2.1, (v1.getD v3.toNat (0, 0, 0, ())).2.2.1, ()))) (G175_2 k j (v0, v1, v2, IntKind.i64.wrap (v3 + 1), v4, v5, v6,
 ()))) none) none) none) (some (Sum.inl (v4, v5, v6, ()))) := by kernel_rfl
noncomputable def G175 (k : Nat) (v : Int × Unit) : Option ((Int × Int × Int × Unit) × Bool × Unit) := F175 k v
theorem G175_eq (k : Nat) (v0 : Int) : G175 k (v0, ()) = ocall (G175_2 k k (v0, [(2, 3, 19, ()), (3, 1, 6, ()), (4, 1, 12, ()), (7, 1, 10, ()), (11, 1, 6, ()), (12, 1, 6, ()), (37, 2, 12, ()), (38, 2, 6, ()), (39, 2, 2,
 ()), (41, 2, 8, ()), (44, 4, 25, ()), (48, 5, 999, ()), (49, 1, 3, ()), (90, 1, 42, ()), (120, 5, 999, ())], Int.ofNat 15, 0, 0, 0, 0, ())) fun e => esel e (fun v => some ((0, 0, 0, ()), false, ())) fun e => some
 ((e.2.1, e.2.2.1, e.2.2.2.1, ()), e.1, ()) := by kernel_rfl
noncomputable def G176 (k : Nat) (v : (Int × Int × Int × Unit) × Unit) : Option ((Int × Int × Unit) × Unit ⊕ (Int × Unit) × Unit) := F176 k v
theorem G176_eq (k : Nat) (v0 v1 v2 : Int) : G176 k ((v0, v1, v2, ()), ()) = sel (decide (v1 = 3)) (sel (decide (v1 = 3)) (some (Sum.inl ((2, v2, ()), ()))) (sel (decide (v1 = 5)) (some (Sum.inl ((3, v2, ()), ()))) (some (Sum.inr ((v2, ()),
 ()))))) (sel (decide (v1 = 4)) (some (Sum.inl ((2, v2, ()), ()))) (sel (decide (v1 = 5)) (some (Sum.inl ((3, v2, ()), ()))) (some (Sum.inr ((v2, ()), ()))))) := by kernel_rfl
noncomputable def G246 (k : Nat) (v : (Int × Int × Unit) × Int × Unit) : Option (Bool × Unit) := F246 k v
theorem G246_eq (k : Nat) (v0 v1 v2 : Int) : G246 k ((v0, v1, ()), v2, ()) = sel (decide (1 ≤ v2)) (some (decide (v2 ≤ v1), ())) (some (false, ())) := by kernel_rfl
noncomputable def G248 (k : Nat) (v : (Int × Unit) × Int × Unit) : Option (Bool × Unit) := F248 k v
theorem G248_eq (k : Nat) (v0 v1 : Int) : G248 k ((v0, ()), v1, ()) = some (decide (v1 = v0), ()) := by kernel_rfl
noncomputable def G169_g0 (k : Nat) (j : Nat) (v : List UInt8 × Int × Unit) : Option (Bool × Unit) := F169_g0 k j v
theorem G169_g0_eq (k : Nat) (j : Nat) (v0 : List UInt8) (v1 : Int) : G169_g0 k (j + 1) (v0, v1, ()) = sel (decide (v1 = Int.ofNat v0.length)) (some (decide (0 < v1), ())) (sel (decide (0 ≤ v1)) (sel (decide (v1 < Int.ofNat v0.length)) (sel (decide (Int.ofNat (v0.getD v1.toNat
 0).toNat < 48)) (some (false, ())) (sel (decide (0 ≤ v1)) (sel (decide (v1 < Int.ofNat v0.length)) (sel (decide (57 < Int.ofNat (v0.getD v1.toNat 0).toNat)) (some (false, ())) (G169_g0 k j (v0, IntKind.i64.wrap (v1 + 1), ()))) none) none)) none) none) := by kernel_rfl
noncomputable def G169 (k : Nat) (v : List UInt8 × Unit) : Option (Bool × Unit) := F169 k v
theorem G169_eq (k : Nat) (v0 : List UInt8) : G169 k (v0, ()) = sel (decide (0 = Int.ofNat v0.length)) (some (false, ())) (sel (decide (0 < Int.ofNat v0.length)) (sel (decide (Int.ofNat (v0.getD (Int.toNat 0) 0).toNat < 48)) (some (false, ())) (sel (decide (0 < Int.ofNat
 v0.length)) (sel (decide (57 < Int.ofNat (v0.getD (Int.toNat 0) 0).toNat)) (some (false, ())) (ocall (G169_g0 k k (v0, IntKind.i64.wrap (0 + 1), ())) fun e => some (e.1, ()))) none)) none) := by kernel_rfl
noncomputable def G177 (k : Nat) (v : (Int × Int × Int × Unit) × List UInt8 × Unit) : Option (Bool × Unit) := F177 k v
theorem G177_eq (k : Nat) (v0 v1 v2 : Int) (v3 : List UInt8) : G177 k ((v0, v1, v2, ()), v3, ()) = sel (decide (v3.length ≤ 9223372036854775807)) (ocall (G169 k (v3, ())) fun r => some (Signs.signsOf v1 r.1 v3, ())) none := by kernel_rfl
noncomputable def G117 (k : Nat) (v : Int × List UInt8 × Unit) : Option (Bool × Unit) := F117 k v
theorem G117_eq (k : Nat) (v0 : Int) (v1 : List UInt8) : G117 k (v0, v1, ()) = ocall (G175 k (v0, ())) fun r => sel r.2.1 (ocall (G176 k ((r.1.1, r.1.2.1, r.1.2.2.1, ()), ())) fun r_1 => esel r_1 (fun v => ocall (G246 k ((v.1.1, v.1.2.1, ()), Int.ofNat
 v1.length, ())) fun r_2 => sel r_2.1 (ocall (G177 k ((r.1.1, r.1.2.1, r.1.2.2.1, ()), v1, ())) fun r => some (r.1, ())) (some (false, ()))) fun e => ocall (G248 k ((e.1.1, ()), Int.ofNat v1.length, ())) fun r_2 => sel r_2.1 (ocall (G177 k
 ((r.1.1, r.1.2.1, r.1.2.2.1, ()), v1, ())) fun r => some (r.1, ())) (some (false, ()))) (some (false, ())) := by kernel_rfl
noncomputable def G105_5 (k : Nat) (j : Nat) (v : Int × List Int × Int × Unit) : Option (Int × List Int × Unit) := F105_5 k j v
theorem G105_5_eq (k : Nat) (j : Nat) (v0 : Int) (v1 : List Int) (v2 : Int) : G105_5 k (j + 1) (v0, v1, v2, ()) = sel (decide (0 ≤ v2)) (sel (decide (0 ≤ v2)) (sel (decide (v2 < Int.ofNat v1.length)) (sel (decide (v2.toNat < v1.length)) (G105_5 k j (IntKind.u64.wrap (v0.tdiv 10), v1.set
 v2.toNat (IntKind.u8.wrap (48 + IntKind.u8.wrap (v0.tmod 10))), IntKind.i64.wrap (v2 - 1), ())) none) none) none) (some (v0, v1, ())) := by kernel_rfl
noncomputable def G105 (k : Nat) (v : Int × Int × Unit) : Option (List UInt8 × Int × Unit) := F105 k v
theorem G105_eq (k : Nat) (v0 v1 : Int) : G105 k (v0, v1, ()) = sel (decide (v1 < 1)) (some ([], 1, ())) (sel (decide (19 < v1)) (some ([], 1, ())) (sel (decide (0 ≤ v1)) (sel (decide (v1 ≤ v1)) (sel (decide (v1 ≤ 140737488355328)) (sel (decide (v1 * Int.ofNat 1 ≤
 140737488355328)) (ocall (G105_5 k k (v0, List.replicate v1.toNat 0, IntKind.i64.wrap (v1 - 1), ())) fun e => sel (decide (0 < e.1)) (some ([], 10, ())) (some (ofBytes e.2.1, 0, ()))) none) none) none) none)) := by kernel_rfl
noncomputable def G202 (k : Nat) (v : Unit) : Option (List Int × Unit) := F202 k v
theorem G202_eq (k : Nat) : G202 k () = some ([2, 3, 19, 3, 1, 6, 4, 1, 12, 7, 1, 10, 11, 1, 6, 12, 1, 6, 37, 2, 12, 38, 2, 6, 39, 2, 2, 41, 2, 8, 44, 4, 25, 48, 5, 999, 49, 1, 3, 90, 1, 42, 120, 5, 999], ()) := by kernel_rfl
noncomputable def G164_3 (k : Nat) (j : Nat) (v : Int × List Int × Int × Int × Int × Int × Unit) : Option (Int × Int × Int × Unit ⊕ Bool × Int × Int × Int × Unit) := F164_3 k j v
theorem G164_3_eq (k : Nat) (j : Nat) (v0 : Int) (v1 : List Int) (v2 v3 v4 v5 : Int) : G164_3 k (j + 1) (v0, v1, v2, v3, v4, v5, ()) = sel (decide (v2 < Int.ofNat v1.length)) (sel (decide (0 ≤ v2)) (sel (decide (v2 < Int.ofNat v1.length)) (sel (decide (v2.toNat < v1.length)) (sel (decide
 (v1.getD v2.toNat 0 = v0)) (sel (decide (0 ≤ v2)) (sel (decide (v2 < Int.ofNat v1.length)) (sel (decide (v2.toNat < v1.length)) (sel (decide (0 ≤ IntKind.i64.wrap (v2 + 1))) (sel (decide (IntKind.i64.wrap (v2 + 1) < Int.ofNat v1.length)) (sel (decide ((IntKind.i64.wrap (v2 + 1)).toNat < v1.length))
 (sel (decide (0 ≤ IntKind.i64.wrap (v2 + 2))) (sel (decide (IntKind.i64.wrap (v2 + 2) < Int.ofNat v1.length)) (sel (decide ((IntKind.i64.wrap (v2 + 2)).toNat < v1.length)) (some (Sum.inr (true, v1.getD v2.toNat 0, v1.getD (IntKind.i64.wrap (v2 + 1)).toNat 0, v1.getD (IntKind.i64.wrap (v2 + 2)).toNat
 0, ()))) none) none) none) none) none) none) none) none) none) (G164_3 k j (v0, v1, IntKind.i64.wrap (v2 + 3), v3, v4, v5, ()))) none) none) none) (some (Sum.inl (v3, v4, v5, ()))) := by kernel_rfl
noncomputable def G164 (k : Nat) (v : Int × Unit) : Option ((Int × Int × Int × Unit) × Bool × Unit) := F164 k v
theorem G164_eq (k : Nat) (v0 : Int) : G164 k (v0, ()) = ocall (G202 k ()) fun r => ocall (G164_3 k k (v0, r.1, 0, 0, 0, 0, ())) fun e => esel e (fun v => some ((0, 0, 0, ()), false, ())) fun e => some ((e.2.1, e.2.2.1, e.2.2.2.1, ()), e.1, ())
 := by kernel_rfl
noncomputable def G171_2 (k : Nat) (j : Nat) (v : List UInt8 × Int × Unit) : Option (List UInt8 × Unit ⊕ Bool × Unit) := F171_2 k j v
theorem G171_2_eq (k : Nat) (j : Nat) (v0 : List UInt8) (v1 : Int) : G171_2 k (j + 1) (v0, v1, ()) = sel (decide (v1 < Int.ofNat v0.length)) (sel (decide (0 ≤ v1)) (sel (decide (v1 < Int.ofNat v0.length)) (sel (decide (Int.ofNat (v0.getD v1.toNat 0).toNat < 48)) (some (Sum.inr (false,
 ()))) (sel (decide (0 ≤ v1)) (sel (decide (v1 < Int.ofNat v0.length)) (sel (decide (57 < Int.ofNat (v0.getD v1.toNat 0).toNat)) (some (Sum.inr (false, ()))) (G171_2 k j (v0, IntKind.i64.wrap (v1 + 1), ()))) none) none)) none) none) (some (Sum.inl (v0, ()))) := by
 kernel_rfl
noncomputable def G171 (k : Nat) (v : List UInt8 × Unit) : Option (Bool × Unit) := F171 k v
theorem G171_eq (k : Nat) (v0 : List UInt8) : G171 k (v0, ()) = ocall (G171_2 k k (v0, 0, ())) fun e => esel e (fun v => some (decide (0 < Int.ofNat v.1.length), ())) fun e => some (e.1, ()) := by kernel_rfl
noncomputable def G165_2 (k : Nat) (j : Nat) (v : Int × List UInt8 × Int × Unit) : Option (Unit ⊕ Bool × Unit) := F165_2 k j v
theorem G165_2_eq (k : Nat) (j : Nat) (v0 : Int) (v1 : List UInt8) (v2 : Int) : G165_2 k (j + 1) (v0, v1, v2, ()) = sel (decide (v2 < Int.ofNat v1.length)) (sel (decide (v0 = 1)) (sel (decide (0 ≤ v2)) (sel (decide (v2 < Int.ofNat v1.length)) (sel (decide (Int.ofNat (v1.getD v2.toNat
 0).toNat < 48)) (some (Sum.inr (false, ()))) (sel (decide (0 ≤ v2)) (sel (decide (v2 < Int.ofNat v1.length)) (sel (decide (57 < Int.ofNat (v1.getD v2.toNat 0).toNat)) (some (Sum.inr (false, ()))) (G165_2 k j (v0, v1, IntKind.i64.wrap (v2 + 1), ()))) none) none)) none) none)
 (sel (decide (v0 = 3)) (sel (decide (0 ≤ v2)) (sel (decide (v2 < Int.ofNat v1.length)) (sel (decide (Int.ofNat (v1.getD v2.toNat 0).toNat < 48)) (some (Sum.inr (false, ()))) (sel (decide (0 ≤ v2)) (sel (decide (v2 < Int.ofNat v1.length)) (sel (decide (57 < Int.ofNat (v1.getD v2.toNat
 0).toNat)) (some (Sum.inr (false, ()))) (G165_2 k j (v0, v1, IntKind.i64.wrap (v2 + 1), ()))) none) none)) none) none) (sel (decide (0 ≤ v2)) (sel (decide (v2 < Int.ofNat v1.length)) (sel (decide (Int.ofNat (v1.getD v2.toNat 0).toNat < 32)) (some (Sum.inr (false, ()))) (sel
 (decide (0 ≤ v2)) (sel (decide (v2 < Int.ofNat v1.length)) (sel (decide (126 < Int.ofNat (v1.getD v2.toNat 0).toNat)) (some (Sum.inr (false, ()))) (G165_2 k j (v0, v1, IntKind.i64.wrap (v2 + 1), ()))) none) none)) none) none))) (some (Sum.inl ())) := by kernel_rfl
noncomputable def G165 (k : Nat) (v : Int × List UInt8 × Unit) : Option (Bool × Unit) := F165 k v
theorem G165_eq (k : Nat) (v0 : Int) (v1 : List UInt8) : G165 k (v0, v1, ()) = ocall (G165_2 k k (v0, v1, 0, ())) fun e => esel e (fun v => some (true, ())) fun e => some (e.1, ()) := by kernel_rfl
noncomputable def G166 (k : Nat) (v : Int × Unit) : Option (Bool × Unit) := F166 k v
theorem G166_eq (k : Nat) (v0 : Int) : G166 k (v0, ()) = some (!decide (v0 = v0), ()) := by kernel_rfl
noncomputable def G103 (k : Nat) (v : Int × Int × Unit) : Option (Int × Unit) := F103 k v
theorem G103_eq (k : Nat) (v0 v1 : Int) : G103 k (v0, v1, ()) = ocall (G166 k (v0, ())) fun r => ocall (G166 k (v1, ())) fun r_1 => sel r.1 (sel r_1.1 (some (0, ())) (some ((-1 : Int), ()))) (sel r_1.1 (some (1, ())) (sel (decide (v0 < v1)) (some ((-1
 : Int), ())) (sel (decide (v1 < v0)) (some (1, ())) (some (0, ()))))) := by kernel_rfl
noncomputable def G167 (k : Nat) (v : List UInt8 × Unit) : Option (Bool × Unit) := F167 k v
theorem G167_eq (k : Nat) (v0 : List UInt8) : G167 k (v0, ()) = some (!decide (v0 = v0), ()) := by kernel_rfl
noncomputable def G104 (k : Nat) (v : List UInt8 × List UInt8 × Unit) : Option (Int × Unit) := F104 k v
theorem G104_eq (k : Nat) (v0 v1 : List UInt8) : G104 k (v0, v1, ()) = ocall (G167 k (v0, ())) fun r => ocall (G167 k (v1, ())) fun r_1 => sel r.1 (sel r_1.1 (some (0, ())) (some ((-1 : Int), ()))) (sel r_1.1 (some (1, ())) (sel (Go.Op.bytesLess v0 v1)
 (some ((-1 : Int), ())) (sel (!(Go.Op.bytesLess v0 v1 || decide (v0 = v1))) (some (1, ())) (some (0, ()))))) := by kernel_rfl
noncomputable def G102_3 (k : Nat) (j : Nat) (v : Int × List Int × Int × Int × Unit) : Option (Int × Unit ⊕ Int × Unit) := F102_3 k j v
theorem G102_3_eq (k : Nat) (j : Nat) (v0 : Int) (v1 : List Int) (v2 v3 : Int) : G102_3 k (j + 1) (v0, v1, v2, v3, ()) = sel (decide (v3 < v2)) (sel (decide (0 ≤ v3)) (sel (decide (v3 < Int.ofNat v1.length)) (sel (!decide (v1.getD v3.toNat 0 = v0)) (some (Sum.inr (v1.getD v3.toNat 0,
 ()))) (G102_3 k j (v0, v1, v2, IntKind.i64.wrap (v3 + 1), ()))) none) none) (some (Sum.inl (v0, ()))) := by kernel_rfl
noncomputable def G102 (k : Nat) (v : List Int × Unit) : Option (Int × Unit) := F102 k v
theorem G102_eq (k : Nat) (v0 : List Int) : G102 k (v0, ()) = ocall (G102_3 k k (0, v0, Int.ofNat v0.length, 0, ())) fun e => esel e (fun v => some (v.1, ())) fun e => some (e.1, ()) := by kernel_rfl
noncomputable def G29 (k : Nat) (v : (Int × List UInt8 × Unit) × (Int × List UInt8 × Unit) × Unit) : Option (Int × Unit) := F29 k v
theorem G29_eq (k : Nat) (v0 : Int) (v1 : List UInt8) (v2 : Int) (v3 : List UInt8) : G29 k ((v0, v1, ()), (v2, v3, ()), ()) = ocall (G103 k (v0, v2, ())) fun r => ocall (G104 k (v1, v3, ())) fun r_1 => ocall (G102 k ([r.1, r_1.1], ())) fun r => some
 (r.1, ()) := by kernel_rfl
noncomputable def G42 (k : Nat) (v : Int × Unit) : Option (Bool × Unit) := F42 k v
theorem G42_eq (k : Nat) (v0 : Int) : G42 k (v0, ()) = sel (decide (v0 = 1)) (sel (decide (v0 = 1)) (some (true, ())) (some (false, ()))) (sel (decide (v0 = 3)) (sel (decide (v0 = 3)) (some (true, ())) (some (false, ()))) (sel (decide (v0 = 5)) (sel (decide
 (v0 = 5)) (some (true, ())) (some (false, ()))) (sel (decide (v0 = 6)) (some (true, ())) (some (false, ()))))) := by kernel_rfl
noncomputable def G170 (k : Nat) (v : List UInt8 × Bool × Unit) : Option (Int × Unit) := F170 k v
theorem G170_eq (k : Nat) (v0 : List UInt8) (v1 : Bool) : G170 k (v0, v1, ()) = sel (decide (v0.length ≤ 9223372036854775807)) (some ((Sum.sumOf (Sum.backs (toBytes v0)) v1).1, ())) none := by kernel_rfl
noncomputable def G107 (k : Nat) (v : List UInt8 × Unit) : Option (Bool × Unit) := F107 k v
theorem G107_eq (k : Nat) (v0 : List UInt8) : G107 k (v0, ()) = ocall (G169 k (v0, ())) fun r => sel r.1 (ocall (G170 k (v0, false, ())) fun r => some (decide (r.1.tmod 10 = 0), ())) (some (false, ())) := by kernel_rfl
noncomputable def G108 (k : Nat) (v : Int × Unit) : Option (List UInt8 × Unit) := F108 k v
theorem G108_eq (k : Nat) (v0 : Int) : G108 k (v0, ()) = sel (decide (v0 < 0)) (some ([], ())) (sel (decide (8 ≤ v0)) (some ([], ())) (sel (decide (0 ≤ v0)) (sel (decide (v0 < Int.ofNat 8)) (some ([[], [48, 49, 48, 48], [48, 49, 49, 48], [48, 52, 48, 48], [48, 52, 49, 48],
 [48, 52, 50, 48], [48, 52, 50, 49], [48, 52, 51, 48]].getD v0.toNat [], ())) none) none)) := by kernel_rfl
noncomputable def G109 (k : Nat) (v : (Int × List UInt8 × Int × Int × List UInt8 × List UInt8 × Unit) × Unit) : Option (List (Int × List UInt8 × Unit) × Unit) := F109 k v
theorem G109_eq (k : Nat) (v0 : Int) (v1 : List UInt8) (v2 v3 : Int) (v4 v5 : List UInt8) : G109 k ((v0, v1, v2, v3, v4, v5, ()), ()) = ocall (G105 k (IntKind.u64.wrap v3, 6, ())) fun r => ocall (G42 k (v0, ())) fun r_1 => sel (!r_1.1) (some ([(11, r.1, ()),
 (37, v4, ()), (39, v5, ())], ())) (ocall (G105 k (v2, 12, ())) fun r_2 => sel (decide (5 ≤ v0)) (ocall (G108 k (1, ())) fun r_3 => sel (decide (r_3.1.length + r.1.length ≤ 140737488355328)) (sel (decide ((r_3.1 ++ r.1).length + 32 ≤ 140737488355328)) (some
 ([(2, v1, ()), (4, r_2.1, ()), (11, r.1, ()), (37, v4, ()), (90, r_3.1 ++ r.1 ++ [48, 48, 48, 48, 48, 48, 48, 48, 48, 48, 48, 48, 48, 48, 48, 48, 48, 48, 48, 48, 48, 48, 48, 48, 48, 48, 48, 48, 48, 48, 48, 48], ())], ())) none) none) (some ([(2, v1,
 ()), (4, r_2.1, ()), (11, r.1, ()), (37, v4, ())], ()))) := by kernel_rfl
noncomputable def G121 (k : Nat) (v : List UInt8 × Unit) : Option (Bool × Unit) := F121 k v
theorem G121_eq (k : Nat) (v0 : List UInt8) : G121 k (v0, ()) = sel (decide (v0 = [48, 49, 48, 48])) (sel (decide (v0 = [48, 49, 48, 48])) (some (true, ())) (some (false, ()))) (sel (decide (v0 = [48, 49, 49, 48])) (sel (decide (v0 = [48, 49, 49, 48])) (some (true,
 ())) (some (false, ()))) (sel (decide (v0 = [48, 52, 48, 48])) (sel (decide (v0 = [48, 52, 48, 48])) (some (true, ())) (some (false, ()))) (sel (decide (v0 = [48, 52, 49, 48])) (sel (decide (v0 = [48, 52, 49, 48])) (some (true, ())) (some (false, ())))
 (sel (decide (v0 = [48, 52, 50, 48])) (sel (decide (v0 = [48, 52, 50, 48])) (some (true, ())) (some (false, ()))) (sel (decide (v0 = [48, 52, 50, 49])) (sel (decide (v0 = [48, 52, 50, 49])) (some (true, ())) (some (false, ()))) (sel (decide (v0 = [48, 52, 51, 48]))
 (some (true, ())) (some (false, ())))))))) := by kernel_rfl
noncomputable def G44_3 (k : Nat) (j : Nat) (v : Int × List (Int × List UInt8 × Unit) × Int × Int × List UInt8 × List (Int × List UInt8 × Unit) × Unit) : Option (List UInt8 × List (Int × List UInt8 × Unit) × Unit ⊕ Bool × Unit) := F44_3 k j v
theorem G44_3_eq (k : Nat) (j : Nat) (v0 : Int) (v1 : List (Int × List UInt8 × Unit)) (v2 v3 : Int) (v4 : List UInt8) (v5 : List (Int × List UInt8 × Unit)) : G44_3 k (j + 1) (v0, v1, v2, v3, v4, v5, ()) = sel (decide (v3 < v2)) (sel (decide (0 ≤ v3)) (sel (decide (v3 < Int.ofNat
 v1.length)) (sel (decide ((v1.getD v3.toNat (0, [], ())).1 ≤ v0)) (some (Sum.inr (false, ()))) (ocall (G117 k ((v1.getD v3.toNat (0, [], ())).1, (v1.getD v3.toNat (0, [], ())).2.1, ())) fun r => sel (!r.1) (some (Sum.inr (false, ()))) (G44_3 k j
 ((v1.getD v3.toNat (0, [], ())).1, v1, v2, IntKind.i64.wrap (v3 + 1), v4, v5, ())))) none) none) (some (Sum.inl (v4, v5, ()))) := by kernel_rfl
noncomputable def G44 (k : Nat) (v : (List UInt8 × List (Int × List UInt8 × Unit) × Unit) × Unit) : Option (Bool × Unit) := F44 k v
theorem G44_eq (k : Nat) (v0 : List UInt8) (v1 : List (Int × List UInt8 × Unit)) : G44 k ((v0, v1, ()), ()) = ocall (G44_3 k k (0, v1, Int.ofNat v1.length, 0, v0, v1, ())) fun e => esel e (fun v => ocall (G121 k (v.1, ())) fun r => sel r.1 (some (decide (0 <
 Int.ofNat v.2.1.length), ())) (some (false, ()))) fun e => some (e.1, ()) := by kernel_rfl
noncomputable def G33 (k : Nat) (v : (Int × List UInt8 × Int × Int × List UInt8 × List UInt8 × Unit) × Unit) : Option (Bool × Unit) := F33 k v
theorem G33_eq (k : Nat) (v0 : Int) (v1 : List UInt8) (v2 v3 : Int) (v4 v5 : List UInt8) : G33 k ((v0, v1, v2, v3, v4, v5, ()), ()) = ocall (G42 k (v0, ())) fun r => sel r.1 (sel (!decide (v5 = [])) (some (false, ())) (ocall (G107 k (v1, ())) fun r => sel
 (!r.1) (some (false, ())) (ocall (G108 k (v0, ())) fun r => ocall (G109 k ((v0, v1, v2, v3, v4, v5, ()), ())) fun r_1 => ocall (G44 k ((r.1, r_1.1, ()), ())) fun r => some (r.1, ())))) (sel (!decide (v1 = [])) (some (false, ())) (sel
 (!decide (v2 = 0)) (some (false, ())) (ocall (G108 k (v0, ())) fun r => ocall (G109 k ((v0, v1, v2, v3, v4, v5, ()), ())) fun r_1 => ocall (G44 k ((r.1, r_1.1, ()), ())) fun r => some (r.1, ())))) := by kernel_rfl
noncomputable def G27 (k : Nat) (v : (Int × List UInt8 × Unit) × Unit) : Option (Bool × Unit) := F27 k v
theorem G27_eq (k : Nat) (v0 : Int) (v1 : List UInt8) : G27 k ((v0, v1, ()), ()) = ocall (G33 k ((7, [], 0, v0, v1, [48, 48], ()), ())) fun r => some (r.1, ()) := by kernel_rfl
noncomputable def G26 (k : Nat) (v : (Int × List UInt8 × Int × Int × List UInt8 × List UInt8 × Unit) × Unit) : Option ((Int × List UInt8 × Unit) × Unit) := F26 k v
theorem G26_eq (k : Nat) (v0 : Int) (v1 : List UInt8) (v2 v3 : Int) (v4 v5 : List UInt8) : G26 k ((v0, v1, v2, v3, v4, v5, ()), ()) = some ((v3, v4, ()), ()) := by kernel_rfl
noncomputable def G24 (k : Nat) (v : (Int × List UInt8 × Int × Int × List UInt8 × List UInt8 × Unit) × Unit) : Option (Bool × Unit) := F24 k v
theorem G24_eq (k : Nat) (v0 : Int) (v1 : List UInt8) (v2 v3 : Int) (v4 v5 : List UInt8) : G24 k ((v0, v1, v2, v3, v4, v5, ()), ()) = sel (decide (Int.ofNat v1.length ≤ 300)) (sel (decide (Int.ofNat v4.length ≤ 300)) (some (decide (Int.ofNat v5.length ≤ 300), ())) (some
 (false, ()))) (some (false, ())) := by kernel_rfl
noncomputable def G25 (k : Nat) (v : (Int × List UInt8 × Unit) × Unit) : Option (Bool × Unit) := F25 k v
theorem G25_eq (k : Nat) (v0 : Int) (v1 : List UInt8) : G25 k ((v0, v1, ()), ()) = some (decide (Int.ofNat v1.length ≤ 300), ()) := by kernel_rfl
noncomputable def G101 (k : Nat) (v : Int × List UInt8 × Unit) : Option (Bool × Unit) := F101 k v
theorem G101_eq (k : Nat) (v0 : Int) (v1 : List UInt8) : G101 k (v0, v1, ()) = ocall (G164 k (v0, ())) fun r => sel (!r.2.1) (some (false, ())) (sel (decide (Int.ofNat v1.length = 0)) (some (false, ())) (sel (decide (r.1.2.2.1 < Int.ofNat v1.length)) (some (false,
 ())) (sel (decide (r.1.2.1 < 3)) (sel (decide (Int.ofNat v1.length < r.1.2.2.1)) (some (false, ())) (ocall (G165 k (r.1.2.1, v1, ())) fun r => some (r.1, ()))) (ocall (G165 k (r.1.2.1, v1, ())) fun r => some (r.1, ()))))) := by kernel_rfl
noncomputable def G28 (k : Nat) (v : (Int × List UInt8 × Unit) × Unit) : Option (Bool × Unit) := F28 k v
theorem G28_eq (k : Nat) (v0 : Int) (v1 : List UInt8) : G28 k ((v0, v1, ()), ()) = sel (decide (v0 ≤ 999999)) (ocall (G101 k (37, v1, ())) fun r => some (r.1, ())) (some (false, ())) := by kernel_rfl
noncomputable def G30 (k : Nat) (v : (Int × List UInt8 × Unit) × (Int × List UInt8 × Unit) × Unit) : Option (Int × Unit) := F30 k v
theorem G30_eq (k : Nat) (v0 : Int) (v1 : List UInt8) (v2 : Int) (v3 : List UInt8) : G30 k ((v0, v1, ()), (v2, v3, ()), ()) = sel (sameI v0 v2 && (sameS v1 v3 && true)) (some (0, ())) (sel (decide (v0 < v2)) (some ((-1 : Int), ())) (sel (decide (v0 = v2)) (sel
 (Go.Op.bytesLess v1 v3) (some ((-1 : Int), ())) (some (1, ()))) (some (1, ())))) := by kernel_rfl
end Go.Proofs.YtjgnpmdbkgeakaaDoor.G
end
section
set_option maxRecDepth 1000000
set_option linter.unusedVariables false
set_option linter.unusedSimpArgs false
namespace Go.Proofs.YtjgnpmdbkgeakaaDoor.G
open Go Go.Proofs.YtjgnpmdbkgeakaaDoor Th
noncomputable def G43 (k : Nat) (v : Int × Unit) : Option (Bool × Unit) := F43 k v
theorem G43_eq (k : Nat) (v0 : Int) : G43 k (v0, ()) = sel (decide (v0 = 1)) (some (true, ())) (sel (decide (v0 = 3)) (some (true, ())) (sel (decide (v0 = 5)) (some (true, ())) (some (decide (v0 = 6), ())))) := by kernel_rfl
noncomputable def G110_5 (k : Nat) (j : Nat) (v : List UInt8 × Int × Int × Unit) : Option (Int × Unit) := F110_5 k j v
theorem G110_5_eq (k : Nat) (j : Nat) (v0 : List UInt8) (v1 v2 : Int) : G110_5 k (j + 1) (v0, v1, v2, ()) = sel (decide (v2 < Int.ofNat v0.length)) (sel (decide (0 ≤ v2)) (sel (decide (v2 < Int.ofNat v0.length)) (sel (decide ((IntKind.i64.wrap (Int.ofNat v0.length - v2)).tmod 2 = 0)) (sel
 (decide (9 < IntKind.i64.wrap (2 * IntKind.i64.wrap (IntKind.i64.wrap (Int.ofNat (v0.getD v2.toNat 0).toNat) - 48)))) (G110_5 k j (v0, IntKind.i64.wrap (v1 + IntKind.i64.wrap (IntKind.i64.wrap (2 * IntKind.i64.wrap (IntKind.i64.wrap (Int.ofNat (v0.getD v2.toNat 0).toNat) - 48)) - 9)),
 IntKind.i64.wrap (v2 + 1), ())) (G110_5 k j (v0, IntKind.i64.wrap (v1 + IntKind.i64.wrap (2 * IntKind.i64.wrap (IntKind.i64.wrap (Int.ofNat (v0.getD v2.toNat 0).toNat) - 48))), IntKind.i64.wrap (v2 + 1), ()))) (G110_5 k j (v0, IntKind.i64.wrap (v1 + IntKind.i64.wrap (IntKind.i64.wrap
 (Int.ofNat (v0.getD v2.toNat 0).toNat) - 48)), IntKind.i64.wrap (v2 + 1), ()))) none) none) (some (v1, ())) := by kernel_rfl
noncomputable def G110 (k : Nat) (v : List UInt8 × Unit) : Option (Bool × Unit) := F110 k v
theorem G110_eq (k : Nat) (v0 : List UInt8) : G110 k (v0, ()) = ocall (G171 k (v0, ())) fun r => sel (!r.1) (some (false, ())) (ocall (G110_5 k k (v0, 0, 0, ())) fun e => some (decide (e.1.tmod 10 = 0), ())) := by kernel_rfl
noncomputable def G36 (k : Nat) (v : (Int × List UInt8 × Int × Int × List UInt8 × List UInt8 × Unit) × Unit) : Option (Bool × Unit) := F36 k v
theorem G36_eq (k : Nat) (v0 : Int) (v1 : List UInt8) (v2 v3 : Int) (v4 v5 : List UInt8) : G36 k ((v0, v1, v2, v3, v4, v5, ()), ()) = sel (decide (v0 < 1)) (some (false, ())) (sel (decide (7 < v0)) (some (false, ())) (sel (decide (999999 < v3)) (some (false,
 ())) (ocall (G101 k (37, v4, ())) fun r => sel (!r.1) (some (false, ())) (ocall (G43 k (v0, ())) fun r => sel r.1 (ocall (G110 k (v1, ())) fun r => sel r.1 (sel (decide (Int.ofNat v1.length < 20)) (sel (decide (v2 < 1000000000000)) (some (decide (v5 = []),
 ())) (some (false, ()))) (some (false, ()))) (some (false, ()))) (ocall (G101 k (39, v5, ())) fun r => sel r.1 (sel (decide (v1 = [])) (some (decide (v2 = 0), ())) (some (false, ()))) (some (false, ()))))))) := by kernel_rfl
end Go.Proofs.YtjgnpmdbkgeakaaDoor.G
end
section
set_option linter.unusedVariables false
set_option linter.unusedSimpArgs false
namespace Go.Proofs.YtjgnpmdbkgeakaaDoor.G
open Go Go.Proofs.YtjgnpmdbkgeakaaDoor Th
def dgt (c : UInt8) : Bool := decide (48 ≤ c.toNat) && decide (c.toNat ≤ 57)
def isDig (s : List UInt8) : Bool := decide (0 < s.length) && s.all dgt
theorem dgt_iff {c : UInt8} : dgt c = true ↔ 48 ≤ c.toNat ∧ c.toNat ≤ 57 := by simp [dgt]
theorem drop_at {α : Type} {s : List α} {i : Nat} (h : i < s.length) : s.drop i = s[i] :: s.drop (i + 1) := List.drop_eq_getElem_cons h
theorem G169_g0_is (k : Nat) (s : List UInt8) (hs : s.length ≤ maxLen) : ∀ (j i : Nat), i + j = s.length → ∀ n, j < n → G169_g0 k n (s, (i : Int), ()) = some (decide (0 < s.length) && (s.drop i).all dgt, ()) := by
  rw [maxLen_eq] at hs
  intro j
  induction j with
  | zero =>
    intro i hij n hn
    obtain ⟨n, rfl⟩ : ∃ m, n = m + 1 := ⟨n - 1, by omega⟩
    rw [G169_g0_eq, sel_pos (by simp only [ofNat_len]; omega)]
    rw [List.drop_eq_nil_of_le (by omega)]
    have : decide ((0 : Int) < (i : Int)) = decide (0 < s.length) := decide_eq_decide.2 (by omega)
    simp only [this, List.all_nil, Bool.and_true]
  | succ j ih =>
    intro i hij n hn
    obtain ⟨n, rfl⟩ : ∃ m, n = m + 1 := ⟨n - 1, by omega⟩
    have hlt : i < s.length := by omega
    rw [G169_g0_eq]
    simp only [ofNat_len, Int.toNat_natCast, getD_of hlt, Int.ofNat_eq_natCast]
    rw [sel_neg (by omega), sel_pos (by omega), sel_pos (by omega)]
    rw [drop_at hlt, List.all_cons]
    have hp : decide (0 < s.length) = true := by simp; omega
    by_cases c1 : ((s[i]).toNat : Int) < 48
    · rw [sel_pos c1]
      have : dgt s[i] = false := by rw [Bool.eq_false_iff, Ne, dgt_iff]; omega
      simp [this]
    · rw [sel_neg c1, sel_pos (by omega), sel_pos (by omega)]
      by_cases c2 : (57 : Int) < ((s[i]).toNat : Int)
      · rw [sel_pos c2]
        have : dgt s[i] = false := by rw [Bool.eq_false_iff, Ne, dgt_iff]; omega
        simp [this]
      · rw [sel_neg c2]
        have : dgt s[i] = true := by rw [dgt_iff]; omega
        rw [this, wrap64 (by omega) (by omega)]
        have := ih (i + 1) (by omega) n (by omega)
        simpa using this
theorem G169_is (k : Nat) (s : List UInt8) (hs : s.length ≤ maxLen) (hk : s.length < k) : G169 k (s, ()) = some (isDig s, ()) := by
  have hs' := hs
  rw [maxLen_eq] at hs'
  rw [G169_eq]
  simp only [ofNat_len, isDig]
  cases hs0 : s with
  | nil => rfl
  | cons c t =>
    rw [← hs0]
    have hlt : 0 < s.length := by rw [hs0]; simp
    simp only [Int.ofNat_eq_natCast, show Int.toNat (0 : Int) = 0 from rfl, getD_of hlt]
    rw [sel_neg (by omega), sel_pos (by omega)]
    have hp : decide (0 < s.length) = true := by simp; omega
    have hd := drop_at hlt
    rw [List.drop_zero] at hd
    rw [hp, Bool.true_and]
    have e0 : s.all dgt = (dgt s[0] && (s.drop 1).all dgt) := by
      conv => lhs; rw [hd]
      rw [List.all_cons]
    rw [e0]
    by_cases c1 : ((s[0]).toNat : Int) < 48
    · rw [sel_pos c1]
      have : dgt s[0] = false := by rw [Bool.eq_false_iff, Ne, dgt_iff]; omega
      rw [this]; rfl
    · rw [sel_neg c1, sel_pos (by omega)]
      by_cases c2 : (57 : Int) < ((s[0]).toNat : Int)
      · rw [sel_pos c2]
        have : dgt s[0] = false := by rw [Bool.eq_false_iff, Ne, dgt_iff]; omega
        rw [this]; rfl
      · rw [sel_neg c2]
        have : dgt s[0] = true := by rw [dgt_iff]; omega
        rw [this, wrap64 (by omega) (by omega)]
        have := G169_g0_is k s hs (s.length - 1) 1 (by omega) k (by omega)
        rw [show ((0 : Int) + 1) = ((1 : Nat) : Int) from rfl, this, hp]
        simp
theorem G171_2_is (k : Nat) (s : List UInt8) (hs : s.length ≤ maxLen) : ∀ (j i : Nat), i + j = s.length → ∀ n, j < n → G171_2 k n (s, (i : Int), ()) = some (if (s.drop i).all dgt = true then .inl (s, ()) else .inr (false, ())) := by
  rw [maxLen_eq] at hs
  intro j
  induction j with
  | zero =>
    intro i hij n hn
    obtain ⟨n, rfl⟩ : ∃ m, n = m + 1 := ⟨n - 1, by omega⟩
    rw [G171_2_eq, sel_neg (by simp only [ofNat_len]; omega)]
    rw [List.drop_eq_nil_of_le (by omega)]
    rfl
  | succ j ih =>
    intro i hij n hn
    obtain ⟨n, rfl⟩ : ∃ m, n = m + 1 := ⟨n - 1, by omega⟩
    have hlt : i < s.length := by omega
    rw [G171_2_eq]
    simp only [ofNat_len, Int.toNat_natCast, getD_of hlt, Int.ofNat_eq_natCast]
    rw [sel_pos (by omega), sel_pos (by omega), sel_pos (by omega)]
    rw [drop_at hlt, List.all_cons]
    by_cases c1 : ((s[i]).toNat : Int) < 48
    · rw [sel_pos c1]
      have : dgt s[i] = false := by rw [Bool.eq_false_iff, Ne, dgt_iff]; omega
      simp [this]
    · rw [sel_neg c1, sel_pos (by omega), sel_pos (by omega)]
      by_cases c2 : (57 : Int) < ((s[i]).toNat : Int)
      · rw [sel_pos c2]
        have : dgt s[i] = false := by rw [Bool.eq_false_iff, Ne, dgt_iff]; omega
        simp [this]
      · rw [sel_neg c2]
        have : dgt s[i] = true := by rw [dgt_iff]; omega
        rw [this, wrap64 (by omega) (by omega), Bool.true_and]
        exact ih (i + 1) (by omega) n (by omega)
theorem G171_is (k : Nat) (s : List UInt8) (hs : s.length ≤ maxLen) (hk : s.length < k) : G171 k (s, ()) = some (isDig s, ()) := by
  rw [G171_eq]
  have := G171_2_is k s hs s.length 0 (by omega) k hk
  rw [List.drop_zero] at this
  simp only [Int.natCast_zero] at this
  rw [this, ocall_some]
  by_cases h : s.all dgt = true
  · rw [if_pos h, esel_inl]
    simp only [isDig, h, Bool.and_true, ofNat_len]
    have : (0 : Int) < (s.length : Int) ↔ 0 < s.length := by omega
    simp [this]
  · rw [if_neg h, esel_inr]
    simp [isDig, h]
def digs (v : Nat) : Nat → List UInt8
  | 0 => []
  | n + 1 => digs (v / 10) n ++ [UInt8.ofNat (48 + v % 10)]
theorem digs_len (n : Nat) : ∀ v, (digs v n).length = n := by
  induction n with
  | zero => intro v; rfl
  | succ n ih => intro v; simp [digs, ih]
theorem chr_toNat {n : Nat} (h : n < 256) : (UInt8.ofNat n).toNat = n := by rw [UInt8.toNat_ofNat']; omega
theorem ofBytes_append (a b : List Int) : ofBytes (a ++ b) = ofBytes a ++ ofBytes b := by simp [ofBytes]
theorem G105_5_is (k : Nat) : ∀ (i : Nat) (v : Nat) (pre post : List Int), v < 18446744073709551616 → pre.length = i → i ≤ 19 → ∀ n, i < n →
    ∃ mid, mid.length = i ∧ G105_5 k n ((v : Int), pre ++ post, (i : Int) - 1, ()) = some (((v / 10 ^ i : Nat) : Int), mid ++ post, ()) ∧ ofBytes mid = digs v i := by
  intro i
  induction i with
  | zero =>
    intro v pre post hv hp hi n hn
    obtain ⟨n, rfl⟩ : ∃ m, n = m + 1 := ⟨n - 1, by omega⟩
    have : pre = [] := List.length_eq_zero_iff.1 hp
    subst this
    refine ⟨[], rfl, ?_, rfl⟩
    rw [G105_5_eq, sel_neg (by (try simp only []); omega)]
    simp
  | succ i ih =>
    intro v pre post hv hp hi n hn
    obtain ⟨n, rfl⟩ : ∃ m, n = m + 1 := ⟨n - 1, by omega⟩
    obtain ⟨pre', x, rfl⟩ : ∃ p x, pre = p ++ [x] := ⟨pre.dropLast, pre.getLast (by intro h; rw [h] at hp; simp at hp), (List.dropLast_concat_getLast _).symm⟩
    have hp' : pre'.length = i := by simpa using hp
    have hd : v % 10 < 10 := Nat.mod_lt _ (by omega)
    have e1 : ((v : Int)).tdiv 10 = ((v / 10 : Nat) : Int) := by simp [Int.tdiv_eq_ediv_of_nonneg]
    have e2 : ((v : Int)).tmod 10 = ((v % 10 : Nat) : Int) := by simp [Int.tmod_eq_emod_of_nonneg]
    have e3 : (((i + 1 : Nat) : Int) - 1) = (i : Int) := by omega
    rw [G105_5_eq]
    simp only [e1, e2, e3, ofNat_len, Int.toNat_natCast]
    rw [sel_pos (by omega), sel_pos (by omega), sel_pos (by simp; omega), sel_pos (by simp; omega)]
    have w1 : IntKind.u64.wrap ((v / 10 : Nat) : Int) = ((v / 10 : Nat) : Int) := wrapu64 (by omega) (by omega)
    have w2 : IntKind.u8.wrap ((v % 10 : Nat) : Int) = ((v % 10 : Nat) : Int) := wrapu8 (by omega) (by omega)
    have w3 : IntKind.u8.wrap (48 + ((v % 10 : Nat) : Int)) = 48 + ((v % 10 : Nat) : Int) := wrapu8 (by omega) (by omega)
    have w4 : IntKind.i64.wrap ((i : Int) - 1) = (i : Int) - 1 := wrap64 (by omega) (by omega)
    rw [w1, w2, w3, w4]
    have hset : (pre' ++ [x] ++ post).set i (48 + ((v % 10 : Nat) : Int)) = pre' ++ ((48 + ((v % 10 : Nat) : Int)) :: post) := by
      rw [List.append_assoc, List.set_append_right _ _ (by omega)]
      simp [hp']
    rw [hset]
    obtain ⟨mid, m1, m2, m3⟩ := ih (v / 10) pre' ((48 + ((v % 10 : Nat) : Int)) :: post) (by omega) hp' (by omega) n (by omega)
    refine ⟨mid ++ [48 + ((v % 10 : Nat) : Int)], by simp [m1], ?_, ?_⟩
    · rw [m2, Nat.div_div_eq_div_mul, Nat.pow_succ, Nat.mul_comm (10 ^ i) 10]
      simp
    · rw [ofBytes_append, m3, digs]
      have : (48 + ((v % 10 : Nat) : Int)).toNat = 48 + v % 10 := by omega
      show _ ++ [UInt8.ofNat (48 + ((v % 10 : Nat) : Int)).toNat] = _
      rw [this]
def putOK (v : Nat) (n : Int) : List UInt8 × Int :=
  if n < 1 ∨ 19 < n then ([], 1) else if v / 10 ^ n.toNat = 0 then (digs v n.toNat, 0) else ([], 10)
theorem G105_is (k : Nat) (hk : 20 < k) (v : Nat) (n : Int) (hv : v < 18446744073709551616) : G105 k ((v : Int), n, ()) = some ((putOK v n).1, (putOK v n).2, ()) := by
  rw [G105_eq]
  unfold putOK
  by_cases c1 : n < 1
  · rw [sel_pos c1, if_pos (.inl c1)]
  rw [sel_neg c1]
  by_cases c2 : 19 < n
  · rw [sel_pos c2, if_pos (.inr c2)]
  rw [sel_neg c2, if_neg (by omega)]
  obtain ⟨m, rfl⟩ : ∃ m : Nat, n = (m : Int) := ⟨n.toNat, by omega⟩
  simp only [Int.toNat_natCast]
  rw [sel_pos (by omega), sel_pos (by omega), sel_pos (by omega), sel_pos (by simp only [Int.ofNat_eq_natCast]; omega)]
  obtain ⟨mid, m1, m2, m3⟩ := G105_5_is k m v (List.replicate m 0) [] hv (by simp) (by omega) k (by omega)
  rw [wrap64 (by omega) (by omega)]
  simp only [List.append_nil] at m2
  have m2' : G105_5 k k ((v : Int), List.replicate m (OfNat.ofNat (0 : Nat)), (m : Int) - 1, ()) = some (((v / 10 ^ m : Nat) : Int), mid, ()) := m2
  rw [m2', ocall_some]
  generalize v / 10 ^ m = q
  by_cases c3 : q = 0
  · rw [sel_neg (by simp only [c3]; omega), if_pos c3, m3]
  · rw [sel_pos (by (try simp only []); omega), if_neg c3]
def val (a : Nat) (s : List UInt8) : Nat := s.foldl (fun a c => 10 * a + (c.toNat - 48)) a
def getOK (s : List UInt8) : Nat × Int := if s.length = 0 then (0, 2) else if 19 < s.length then (0, 4) else if isDig s = true then (val 0 s, 0) else (0, 3)
end Go.Proofs.YtjgnpmdbkgeakaaDoor.G
end
section
set_option linter.unusedVariables false
set_option linter.unusedSimpArgs false
set_option maxRecDepth 100000
namespace Go.Proofs.YtjgnpmdbkgeakaaDoor.G
open Go Go.Proofs.YtjgnpmdbkgeakaaDoor Th
abbrev Def := Int × Int × Int × Unit
def D : List Def := [(2, 3, 19, ()), (3, 1, 6, ()), (4, 1, 12, ()), (7, 1, 10, ()), (11, 1, 6, ()), (12, 1, 6, ()), (37, 2, 12, ()), (38, 2, 6, ()), (39, 2, 2, ()), (41, 2, 8, ()), (44, 4, 25, ()), (48, 5, 999, ()), (49, 1, 3, ()), (90, 1, 42, ()), (120, 5, 999, ())]
def defOf (n : Int) : Option Def := D.find? fun d => decide (d.1 = n)
theorem G175_2_is (k : Nat) (n a b c : Int) (l : List Def) (hl : l.length ≤ 1000) : ∀ (j i : Nat), i + j = l.length → ∀ m, j < m →
    G175_2 k m (n, l, (l.length : Int), (i : Int), a, b, c, ()) = some (match (l.drop i).find? (fun d => decide (d.1 = n)) with
      | some d => .inr (true, d)
      | none => .inl (a, b, c, ())) := by
  intro j
  induction j with
  | zero =>
    intro i hij m hm
    obtain ⟨m, rfl⟩ : ∃ q, m = q + 1 := ⟨m - 1, by omega⟩
    rw [G175_2_eq, sel_neg (by (try simp only []); omega), List.drop_eq_nil_of_le (by omega)]
    rfl
  | succ j ih =>
    intro i hij m hm
    obtain ⟨m, rfl⟩ : ∃ q, m = q + 1 := ⟨m - 1, by omega⟩
    have hlt : i < l.length := by omega
    rw [G175_2_eq]
    simp only [ofNat_len, Int.toNat_natCast, getD_of hlt]
    rw [sel_pos (by omega), sel_pos (by omega), sel_pos (by omega), sel_pos (by omega), drop_at hlt, List.find?_cons]
    by_cases h : l[i].1 = n
    · rw [sel_pos h]
      simp only [h, decide_true]
      rw [← h]
    · rw [sel_neg h, wrap64 (by omega) (by omega)]
      simp only [h, decide_false]
      exact ih (i + 1) (by omega) m (by omega)
def defR (n : Int) : Def × Bool := match defOf n with
  | some d => (d, true)
  | none => ((0, 0, 0, ()), false)
theorem G175_is (k : Nat) (hk : 20 < k) (n : Int) : G175 k (n, ()) = some ((defR n).1, (defR n).2, ()) := by
  rw [G175_eq]
  have := G175_2_is k n 0 0 0 D (by decide) 15 0 (by decide) k (by omega)
  rw [show ((D.length : Nat) : Int) = Int.ofNat 15 from rfl, show (((0 : Nat) : Int)) = 0 from rfl, List.drop_zero, show (D.find? fun d => decide (d.1 = n)) = defOf n from rfl] at this
  show (ocall (G175_2 k k (n, D, Int.ofNat 15, 0, 0, 0, 0, ())) _) = _
  rw [this, ocall_some]
  unfold defR
  cases defOf n <;> rfl
def flat : List Def → List Int
  | [] => []
  | d :: l => d.1 :: d.2.1 :: d.2.2.1 :: flat l
theorem flat_len : ∀ l : List Def, (flat l).length = 3 * l.length
  | [] => rfl
  | d :: l => by simp only [flat, List.length_cons, flat_len l]; omega
theorem flat_at : ∀ (l : List Def) (i : Nat) (h : i < l.length), (flat l).getD (3 * i) 0 = l[i].1 ∧ (flat l).getD (3 * i + 1) 0 = l[i].2.1 ∧ (flat l).getD (3 * i + 2) 0 = l[i].2.2.1
  | d :: l, 0, _ => ⟨rfl, rfl, rfl⟩
  | d :: l, i + 1, h => by
    have := flat_at l i (by simpa using h)
    rw [show 3 * (i + 1) = 3 * i + 1 + 1 + 1 from by omega]
    simpa [flat] using this
theorem G164_3_is (k : Nat) (n a b c : Int) (l : List Def) (hl : l.length ≤ 1000) : ∀ (j i : Nat), i + j = l.length → ∀ m, j < m →
    G164_3 k m (n, flat l, ((3 * i : Nat) : Int), a, b, c, ()) = some (match (l.drop i).find? (fun d => decide (d.1 = n)) with
      | some d => .inr (true, d)
      | none => .inl (a, b, c, ())) := by
  have hf := flat_len l
  intro j
  induction j with
  | zero =>
    intro i hij m hm
    obtain ⟨m, rfl⟩ : ∃ q, m = q + 1 := ⟨m - 1, by omega⟩
    rw [G164_3_eq, sel_neg (by simp only [hf, Int.ofNat_eq_natCast]; omega), List.drop_eq_nil_of_le (by omega)]
    rfl
  | succ j ih =>
    intro i hij m hm
    obtain ⟨m, rfl⟩ : ∃ q, m = q + 1 := ⟨m - 1, by omega⟩
    have hlt : i < l.length := by omega
    obtain ⟨q1, q2, q3⟩ := flat_at l i hlt
    have q1' : (flat l).getD (3 * i) (OfNat.ofNat 0) = l[i].1 := q1
    have q2' : (flat l).getD (3 * i + 1) (OfNat.ofNat 0) = l[i].2.1 := q2
    have q3' : (flat l).getD (3 * i + 2) (OfNat.ofNat 0) = l[i].2.2.1 := q3
    have w1 : IntKind.i64.wrap (((3 * i : Nat) : Int) + 1) = ((3 * i + 1 : Nat) : Int) := by rw [wrap64 (by omega) (by omega)]; omega
    have w2 : IntKind.i64.wrap (((3 * i : Nat) : Int) + 2) = ((3 * i + 2 : Nat) : Int) := by rw [wrap64 (by omega) (by omega)]; omega
    have w3 : IntKind.i64.wrap (((3 * i : Nat) : Int) + 3) = ((3 * (i + 1) : Nat) : Int) := by rw [wrap64 (by omega) (by omega)]; omega
    rw [G164_3_eq]
    simp only [Int.ofNat_eq_natCast, Int.toNat_natCast, hf, w1, w2, w3, q1', q2', q3']
    rw [sel_pos (by omega), sel_pos (by omega), sel_pos (by omega), sel_pos (by omega), drop_at hlt, List.find?_cons]
    by_cases h : l[i].1 = n
    · rw [sel_pos h, sel_pos (by omega), sel_pos (by omega), sel_pos (by omega), sel_pos (by omega), sel_pos (by omega), sel_pos (by omega), sel_pos (by omega), sel_pos (by omega), sel_pos (by omega)]
      simp only [h, decide_true]
      rw [← h]
    · rw [sel_neg h]
      simp only [h, decide_false]
      exact ih (i + 1) (by omega) m (by omega)
theorem G164_is (k : Nat) (hk : 20 < k) (n : Int) : G164 k (n, ()) = some ((defR n).1, (defR n).2, ()) := by
  rw [G164_eq, G202_eq, ocall_some]
  have := G164_3_is k n 0 0 0 D (by decide) 15 0 (by decide) k (by omega)
  rw [show (((3 * 0 : Nat) : Int)) = 0 from rfl, List.drop_zero, show (D.find? fun d => decide (d.1 = n)) = defOf n from rfl] at this
  show (ocall (G164_3 k k (n, flat D, 0, 0, 0, 0, ())) _) = _
  rw [this, ocall_some]
  unfold defR
  cases defOf n <;> rfl
theorem defOf_mem {n : Int} {d : Def} (h : defOf n = some d) : d ∈ D ∧ d.1 = n := by
  refine ⟨List.mem_of_find?_eq_some h, ?_⟩
  have := List.find?_some h
  simpa using this
theorem D_all : ∀ d ∈ D, 2 ≤ d.1 ∧ d.1 ≤ 128 ∧ 1 ≤ d.2.1 ∧ d.2.1 ≤ 5 ∧ 1 ≤ d.2.2.1 ∧ d.2.2.1 ≤ 999 ∧ ((d.2.1 = 3 ∨ d.2.1 = 4) → d.2.2.1 ≤ 99) := by
  decide
def ahead (kind : Int) : Nat := if kind = 3 ∨ kind = 4 then 2 else if kind = 5 then 3 else 0
def sized (d : Def) (n : Nat) : Bool := if ahead d.2.1 = 0 then decide ((n : Int) = d.2.2.1) else decide (1 ≤ n) && decide ((n : Int) ≤ d.2.2.1)
def signs (d : Def) (s : List UInt8) : Bool := Signs.signsOf d.2.1 (isDig s) s
def rightF (n : Int) (s : List UInt8) : Bool := match defOf n with
  | some d => sized d s.length && signs d s
  | none => false
theorem G177_is (k : Nat) (d : Def) (s : List UInt8) (hs : s.length ≤ maxLen) (hk : s.length < k) : G177 k ((d.1, d.2.1, d.2.2.1, ()), s, ()) = some (signs d s, ()) := by
  rw [G177_eq, sel_pos (by rw [maxLen_eq] at hs; (try simp only []); omega), G169_is k s hs hk, ocall_some]
  rfl
theorem G176_is (k : Nat) (d : Def) : G176 k ((d.1, d.2.1, d.2.2.1, ()), ()) = some (if ahead d.2.1 = 0 then .inr ((d.2.2.1, ()), ()) else .inl ((((ahead d.2.1 : Nat) : Int), d.2.2.1, ()), ())) := by
  rw [G176_eq]
  unfold ahead
  simp only [sel_dec]
  by_cases h3 : d.2.1 = 3
  · simp [h3]
  · by_cases h4 : d.2.1 = 4
    · simp [h4]
    · by_cases h5 : d.2.1 = 5
      · simp [h5]
      · simp [h3, h4, h5]
theorem G117_is (k : Nat) (hk : 20 < k) (n : Int) (s : List UInt8) (hs : s.length ≤ maxLen) (hks : s.length < k) : G117 k (n, s, ()) = some (rightF n s, ()) := by
  rw [G117_eq, G175_is k hk, ocall_some]
  unfold rightF defR
  cases defOf n with
  | none => rfl
  | some d =>
    simp only [sel_true, G176_is, ocall_some]
    unfold sized
    by_cases h : ahead d.2.1 = 0
    · rw [if_pos h, esel_inr, G248_eq, ocall_some, if_pos h, G177_is k d s hs hks]
      simp only [sel_dec, ofNat_len, ocall_some]
      by_cases c : (s.length : Int) = d.2.2.1 <;> simp [c]
    · rw [if_neg h, esel_inl, G246_eq, if_neg h, G177_is k d s hs hks]
      simp only [sel_dec, ofNat_len, ocall_some]
      by_cases c : (1 : Int) ≤ s.length
      · have c' : 1 ≤ s.length := by omega
        rw [if_pos c, ocall_some]
        by_cases c2 : (s.length : Int) ≤ d.2.2.1 <;> simp [c', c2]
      · have c' : ¬ 1 ≤ s.length := by omega
        rw [if_neg c, ocall_some]
        simp [c']
end Go.Proofs.YtjgnpmdbkgeakaaDoor.G
end
section
set_option linter.unusedVariables false
set_option linter.unusedSimpArgs false
namespace Go.Proofs.YtjgnpmdbkgeakaaDoor.G
open Go Go.Proofs.YtjgnpmdbkgeakaaDoor Th
theorem sized_le {d : Def} (hd : d ∈ D) {n : Nat} (h : sized d n = true) : 1 ≤ n ∧ n ≤ 999 := by
  obtain ⟨_, _, _, _, h1, h2, h3⟩ := D_all d hd
  unfold sized at h
  split at h
  · simp only [decide_eq_true_eq] at h; omega
  · simp only [Bool.and_eq_true, decide_eq_true_eq] at h; omega
end Go.Proofs.YtjgnpmdbkgeakaaDoor.G
end
section
set_option linter.unusedVariables false
set_option linter.unusedSimpArgs false
namespace Go.Proofs.YtjgnpmdbkgeakaaDoor.G
open Go Go.Proofs.YtjgnpmdbkgeakaaDoor Th
def okc (kind : Int) (c : UInt8) : Bool := if kind = 1 ∨ kind = 3 then dgt c else Signs.plain c
theorem plain_iff {c : UInt8} : Signs.plain c = true ↔ 32 ≤ c.toNat ∧ c.toNat ≤ 126 := by simp [Signs.plain]
theorem okc_dgt {kind : Int} (h : kind = 1 ∨ kind = 3) (c : UInt8) : okc kind c = dgt c := by unfold okc; rw [if_pos h]
theorem okc_plain {kind : Int} (h : ¬ (kind = 1 ∨ kind = 3)) (c : UInt8) : okc kind c = Signs.plain c := by unfold okc; rw [if_neg h]
theorem G165_2_is (k : Nat) (kind : Int) (s : List UInt8) (hs : s.length ≤ maxLen) : ∀ (j i : Nat), i + j = s.length → ∀ n, j < n → G165_2 k n (kind, s, (i : Int), ()) = some (if (s.drop i).all (okc kind) = true then .inl () else .inr (false, ())) := by
  rw [maxLen_eq] at hs
  intro j
  induction j with
  | zero =>
    intro i hij n hn
    obtain ⟨n, rfl⟩ : ∃ m, n = m + 1 := ⟨n - 1, by omega⟩
    rw [G165_2_eq, sel_neg (by simp only [ofNat_len]; omega), List.drop_eq_nil_of_le (by omega)]
    rfl
  | succ j ih =>
    intro i hij n hn
    obtain ⟨n, rfl⟩ : ∃ m, n = m + 1 := ⟨n - 1, by omega⟩
    have hlt : i < s.length := by omega
    have next : okc kind s[i] = true → G165_2 k n (kind, s, IntKind.i64.wrap ((i : Int) + 1), ()) = some (if (okc kind s[i] && (s.drop (i + 1)).all (okc kind)) = true then .inl () else .inr (false, ())) := by
      intro h
      rw [h, Bool.true_and, wrap64 (by omega) (by omega)]
      exact ih (i + 1) (by omega) n (by omega)
    have stop : okc kind s[i] = false → (some (Sum.inr (false, ())) : Option (Unit ⊕ Bool × Unit)) = some (if (okc kind s[i] && (s.drop (i + 1)).all (okc kind)) = true then .inl () else .inr (false, ())) := by
      intro h; rw [h]; rfl
    rw [G165_2_eq]
    simp only [ofNat_len, Int.toNat_natCast, getD_of hlt, Int.ofNat_eq_natCast]
    rw [sel_pos (by omega), drop_at hlt, List.all_cons]
    by_cases k1 : kind = 1
    · have hk : kind = 1 ∨ kind = 3 := .inl k1
      rw [sel_pos k1, sel_pos (by omega), sel_pos (by omega)]
      by_cases c1 : ((s[i]).toNat : Int) < 48
      · rw [sel_pos c1]; exact stop (by rw [okc_dgt hk, Bool.eq_false_iff, Ne, dgt_iff]; omega)
      · rw [sel_neg c1, sel_pos (by omega), sel_pos (by omega)]
        by_cases c2 : (57 : Int) < ((s[i]).toNat : Int)
        · rw [sel_pos c2]; exact stop (by rw [okc_dgt hk, Bool.eq_false_iff, Ne, dgt_iff]; omega)
        · rw [sel_neg c2]; exact next (by rw [okc_dgt hk, dgt_iff]; omega)
    · rw [sel_neg k1]
      by_cases k3 : kind = 3
      · have hk : kind = 1 ∨ kind = 3 := .inr k3
        rw [sel_pos k3, sel_pos (by omega), sel_pos (by omega)]
        by_cases c1 : ((s[i]).toNat : Int) < 48
        · rw [sel_pos c1]; exact stop (by rw [okc_dgt hk, Bool.eq_false_iff, Ne, dgt_iff]; omega)
        · rw [sel_neg c1, sel_pos (by omega), sel_pos (by omega)]
          by_cases c2 : (57 : Int) < ((s[i]).toNat : Int)
          · rw [sel_pos c2]; exact stop (by rw [okc_dgt hk, Bool.eq_false_iff, Ne, dgt_iff]; omega)
          · rw [sel_neg c2]; exact next (by rw [okc_dgt hk, dgt_iff]; omega)
      · have hk : ¬ (kind = 1 ∨ kind = 3) := by omega
        rw [sel_neg k3, sel_pos (by omega), sel_pos (by omega)]
        by_cases c1 : ((s[i]).toNat : Int) < 32
        · rw [sel_pos c1]; exact stop (by rw [okc_plain hk, Bool.eq_false_iff, Ne, plain_iff]; omega)
        · rw [sel_neg c1, sel_pos (by omega), sel_pos (by omega)]
          by_cases c2 : (126 : Int) < ((s[i]).toNat : Int)
          · rw [sel_pos c2]; exact stop (by rw [okc_plain hk, Bool.eq_false_iff, Ne, plain_iff]; omega)
          · rw [sel_neg c2]; exact next (by rw [okc_plain hk, plain_iff]; omega)
theorem G165_is (k : Nat) (kind : Int) (s : List UInt8) (hs : s.length ≤ maxLen) (hk : s.length < k) : G165 k (kind, s, ()) = some (s.all (okc kind), ()) := by
  rw [G165_eq]
  have := G165_2_is k kind s hs s.length 0 (by omega) k hk
  rw [List.drop_zero] at this
  simp only [Int.natCast_zero] at this
  rw [this, ocall_some]
  cases s.all (okc kind) <;> rfl
theorem signs_ok (d : Def) (s : List UInt8) (h : 0 < s.length) : signs d s = s.all (okc d.2.1) := by
  unfold signs Signs.signsOf
  by_cases hk : d.2.1 = 1 ∨ d.2.1 = 3
  · rw [if_pos hk]
    have : okc d.2.1 = dgt := funext (okc_dgt hk)
    rw [this]; simp [isDig, h]
  · rw [if_neg hk]
    have : okc d.2.1 = Signs.plain := funext (okc_plain hk)
    rw [this]
theorem ahead_zero {kind : Int} (h1 : 1 ≤ kind) (h5 : kind ≤ 5) : ahead kind = 0 ↔ kind < 3 := by
  unfold ahead
  split
  · constructor
    · intro h; cases h
    · intro h; omega
  · split
    · constructor
      · intro h; cases h
      · intro h; omega
    · constructor
      · intro _; omega
      · intro _; rfl
theorem G101_is (k : Nat) (hk : 20 < k) (n : Int) (s : List UInt8) (hs : s.length ≤ maxLen) (hks : s.length < k) : G101 k (n, s, ()) = some (rightF n s, ()) := by
  have hs' := hs
  rw [maxLen_eq] at hs'
  rw [G101_eq, G164_is k hk, ocall_some]
  unfold rightF defR
  cases hd : defOf n with
  | none => rfl
  | some d =>
    obtain ⟨hm, _⟩ := defOf_mem hd
    obtain ⟨_, _, k1, k5, z1, z2, z3⟩ := D_all d hm
    simp only [Bool.not_true, sel_false, ofNat_len]
    have ha := ahead_zero k1 k5
    by_cases c0 : (s.length : Int) = 0
    · rw [sel_pos c0]
      have : sized d s.length = false := by rw [Bool.eq_false_iff]; intro h; have := sized_le hm h; omega
      rw [this]; rfl
    · rw [sel_neg c0]
      by_cases c1 : d.2.2.1 < (s.length : Int)
      · rw [sel_pos c1]
        have : sized d s.length = false := by
          rw [Bool.eq_false_iff]; intro h
          unfold sized at h
          split at h
          · simp only [decide_eq_true_eq] at h; omega
          · simp only [Bool.and_eq_true, decide_eq_true_eq] at h; omega
        rw [this]; rfl
      · rw [sel_neg c1, G165_is k d.2.1 s hs hks, signs_ok d s (by omega)]
        by_cases c2 : d.2.1 < 3
        · rw [sel_pos c2]
          have ha0 := ha.2 c2
          unfold sized
          rw [if_pos ha0]
          by_cases c3 : (s.length : Int) < d.2.2.1
          · rw [sel_pos c3, decide_eq_false (by omega)]; rfl
          · rw [sel_neg c3, decide_eq_true (by omega), ocall_some, Bool.true_and]
        · rw [sel_neg c2, ocall_some]
          unfold sized
          rw [if_neg (fun h => c2 (ha.1 h)), decide_eq_true (by omega), decide_eq_true (by omega)]
          rfl
end Go.Proofs.YtjgnpmdbkgeakaaDoor.G
end
section
set_option linter.unusedVariables false
set_option linter.unusedSimpArgs false
set_option maxRecDepth 100000
namespace Go.Proofs.YtjgnpmdbkgeakaaDoor.G
open Go Go.Proofs.YtjgnpmdbkgeakaaDoor Th
abbrev Txt := List UInt8
abbrev Item := Int × Txt × Unit
abbrev Msg := Txt × List Item × Unit
def KT : List Txt := [[48, 49, 48, 48], [48, 49, 49, 48], [48, 52, 48, 48], [48, 52, 49, 48], [48, 52, 50, 48], [48, 52, 50, 49], [48, 52, 51, 48]]
def knownT (s : Txt) : Bool := KT.contains s
theorem G121_is (k : Nat) (s : Txt) : G121 k (s, ()) = some (knownT s, ()) := by
  rw [G121_eq]
  unfold knownT KT
  simp only [sel_dec, List.contains_cons, List.contains_nil, Bool.or_false]
  by_cases h1 : s = [48, 49, 48, 48]
  · simp [h1]
  by_cases h2 : s = [48, 49, 49, 48]
  · simp [h2]
  by_cases h3 : s = [48, 52, 48, 48]
  · simp [h3]
  by_cases h4 : s = [48, 52, 49, 48]
  · simp [h4]
  by_cases h5 : s = [48, 52, 50, 48]
  · simp [h5]
  by_cases h6 : s = [48, 52, 50, 49]
  · simp [h6]
  by_cases h7 : s = [48, 52, 51, 48] <;> simp [h1, h2, h3, h4, h5, h6, h7]
def itemsOK : Int → List Item → Bool
  | _, [] => true
  | last, x :: l => decide (last < x.1) && rightF x.1 x.2.1 && itemsOK x.1 l
def msgRight (m : Msg) : Bool := itemsOK 0 m.2.1 && knownT m.1 && decide (0 < m.2.1.length)
theorem G44_3_is (k : Nat) (hk : 20 < k) (l l0 : List Item) (typ : Txt) (hl : l.length ≤ 1000000000) (hx : ∀ x ∈ l, x.2.1.length ≤ maxLen ∧ x.2.1.length < k) :
    ∀ (j i : Nat) (last : Int), i + j = l.length → ∀ n, j < n → G44_3 k n (last, l, (l.length : Int), (i : Int), typ, l0, ()) = some (sel (itemsOK last (l.drop i)) (.inl (typ, l0, ())) (.inr (false, ()))) := by
  intro j
  induction j with
  | zero =>
    intro i last hij n hn
    obtain ⟨n, rfl⟩ : ∃ m, n = m + 1 := ⟨n - 1, by omega⟩
    rw [G44_3_eq, sel_neg (by (try simp only []); omega), List.drop_eq_nil_of_le (by omega)]
    rfl
  | succ j ih =>
    intro i last hij n hn
    obtain ⟨n, rfl⟩ : ∃ m, n = m + 1 := ⟨n - 1, by omega⟩
    have hlt : i < l.length := by omega
    rw [G44_3_eq]
    simp only [ofNat_len, Int.toNat_natCast, getD_of hlt]
    rw [sel_pos (by omega), sel_pos (by omega), sel_pos (by omega), drop_at hlt]
    simp only [itemsOK]
    obtain ⟨h1, h2⟩ := hx l[i] (List.getElem_mem _)
    by_cases c : l[i].1 ≤ last
    · rw [sel_pos c, decide_eq_false (by omega)]; rfl
    · rw [sel_neg c, G117_is k hk _ _ h1 h2, ocall_some, decide_eq_true (by omega)]
      cases hr : rightF l[i].1 l[i].2.1 with
      | false => rfl
      | true =>
        simp only [Bool.not_true, sel_false, Bool.true_and]
        rw [wrap64 (by omega) (by omega)]
        exact ih (i + 1) l[i].1 (by omega) n (by omega)
theorem G44_is (k : Nat) (hk : 20 < k) (typ : Txt) (l : List Item) (hl : l.length ≤ 1000000000) (hlk : l.length < k) (hx : ∀ x ∈ l, x.2.1.length ≤ maxLen ∧ x.2.1.length < k) :
    G44 k ((typ, l, ()), ()) = some (msgRight (typ, l, ()), ()) := by
  rw [G44_eq]
  have := G44_3_is k hk l l typ hl hx l.length 0 0 (by omega) k hlk
  simp only [ofNat_len, List.drop_zero, Int.natCast_zero] at this ⊢
  rw [this, ocall_some]
  unfold msgRight
  (try simp only [])
  cases itemsOK 0 l with
  | false => rfl
  | true =>
    simp only [sel_true, esel_inl, G121_is, ocall_some, Bool.true_and]
    cases knownT typ with
    | false => rfl
    | true =>
      simp only [sel_true, Bool.true_and]
      have : decide ((0 : Int) < (l.length : Int)) = decide (0 < l.length) := decide_eq_decide.2 (by omega)
      rw [this]
end Go.Proofs.YtjgnpmdbkgeakaaDoor.G
end
section
set_option linter.unusedVariables false
set_option linter.unusedSimpArgs false
namespace Go.Proofs.YtjgnpmdbkgeakaaDoor.G
open Go Go.Proofs.YtjgnpmdbkgeakaaDoor Th
def gd (tw : Bool) (d : Nat) : Nat := if tw = true then 2 * d - d / 5 * 9 else d
def fs (tw : Bool) : List UInt8 → Nat
  | [] => 0
  | c :: t => gd (tw != decide (t.length % 2 = 1)) (c.toNat - 48) + fs tw t
theorem gd_le {tw : Bool} {d : Nat} (h : d ≤ 9) : gd tw d ≤ 9 := by
  unfold gd; split <;> omega
theorem fs_le (tw : Bool) : ∀ (s : List UInt8), s.all dgt = true → fs tw s ≤ 9 * s.length
  | [], _ => by simp [fs]
  | c :: t, h => by
    simp only [List.all_cons, Bool.and_eq_true, dgt_iff] at h
    have := fs_le tw t h.2
    have := gd_le (tw := tw != decide (t.length % 2 = 1)) (d := c.toNat - 48) (by omega)
    simp only [fs, List.length_cons]; omega
theorem par_flip (tw : Bool) (n : Nat) : (tw != decide ((n + 1) % 2 = 1)) = ((!tw) != decide (n % 2 = 1)) := by
  rcases Nat.mod_two_eq_zero_or_one n with h | h
  · have : (n + 1) % 2 = 1 := by omega
    cases tw <;> simp [h, this]
  · have : (n + 1) % 2 = 0 := by omega
    cases tw <;> simp [h, this]
theorem sum_fold (l : List (Int × Int)) (tw : Bool) : Sum.sumOf l tw = (l.map (·.2)).foldl Sum.step (0, tw) := by
  unfold Sum.sumOf
  rw [List.foldl_map]
theorem backs_snd (l : List Int) : (Sum.backs l).map (·.2) = l.reverse := by
  unfold Sum.backs
  rw [List.map_reverse, List.map_map]
  congr 1
  apply List.ext_getElem
  · simp
  · intro i h1 h2
    simp at h1 h2
    simp [h2]
theorem toBytes_cons (c : UInt8) (t : List UInt8) : toBytes (c :: t) = (c.toNat : Int) :: toBytes t := rfl
theorem rwrap {n : Int} (h1 : -9223372036854775808 ≤ n) (h2 : n ≤ 9223372036854775807) : RowKit.wrap64 n = n := by
  unfold RowKit.wrap64; omega
theorem sum_is (tw : Bool) : ∀ (s : List UInt8), s.all dgt = true → s.length ≤ 1000000000 → (toBytes s).reverse.foldl Sum.step (0, tw) = ((fs tw s : Int), tw != decide (s.length % 2 = 1))
  | [], _, _ => by simp [toBytes, fs]
  | c :: t, h, hl => by
    have h' := h
    simp only [List.all_cons, Bool.and_eq_true, dgt_iff] at h
    simp only [List.length_cons] at hl
    have hle := fs_le tw t h.2
    rw [toBytes_cons, List.reverse_cons, List.foldl_append, sum_is tw t h.2 (by omega)]
    simp only [List.foldl_cons, List.foldl_nil, Sum.step, fs, List.length_cons]
    have e1 : ((c.toNat : Int) - 48) % 256 = ((c.toNat - 48 : Nat) : Int) := by omega
    have hg := gd_le (tw := tw != decide (t.length % 2 = 1)) (d := c.toNat - 48) (by omega)
    rw [e1]
    refine Prod.ext ?_ ?_
    · (try simp only [])
      have e2 : (bif (tw != decide (t.length % 2 = 1)) then ((c.toNat - 48 : Nat) : Int) * 2 - ((c.toNat - 48 : Nat) : Int) / 5 * 9 else ((c.toNat - 48 : Nat) : Int)) = ((gd (tw != decide (t.length % 2 = 1)) (c.toNat - 48) : Nat) : Int) := by
        unfold gd
        cases (tw != decide (t.length % 2 = 1))
        · simp
        · simp only [cond_true, if_true]; omega
      rw [e2, rwrap (by omega) (by omega)]
      omega
    · (try simp only [])
      rw [par_flip]
      cases tw <;> simp
theorem G170_is (k : Nat) (s : List UInt8) (tw : Bool) (h : s.all dgt = true) (hl : s.length ≤ 1000000000) : G170 k (s, tw, ()) = some ((fs tw s : Int), ()) := by
  rw [G170_eq, sel_pos (by (try simp only []); omega), sum_fold, backs_snd, sum_is tw s h hl]
def isFine (s : List UInt8) : Bool := isDig s && decide (fs false s % 10 = 0)
theorem all_of_isDig {s : List UInt8} (h : isDig s = true) : s.all dgt = true := by simp [isDig] at h; simpa using h.2
theorem tmod10 (n : Nat) : ((n : Int)).tmod 10 = ((n % 10 : Nat) : Int) := by simp [Int.tmod_eq_emod_of_nonneg]
theorem G107_is (k : Nat) (s : List UInt8) (hl : s.length ≤ 1000000000) (hk : s.length < k) : G107 k (s, ()) = some (isFine s, ()) := by
  rw [G107_eq, G169_is k s (by rw [maxLen_eq]; omega) hk, ocall_some]
  unfold isFine
  cases hd : isDig s with
  | false => rfl
  | true =>
    simp only [sel_true]
    rw [G170_is k s false (all_of_isDig hd) hl, ocall_some, tmod10]
    simp only [Bool.true_and]
    have : decide (((fs false s % 10 : Nat) : Int) = 0) = decide (fs false s % 10 = 0) := decide_eq_decide.2 (by omega)
    rw [this]
theorem G110_5_is (k : Nat) (s : List UInt8) (hs : s.length ≤ 1000000000) (hd : s.all dgt = true) : ∀ (j i a : Nat), i + j = s.length → a ≤ 9 * i → ∀ n, j < n →
    G110_5 k n (s, (a : Int), (i : Int), ()) = some (((a + fs false (s.drop i) : Nat) : Int), ()) := by
  intro j
  induction j with
  | zero =>
    intro i a hij ha n hn
    obtain ⟨n, rfl⟩ : ∃ m, n = m + 1 := ⟨n - 1, by omega⟩
    rw [G110_5_eq, sel_neg (by simp only [ofNat_len]; omega), List.drop_eq_nil_of_le (by omega)]
    rfl
  | succ j ih =>
    intro i a hij ha n hn
    obtain ⟨n, rfl⟩ : ∃ m, n = m + 1 := ⟨n - 1, by omega⟩
    have hlt : i < s.length := by omega
    have hc := List.all_eq_true.1 hd s[i] (List.getElem_mem _)
    rw [dgt_iff] at hc
    rw [G110_5_eq]
    simp only [Int.toNat_natCast, getD_of hlt, ofNat_len, Int.ofNat_eq_natCast]
    rw [sel_pos (by omega), sel_pos (by omega), sel_pos (by omega)]
    have w1 : IntKind.i64.wrap ((s.length : Int) - (i : Int)) = ((s.length - i : Nat) : Int) := by rw [wrap64 (by omega) (by omega)]; omega
    have w2 : IntKind.i64.wrap (((s[i]).toNat : Nat) : Int) = (((s[i]).toNat : Nat) : Int) := wrap64 (by omega) (by omega)
    have w3 : IntKind.i64.wrap ((((s[i]).toNat : Nat) : Int) - 48) = (((s[i]).toNat - 48 : Nat) : Int) := by rw [wrap64 (by omega) (by omega)]; omega
    have w4 : IntKind.i64.wrap (2 * (((s[i]).toNat - 48 : Nat) : Int)) = 2 * (((s[i]).toNat - 48 : Nat) : Int) := wrap64 (by omega) (by omega)
    have w5 : IntKind.i64.wrap (2 * (((s[i]).toNat - 48 : Nat) : Int) - 9) = 2 * (((s[i]).toNat - 48 : Nat) : Int) - 9 := wrap64 (by omega) (by omega)
    have e1 : (((s.length - i : Nat) : Int)).tmod 2 = (((s.length - i) % 2 : Nat) : Int) := by simp [Int.tmod_eq_emod_of_nonneg]
    simp only [w1, w2, w3, w4, w5, e1]
    rw [drop_at hlt]
    simp only [fs]
    have hl : (s.drop (i + 1)).length = s.length - (i + 1) := by simp
    rw [hl]
    generalize hd9 : (s[i]).toNat - 48 = d at *
    have fin : ∀ q : Nat, q ≤ 9 → gd (false != decide ((s.length - (i + 1)) % 2 = 1)) d = q → ∀ z : Int, z = (q : Int) → G110_5 k n (s, IntKind.i64.wrap ((a : Int) + z), IntKind.i64.wrap ((i : Int) + 1), ()) = some (((a + (gd (false != decide ((s.length - (i + 1)) % 2 = 1)) d + fs false (s.drop (i + 1))) : Nat) : Int), ()) := by
      intro q hq hqe z hz
      subst hz
      rw [wrap64 (by omega) (by omega), wrap64 (by omega) (by omega), hqe]
      have := ih (i + 1) (a + q) (by omega) (by omega) n (by omega)
      rw [Nat.add_assoc] at this
      exact this
    by_cases c1 : (s.length - i) % 2 = 0
    · rw [sel_pos (by omega)]
      have e2 : (s.length - (i + 1)) % 2 = 1 := by omega
      by_cases c2 : (9 : Int) < 2 * (d : Int)
      · rw [sel_pos c2]
        exact fin (2 * d - 9) (by omega) (by simp [gd, e2]; omega) _ (by omega)
      · rw [sel_neg c2]
        exact fin (2 * d) (by omega) (by simp [gd, e2]; omega) _ (by omega)
    · rw [sel_neg (by omega)]
      have e2 : (s.length - (i + 1)) % 2 = 0 := by omega
      exact fin d (by omega) (by simp [gd, e2]) _ rfl
theorem G110_is (k : Nat) (s : List UInt8) (hl : s.length ≤ 1000000000) (hk : s.length < k) : G110 k (s, ()) = some (isFine s, ()) := by
  rw [G110_eq, G171_is k s (by rw [maxLen_eq]; omega) hk, ocall_some]
  unfold isFine
  cases hd : isDig s with
  | false => rfl
  | true =>
    simp only [Bool.not_true, sel_false]
    have := G110_5_is k s hl (all_of_isDig hd) s.length 0 0 (by omega) (by omega) k hk
    simp only [Int.natCast_zero, List.drop_zero, Nat.zero_add] at this
    rw [this, ocall_some, tmod10]
    simp only [Bool.true_and]
    have : decide (((fs false s % 10 : Nat) : Int) = 0) = decide (fs false s % 10 = 0) := decide_eq_decide.2 (by omega)
    rw [this]
end Go.Proofs.YtjgnpmdbkgeakaaDoor.G
end
section
set_option linter.unusedVariables false
set_option linter.unusedSimpArgs false
set_option maxRecDepth 100000
namespace Go.Proofs.YtjgnpmdbkgeakaaDoor.G
open Go Go.Proofs.YtjgnpmdbkgeakaaDoor Th
abbrev Deal := Int × Txt × Int × Int × Txt × Txt × Unit
abbrev Key := Int × Txt × Unit
def TY : List Txt := [[], [48, 49, 48, 48], [48, 49, 49, 48], [48, 52, 48, 48], [48, 52, 49, 48], [48, 52, 50, 48], [48, 52, 50, 49], [48, 52, 51, 48]]
def typeK (kind : Int) : Txt := if kind < 0 ∨ 8 ≤ kind then [] else TY.getD kind.toNat []
theorem G108_is (k : Nat) (kind : Int) : G108 k (kind, ()) = some (typeK kind, ()) := by
  rw [G108_eq]
  unfold typeK
  by_cases c1 : kind < 0
  · rw [sel_pos c1, if_pos (.inl c1)]
  by_cases c2 : 8 ≤ kind
  · rw [sel_neg c1, sel_pos c2, if_pos (.inr c2)]
  rw [sel_neg c1, sel_neg c2, sel_pos (by omega), sel_pos (show (kind, ()).fst < Int.ofNat 8 by simp only [Int.ofNat_eq_natCast]; omega), if_neg (by omega)]
  rfl
def asksK (kind : Int) : Bool := decide (kind = 1 ∨ kind = 3 ∨ kind = 5 ∨ kind = 6)
theorem G42_is (k : Nat) (kind : Int) : G42 k (kind, ()) = some (asksK kind, ()) := by
  rw [G42_eq]
  unfold asksK
  simp only [sel_dec]
  by_cases h1 : kind = 1
  · simp [h1]
  by_cases h3 : kind = 3
  · simp [h3]
  by_cases h5 : kind = 5
  · simp [h5]
  by_cases h6 : kind = 6 <;> simp [h1, h3, h5, h6]
theorem G43_is (k : Nat) (kind : Int) : G43 k (kind, ()) = some (asksK kind, ()) := by
  rw [G43_eq]
  unfold asksK
  simp only [sel_dec]
  by_cases h1 : kind = 1
  · simp [h1]
  by_cases h3 : kind = 3
  · simp [h3]
  by_cases h5 : kind = 5
  · simp [h5]
  by_cases h6 : kind = 6 <;> simp [h1, h3, h5, h6]
def zeros : Txt := List.replicate 32 48
def stanT (stan : Int) : Txt := (putOK stan.toNat 6).1
def amtT (amt : Int) : Txt := (putOK amt.toNat 12).1
def originT (stan : Int) : Txt := [48, 49, 48, 48] ++ stanT stan ++ zeros
def itemsK (d : Deal) : List Item :=
  if asksK d.1 = true then [(2, d.2.1, ()), (4, amtT d.2.2.1, ()), (11, stanT d.2.2.2.1, ()), (37, d.2.2.2.2.1, ())] ++ (if 5 ≤ d.1 then [(90, originT d.2.2.2.1, ())] else [])
  else [(11, stanT d.2.2.2.1, ()), (37, d.2.2.2.2.1, ()), (39, d.2.2.2.2.2.1, ())]
theorem putOK_le (v : Nat) (n : Int) : (putOK v n).1.length ≤ 19 := by
  unfold putOK
  split
  · simp
  · split
    · simp only [digs_len]; omega
    · simp
theorem put_is (k : Nat) (hk : 20 < k) (v n : Int) (h0 : 0 ≤ v) (h1 : v ≤ 18446744073709551615) : G105 k (v, n, ()) = some ((putOK v.toNat n).1, (putOK v.toNat n).2, ()) := by
  have := G105_is k hk v.toNat n (by omega)
  rwa [show ((v.toNat : Nat) : Int) = v by omega] at this
theorem G109_is (k : Nat) (hk : 20 < k) (kind : Int) (pan : Txt) (amt stan : Int) (rrn code : Txt) (ha : 0 ≤ amt ∧ amt ≤ 18446744073709551615) (hs : 0 ≤ stan ∧ stan ≤ 4294967295) :
    G109 k ((kind, pan, amt, stan, rrn, code, ()), ()) = some (itemsK (kind, pan, amt, stan, rrn, code, ()), ()) := by
  rw [G109_eq]
  (try simp only [])
  rw [wrapu64 (by omega) (by omega), put_is k hk stan 6 (by omega) (by omega), ocall_some, G42_is, ocall_some]
  unfold itemsK
  (try simp only [])
  cases asksK kind with
  | false => rfl
  | true =>
    simp only [Bool.not_true, sel_false, if_true]
    rw [put_is k hk amt 12 (by omega) (by omega), ocall_some, G108_is, ocall_some]
    have hl := putOK_le stan.toNat 6
    have ht : typeK 1 = [48, 49, 48, 48] := rfl
    rw [ht]
    by_cases c : 5 ≤ kind
    · rw [sel_pos c, sel_pos (by simp only [List.length_cons, List.length_nil]; omega), sel_pos (by simp only [List.length_append, List.length_cons, List.length_nil]; omega), if_pos c]
      rfl
    · rw [sel_neg c, if_neg c]
      rfl
def dealOK (d : Deal) : Bool := decide (1 ≤ d.1) && decide (d.1 ≤ 7) && decide (d.2.2.2.1 ≤ 999999) && rightF 37 d.2.2.2.2.1 &&
  (if asksK d.1 = true then isFine d.2.1 && decide (d.2.1.length < 20) && decide (d.2.2.1 < 1000000000000) && decide (d.2.2.2.2.2.1 = []) else rightF 39 d.2.2.2.2.2.1 && decide (d.2.1 = []) && decide (d.2.2.1 = 0))
theorem rf11 (s : Txt) : rightF 11 s = (decide (s.length = 6) && isDig s) := by
  have : defOf 11 = some (11, 1, 6, ()) := rfl
  unfold rightF; rw [this]
  simp [sized, ahead, signs, Signs.signsOf]
  by_cases h : s.length = 6 <;> simp [h]; omega
theorem rf4 (s : Txt) : rightF 4 s = (decide (s.length = 12) && isDig s) := by
  have : defOf 4 = some (4, 1, 12, ()) := rfl
  unfold rightF; rw [this]
  simp [sized, ahead, signs, Signs.signsOf]
  by_cases h : s.length = 12 <;> simp [h]; omega
theorem rf90 (s : Txt) : rightF 90 s = (decide (s.length = 42) && isDig s) := by
  have : defOf 90 = some (90, 1, 42, ()) := rfl
  unfold rightF; rw [this]
  simp [sized, ahead, signs, Signs.signsOf]
  by_cases h : s.length = 42 <;> simp [h]; omega
theorem rf2 (s : Txt) : rightF 2 s = (decide (1 ≤ s.length) && decide (s.length ≤ 19) && isDig s) := by
  have : defOf 2 = some (2, 3, 19, ()) := rfl
  unfold rightF; rw [this]
  simp [sized, ahead, signs, Signs.signsOf]
  have : decide ((s.length : Int) ≤ 19) = decide (s.length ≤ 19) := decide_eq_decide.2 (by omega)
  rw [this]
theorem stanT_of {stan : Int} (h0 : 0 ≤ stan) (h : stan ≤ 999999) : stanT stan = digs stan.toNat 6 := by
  unfold stanT putOK
  rw [if_neg (by omega), if_pos (show stan.toNat / 10 ^ (6 : Int).toNat = 0 from Nat.div_eq_of_lt (by show stan.toNat < 10 ^ 6; omega))]
  rfl
theorem stanT_no {stan : Int} (h : ¬ stan ≤ 999999) : stanT stan = [] := by
  unfold stanT putOK
  rw [if_neg (by omega), if_neg]
  show ¬ stan.toNat / 10 ^ 6 = 0
  intro e
  have := (Nat.div_eq_zero_iff).1 e
  omega
theorem amtT_of {amt : Int} (h0 : 0 ≤ amt) (h : amt < 1000000000000) : amtT amt = digs amt.toNat 12 := by
  unfold amtT putOK
  rw [if_neg (by omega), if_pos (show amt.toNat / 10 ^ (12 : Int).toNat = 0 from Nat.div_eq_of_lt (by show amt.toNat < 10 ^ 12; omega))]
  rfl
theorem amtT_no {amt : Int} (h : ¬ amt < 1000000000000) : amtT amt = [] := by
  unfold amtT putOK
  rw [if_neg (by omega), if_neg]
  show ¬ amt.toNat / 10 ^ 12 = 0
  intro e
  have := (Nat.div_eq_zero_iff).1 e
  omega
theorem digs_all : ∀ (n v : Nat), (digs v n).all dgt = true := by
  intro n
  induction n with
  | zero => intro v; rfl
  | succ n ih =>
    intro v
    simp only [digs, List.all_append, ih, List.all_cons, List.all_nil, Bool.and_true, Bool.true_and]
    rw [dgt_iff, chr_toNat (by omega)]
    omega
theorem isDig_of {n v : Nat} (h : 0 < n) : isDig (digs v n) = true := by
  unfold isDig
  rw [digs_all, digs_len, decide_eq_true h]; rfl
theorem rf11_stan {stan : Int} (h0 : 0 ≤ stan) : rightF 11 (stanT stan) = decide (stan ≤ 999999) := by
  by_cases h : stan ≤ 999999
  · rw [rf11, stanT_of h0 h, digs_len, isDig_of (by omega), decide_eq_true h]; rfl
  · rw [rf11, stanT_no h, decide_eq_false h]; rfl
theorem rf4_amt {amt : Int} (h0 : 0 ≤ amt) : rightF 4 (amtT amt) = decide (amt < 1000000000000) := by
  by_cases h : amt < 1000000000000
  · rw [rf4, amtT_of h0 h, digs_len, isDig_of (by omega), decide_eq_true h]; rfl
  · rw [rf4, amtT_no h, decide_eq_false h]; rfl
theorem rf90_origin {stan : Int} (h0 : 0 ≤ stan) (h : stan ≤ 999999) : rightF 90 (originT stan) = true := by
  rw [rf90]
  unfold originT zeros
  rw [stanT_of h0 h]
  have hl : ([48, 49, 48, 48] ++ digs stan.toNat 6 ++ List.replicate 32 (48 : UInt8)).length = 42 := by simp [digs_len]
  have ha : ([48, 49, 48, 48] ++ digs stan.toNat 6 ++ List.replicate 32 (48 : UInt8)).all dgt = true := by
    rw [List.all_append, List.all_append, digs_all]; rfl
  unfold isDig
  rw [hl, ha]; rfl
theorem rf2_fine {pan : Txt} (h : isFine pan = true) : rightF 2 pan = decide (pan.length < 20) := by
  have hd : isDig pan = true := by unfold isFine at h; simp at h; exact h.1
  have hp : 0 < pan.length := by unfold isDig at hd; simp at hd; exact hd.1
  rw [rf2, hd, decide_eq_true (show 1 ≤ pan.length by omega)]
  have : decide (pan.length ≤ 19) = decide (pan.length < 20) := decide_eq_decide.2 (by omega)
  rw [this]; simp
theorem known_type (kind : Int) : knownT (typeK kind) = (decide (1 ≤ kind) && decide (kind ≤ 7)) := by
  by_cases h : kind < 0 ∨ 8 ≤ kind
  · have : typeK kind = [] := by unfold typeK; rw [if_pos h]
    rw [this]
    rcases h with h | h
    · rw [decide_eq_false (show ¬ 1 ≤ kind by omega)]; rfl
    · rw [decide_eq_false (show ¬ kind ≤ 7 by omega), Bool.and_false]; rfl
  · have : kind = 0 ∨ kind = 1 ∨ kind = 2 ∨ kind = 3 ∨ kind = 4 ∨ kind = 5 ∨ kind = 6 ∨ kind = 7 := by omega
    rcases this with rfl | rfl | rfl | rfl | rfl | rfl | rfl | rfl <;> rfl
theorem asks_kind {kind : Int} (h : asksK kind = true) : 1 ≤ kind ∧ kind ≤ 7 := by
  simp [asksK] at h; omega
theorem right_eq (kind : Int) (pan : Txt) (amt stan : Int) (rrn code : Txt) (ha : 0 ≤ amt) (hs : 0 ≤ stan) :
    (if asksK kind = true then decide (code = []) && isFine pan && msgRight (typeK kind, itemsK (kind, pan, amt, stan, rrn, code, ()), ())
     else decide (pan = []) && decide (amt = 0) && msgRight (typeK kind, itemsK (kind, pan, amt, stan, rrn, code, ()), ())) = dealOK (kind, pan, amt, stan, rrn, code, ()) := by
  unfold dealOK msgRight itemsK
  (try simp only [])
  cases hk : asksK kind with
  | true =>
    obtain ⟨k1, k7⟩ := asks_kind hk
    simp only [if_true, known_type, decide_eq_true k1, decide_eq_true k7]
    by_cases hf : isFine pan = true
    · by_cases c : 5 ≤ kind
      · simp only [if_pos c, List.cons_append, List.nil_append, itemsOK, rf2_fine hf, rf4_amt ha, rf11_stan hs]
        by_cases hst : stan ≤ 999999
        · simp only [rf90_origin hs hst, decide_eq_true hst, hf]
          cases rightF 37 rrn <;> by_cases h1 : pan.length < 20 <;> by_cases h2 : amt < 1000000000000 <;> by_cases h3 : code = [] <;> simp [h1, h2, h3]
        · simp [hst]
      · simp only [if_neg c, List.append_nil, itemsOK, rf2_fine hf, rf4_amt ha, rf11_stan hs, hf]
        cases rightF 37 rrn <;> by_cases h0 : stan ≤ 999999 <;> by_cases h1 : pan.length < 20 <;> by_cases h2 : amt < 1000000000000 <;> by_cases h3 : code = [] <;> simp [h0, h1, h2, h3]
    · have hf : isFine pan = false := by simpa using hf
      simp [hf]
  | false =>
    simp only [Bool.false_eq_true, if_false, known_type, itemsOK, rf11_stan hs]
    cases rightF 37 rrn <;> cases rightF 39 code <;> by_cases h0 : stan ≤ 999999 <;> by_cases h1 : pan = [] <;> by_cases h2 : amt = 0 <;> by_cases h3 : 1 ≤ kind <;> by_cases h4 : kind ≤ 7 <;> simp [h0, h1, h2, h3, h4]
theorem itemsK_len (d : Deal) : (itemsK d).length ≤ 5 := by
  unfold itemsK; split
  · split <;> simp
  · simp
theorem itemsK_txt (d : Deal) (L : Nat) (h1 : d.2.1.length ≤ L) (h2 : d.2.2.2.2.1.length ≤ L) (h3 : d.2.2.2.2.2.1.length ≤ L) : ∀ x ∈ itemsK d, x.2.1.length ≤ L + 60 := by
  have a1 : (amtT d.2.2.1).length ≤ 19 := putOK_le _ _
  have a2 : (stanT d.2.2.2.1).length ≤ 19 := putOK_le _ _
  have a3 : (originT d.2.2.2.1).length ≤ 60 := by unfold originT zeros; simp; omega
  intro x hx
  unfold itemsK at hx
  split at hx
  · split at hx
    · simp at hx
      rcases hx with rfl | rfl | rfl | rfl | rfl <;> (try simp only []) <;> omega
    · simp at hx
      rcases hx with rfl | rfl | rfl | rfl <;> (try simp only []) <;> omega
  · simp at hx
    rcases hx with rfl | rfl | rfl <;> (try simp only []) <;> omega
def lens (L : Nat) (d : Deal) : Prop := d.2.1.length ≤ L ∧ d.2.2.2.2.1.length ≤ L ∧ d.2.2.2.2.2.1.length ≤ L
instance (L : Nat) (d : Deal) : Decidable (lens L d) := by unfold lens; infer_instance
def goodD (d : Deal) : Prop := (0 ≤ d.2.2.1 ∧ d.2.2.1 ≤ 18446744073709551615) ∧ 0 ≤ d.2.2.2.1 ∧ d.2.2.2.1 ≤ 4294967295
theorem G33_is (k L : Nat) (hL : L ≤ 1000000) (hk : L + 100 < k) (d : Deal) (hl : lens L d) (hg : goodD d) : G33 k (d, ()) = some (dealOK d, ()) := by
  obtain ⟨kind, pan, amt, stan, rrn, code, ⟨⟩⟩ := d
  obtain ⟨l1, l2, l3⟩ := hl
  obtain ⟨ha, hs⟩ := hg
  (try simp only [] at l1 l2 l3 ha hs)
  rw [← right_eq kind pan amt stan rrn code ha.1 hs.1, G33_eq]
  (try simp only [])
  have hm : G44 k ((typeK kind, itemsK (kind, pan, amt, stan, rrn, code, ()), ()), ()) = some (msgRight (typeK kind, itemsK (kind, pan, amt, stan, rrn, code, ()), ()), ()) := by
    have h5 := itemsK_len (kind, pan, amt, stan, rrn, code, ())
    refine G44_is k (by omega) _ _ (by omega) (by omega) fun x hx => ?_
    have := itemsK_txt (kind, pan, amt, stan, rrn, code, ()) L l1 l2 l3 x hx
    rw [maxLen_eq]; omega
  rw [G42_is, ocall_some, G107_is k pan (by omega) (by omega), ocall_some, G108_is, ocall_some, G109_is k (by omega) kind pan amt stan rrn code ha hs, ocall_some, hm, ocall_some]
  cases asksK kind with
  | true =>
    simp only [sel_true, if_true]
    by_cases c : code = []
    · cases isFine pan <;> simp [c]
    · rw [sel_eq]; simp [c]
  | false =>
    simp only [sel_false, Bool.false_eq_true, if_false]
    by_cases c : pan = []
    · by_cases c2 : amt = 0 <;> simp [c, c2]
    · rw [sel_eq]; simp [c]
theorem G36_is (k L : Nat) (hL : L ≤ 1000000) (hk : L + 100 < k) (d : Deal) (hl : lens L d) (hg : goodD d) : G36 k (d, ()) = some (dealOK d, ()) := by
  obtain ⟨kind, pan, amt, stan, rrn, code, ⟨⟩⟩ := d
  obtain ⟨l1, l2, l3⟩ := hl
  obtain ⟨ha, hs⟩ := hg
  (try simp only [] at l1 l2 l3 ha hs)
  rw [G36_eq]
  unfold dealOK
  simp only [ofNat_len]
  have r37 := G101_is k (by omega) 37 rrn (by rw [maxLen_eq]; omega) (by omega)
  have r39 := G101_is k (by omega) 39 code (by rw [maxLen_eq]; omega) (by omega)
  have rf := G110_is k pan (by omega) (by omega)
  by_cases h1 : kind < 1
  · rw [sel_pos h1, decide_eq_false (show ¬ 1 ≤ kind by omega)]; rfl
  rw [sel_neg h1, decide_eq_true (show 1 ≤ kind by omega)]
  by_cases h2 : 7 < kind
  · rw [sel_pos h2, decide_eq_false (show ¬ kind ≤ 7 by omega)]; rfl
  rw [sel_neg h2, decide_eq_true (show kind ≤ 7 by omega)]
  by_cases h3 : (999999 : Int) < stan
  · rw [sel_pos h3, decide_eq_false (show ¬ stan ≤ 999999 by omega)]; rfl
  rw [sel_neg h3, decide_eq_true (show stan ≤ 999999 by omega), r37, ocall_some]
  generalize rightF 37 rrn = b37
  cases b37 with
  | false => rfl
  | true =>
    simp only [Bool.not_true, sel_false, Bool.and_true, Bool.true_and]
    rw [G43_is, ocall_some]
    generalize asksK kind = bk
    cases bk with
    | true =>
      simp only [sel_true, if_true]
      rw [rf, ocall_some]
      generalize isFine pan = bf
      cases bf with
      | false => rfl
      | true =>
        simp only [sel_true, Bool.true_and]
        by_cases c : pan.length < 20
        · rw [sel_pos (show (pan.length : Int) < 20 by omega), decide_eq_true c]
          by_cases c2 : amt < 1000000000000
          · rw [sel_pos c2, decide_eq_true c2]; rfl
          · rw [sel_neg c2, decide_eq_false c2]; rfl
        · rw [sel_neg (show ¬ (pan.length : Int) < 20 by omega), decide_eq_false c]; rfl
    | false =>
      simp only [sel_false, Bool.false_eq_true, if_false]
      rw [r39, ocall_some]
      generalize rightF 39 code = bf
      cases bf with
      | false => rfl
      | true =>
        simp only [sel_true, Bool.true_and]
        by_cases c : pan = []
        · rw [sel_pos c, decide_eq_true c]; rfl
        · rw [sel_neg c, decide_eq_false c]; rfl
end Go.Proofs.YtjgnpmdbkgeakaaDoor.G
end
section
set_option linter.unusedVariables false
set_option linter.unusedSimpArgs false
set_option maxRecDepth 100000
namespace Go.Proofs.YtjgnpmdbkgeakaaDoor.G
open Go Go.Proofs.YtjgnpmdbkgeakaaDoor Th
theorem bl_eq : ∀ (x y : Txt), Go.Op.bytesLess x y = decide (x < y)
  | [], [] => by simp [Go.Op.bytesLess]
  | [], b :: t => by simp [Go.Op.bytesLess]
  | a :: s, [] => by simp [Go.Op.bytesLess]
  | a :: s, b :: t => by
    simp only [Go.Op.bytesLess, List.cons_lt_cons_iff, bl_eq s t]
    by_cases h : a = b
    · subst h; simp
    · by_cases h2 : a < b
      · simp [h, h2]
      · simp [h, h2]
theorem bl_irrefl (s : Txt) : Go.Op.bytesLess s s = false := by rw [bl_eq, decide_eq_false]; exact List.lt_irrefl s
theorem bl_trans {s t u : Txt} (h1 : Go.Op.bytesLess s t = true) (h2 : Go.Op.bytesLess t u = true) : Go.Op.bytesLess s u = true := by
  rw [bl_eq, decide_eq_true_eq] at h1 h2 ⊢
  exact List.lt_trans h1 h2
theorem bl_asymm {s t : Txt} (h : Go.Op.bytesLess s t = true) : Go.Op.bytesLess t s = false := by
  cases h2 : Go.Op.bytesLess t s with
  | false => rfl
  | true => have := bl_trans h h2; rw [bl_irrefl] at this; cases this
theorem bl_tri {s t : Txt} (h : Go.Op.bytesLess s t = false) (hne : s ≠ t) : Go.Op.bytesLess t s = true := by
  rw [bl_eq, decide_eq_false_iff_not] at h
  rw [bl_eq, decide_eq_true_eq]
  have := List.not_lt.1 h
  rcases List.le_iff_lt_or_eq.1 this with h2 | h2
  · exact h2
  · exact absurd h2.symm hne
def ordS (s t : Txt) : Int := if Go.Op.bytesLess s t = true then -1 else if s = t then 0 else 1
def ordK (a b : Key) : Int := if a.1 < b.1 then -1 else if b.1 < a.1 then 1 else ordS a.2.1 b.2.1
theorem G103_is (k : Nat) (a b : Int) : G103 k (a, b, ()) = some (if a < b then -1 else if b < a then 1 else 0, ()) := by
  rw [G103_eq, G166_eq, ocall_some, G166_eq, ocall_some]
  simp only [decide_true, Bool.not_true, sel_false, sel_dec]
  by_cases h : a < b
  · simp [h]
  · by_cases h2 : b < a <;> simp [h, h2]
theorem G104_is (k : Nat) (a b : Txt) : G104 k (a, b, ()) = some (ordS a b, ()) := by
  rw [G104_eq, G167_eq, ocall_some, G167_eq, ocall_some]
  simp only [decide_true, Bool.not_true, sel_false]
  unfold ordS
  cases Go.Op.bytesLess a b with
  | true => rfl
  | false =>
    simp only [Bool.false_or, sel_false, Bool.false_eq_true, if_false]
    by_cases h : a = b
    · rw [decide_eq_true h, if_pos h]; rfl
    · rw [decide_eq_false h, if_neg h]; rfl
theorem G102_is (k : Nat) (hk : 2 < k) (a b : Int) : G102 k ([a, b], ()) = some (if a = 0 then b else a, ()) := by
  obtain ⟨k, rfl⟩ : ∃ m, k = m + 3 := ⟨k - 3, by omega⟩
  rw [G102_eq]
  have e2 : Int.ofNat ([a, b] : List Int).length = 2 := rfl
  simp only [e2]
  rw [show k + 3 = (k + 2) + 1 by omega, G102_3_eq]
  (try simp only [])
  have e3 : Int.ofNat ([a, b] : List Int).length = 2 := rfl
  rw [e3, sel_pos (by omega), sel_pos (by omega), sel_pos (by omega)]
  have g0 : ([a, b] : List Int).getD (Int.toNat 0) (OfNat.ofNat 0) = a := rfl
  rw [g0]
  by_cases h : a = 0
  · subst h
    have ed : (!decide ((0 : Int) = 0)) = false := rfl
    rw [ed, sel_false, if_pos rfl, wrap64 (by omega) (by omega), show k + 2 = (k + 1) + 1 by omega, G102_3_eq]
    (try simp only [])
    rw [e3, sel_pos (by omega), sel_pos (by omega), sel_pos (by omega)]
    have g1 : ([0, b] : List Int).getD (Int.toNat (0 + 1)) (OfNat.ofNat 0) = b := rfl
    rw [g1]
    by_cases h2 : b = 0
    · subst h2
      rw [ed, sel_false, wrap64 (by omega) (by omega), G102_3_eq]
      (try simp only [])
      rw [e3, sel_neg (by omega), ocall_some]
      rfl
    · rw [decide_eq_false h2]; rfl
  · rw [decide_eq_false h, if_neg h]; rfl
theorem G29_is (k : Nat) (hk : 2 < k) (a b : Key) : G29 k (a, b, ()) = some (ordK a b, ()) := by
  obtain ⟨a1, a2, ⟨⟩⟩ := a
  obtain ⟨b1, b2, ⟨⟩⟩ := b
  rw [G29_eq]
  (try simp only [])
  rw [G103_is, ocall_some, G104_is, ocall_some, G102_is k hk, ocall_some]
  unfold ordK
  (try simp only [])
  by_cases h : a1 < b1
  · simp [h]
  · by_cases h2 : b1 < a1 <;> simp [h, h2]
theorem sameK (a b : Key) : (sameI a.1 b.1 && (sameS a.2.1 b.2.1 && true)) = decide (a = b) := by
  obtain ⟨a1, a2, ⟨⟩⟩ := a
  obtain ⟨b1, b2, ⟨⟩⟩ := b
  simp [sameI, sameS]
theorem ordK_zero {a b : Key} : ordK a b = 0 ↔ a = b := by
  obtain ⟨a1, a2, ⟨⟩⟩ := a
  obtain ⟨b1, b2, ⟨⟩⟩ := b
  unfold ordK ordS
  simp only [Prod.mk.injEq, and_true]
  constructor
  · intro h
    split at h
    · cases h
    · split at h
      · cases h
      · split at h
        · cases h
        · split at h
          · rename_i e; exact ⟨by omega, e⟩
          · cases h
  · rintro ⟨rfl, rfl⟩
    rw [if_neg (by omega), if_neg (by omega), bl_irrefl]; simp
theorem ordS_flip (s t : Txt) : ordS t s = - ordS s t := by
  unfold ordS
  cases h : Go.Op.bytesLess s t with
  | true =>
    rw [bl_asymm h]
    by_cases e : t = s
    · subst e; rw [bl_irrefl] at h; cases h
    · simp [e]
  | false =>
    by_cases e : s = t
    · subst e; simp [h]
    · rw [bl_tri h e]; simp [e]
theorem ordK_flip (a b : Key) : ordK b a = - ordK a b := by
  unfold ordK
  by_cases h : a.1 < b.1
  · rw [if_pos h, if_neg (by omega), if_pos h]; rfl
  · by_cases h2 : b.1 < a.1
    · rw [if_pos h2, if_neg h, if_pos h2]
    · rw [if_neg h2, if_neg h, if_neg h, if_neg h2]; exact ordS_flip _ _
theorem ordK_cases (a b : Key) : ordK a b = -1 ∨ ordK a b = 0 ∨ ordK a b = 1 := by
  unfold ordK ordS
  repeat' split
  all_goals simp
theorem ordK_neg {a b : Key} : ordK a b = -1 ↔ a.1 < b.1 ∨ (a.1 = b.1 ∧ Go.Op.bytesLess a.2.1 b.2.1 = true) := by
  unfold ordK ordS
  constructor
  · intro h
    split at h
    · exact .inl (by assumption)
    · split at h
      · cases h
      · split at h
        · exact .inr ⟨by omega, by assumption⟩
        · split at h <;> cases h
  · rintro (h | ⟨h, h2⟩)
    · rw [if_pos h]
    · rw [if_neg (by omega), if_neg (by omega), if_pos h2]
theorem ordK_trans {a b c : Key} (h1 : ordK a b = -1) (h2 : ordK b c = -1) : ordK a c = -1 := by
  rw [ordK_neg] at h1 h2 ⊢
  rcases h1 with h1 | ⟨h1, h3⟩
  · rcases h2 with h2 | ⟨h2, _⟩ <;> exact .inl (by omega)
  · rcases h2 with h2 | ⟨h2, h4⟩
    · exact .inl (by omega)
    · exact .inr ⟨by omega, bl_trans h3 h4⟩
theorem G30_is (k : Nat) (a b : Key) : G30 k (a, b, ()) = some (ordK a b, ()) := by
  rw [G30_eq]
  simp only [sameK]
  by_cases h : a = b
  · rw [sel_pos h, ordK_zero.2 h]
  · rw [sel_neg h]
    have hne := fun e => h (ordK_zero.1 e)
    unfold ordK ordS at hne ⊢
    by_cases h1 : a.1 < b.1
    · rw [sel_pos h1, if_pos h1]
    · rw [sel_neg h1, if_neg h1]
      by_cases h2 : b.1 < a.1
      · rw [sel_neg (by omega), if_pos h2]
      · rw [sel_pos (by omega), if_neg h2]
        rw [if_neg h1, if_neg h2] at hne
        cases hb : Go.Op.bytesLess a.2.1 b.2.1 with
        | true => rfl
        | false =>
          rw [hb] at hne
          simp only [Bool.false_eq_true, if_false] at hne
          by_cases e : a.2.1 = b.2.1
          · rw [if_pos e] at hne; exact absurd rfl hne
          · simp [e]
def keyOK (a : Key) : Bool := decide (a.1 ≤ 999999) && rightF 37 a.2.1
theorem ack_ok (a : Key) : dealOK (7, [], 0, a.1, a.2.1, [48, 48], ()) = keyOK a := by
  unfold dealOK keyOK
  have h1 : asksK 7 = false := rfl
  have h2 : rightF 39 [48, 48] = true := by decide
  simp only [h1, h2]
  simp
theorem G27_is (k L : Nat) (hL : L ≤ 1000000) (hk : L + 100 < k) (a : Key) (hl : a.2.1.length ≤ L) (h2 : 2 ≤ L) (hg : 0 ≤ a.1 ∧ a.1 ≤ 4294967295) : G27 k (a, ()) = some (keyOK a, ()) := by
  rw [G27_eq]
  (try simp only [])
  rw [G33_is k L hL hk (7, [], 0, a.1, a.2.1, [48, 48], ()) ⟨Nat.zero_le _, hl, h2⟩ ⟨⟨Int.le_refl 0, show (0 : Int) ≤ 18446744073709551615 by decide⟩, hg⟩, ocall_some, ack_ok]
theorem G28_is (k : Nat) (hk : 100 < k) (a : Key) (hl : a.2.1.length ≤ 1000000) (hlk : a.2.1.length < k) : G28 k (a, ()) = some (keyOK a, ()) := by
  rw [G28_eq]
  unfold keyOK
  (try simp only [])
  by_cases h : a.1 ≤ 999999
  · rw [sel_pos h, G101_is k (by omega) 37 _ (by rw [maxLen_eq]; omega) hlk, ocall_some, decide_eq_true h]; rfl
  · rw [sel_neg h, decide_eq_false h]; rfl
def hstep (h : Nat) (c : UInt8) : Nat := (h ^^^ c.toNat) * 16777619 % 4294967296
def hsh (s : Txt) : Nat := s.foldl hstep 2166136261
theorem G26_is (k : Nat) (d : Deal) : G26 k (d, ()) = some ((d.2.2.2.1, d.2.2.2.2.1, ()), ()) := by rw [G26_eq]
end Go.Proofs.YtjgnpmdbkgeakaaDoor.G
end
section
set_option linter.unusedVariables false
set_option linter.unusedSimpArgs false
set_option maxRecDepth 100000
namespace Go.Proofs.YtjgnpmdbkgeakaaDoor.G
open Go Go.Proofs.YtjgnpmdbkgeakaaDoor Th
abbrev Hold := Key × Int × Int × Unit
def orderedH : List Hold → Bool
  | [] => true
  | [_] => true
  | a :: b :: t => decide (ordK a.1 b.1 = -1) && orderedH (b :: t)
theorem ordered_tailH {a : Hold} {l : List Hold} (h : orderedH (a :: l) = true) : orderedH l = true := by
  cases l with
  | nil => rfl
  | cons b t => simp only [orderedH, Bool.and_eq_true] at h; exact h.2
theorem ordered_ltH {a : Hold} : ∀ {l : List Hold}, orderedH (a :: l) = true → ∀ x ∈ l, ordK a.1 x.1 = -1 := by
  intro l
  induction l generalizing a with
  | nil => intro _ x hx; cases hx
  | cons b t ih =>
    intro h x hx
    simp only [orderedH, Bool.and_eq_true, decide_eq_true_eq] at h
    rcases List.mem_cons.1 hx with rfl | hx
    · exact h.1
    · exact ordK_trans h.1 (ih h.2 x hx)
theorem ordered_getH : ∀ {l : List Hold}, orderedH l = true → ∀ (x y : Nat) (hxy : x < y) (hy : y < l.length), ordK (l[x]'(Nat.lt_trans hxy hy)).1 l[y].1 = -1 := by
  intro l
  induction l with
  | nil => intro _ x y _ hy; exact absurd hy (Nat.not_lt_zero _)
  | cons a t ih =>
    intro h x y hxy hy
    obtain ⟨y, rfl⟩ : ∃ m, y = m + 1 := ⟨y - 1, by omega⟩
    have hy' : y < t.length := by simpa using hy
    cases x with
    | zero => exact ordered_ltH h t[y] (List.getElem_mem hy')
    | succ x => exact ih (ordered_tailH h) x y (by omega) hy'
def ltKH (key : Key) (e : Hold) : Bool := decide (ordK e.1 key = -1)
def posEH (l : List Hold) (key : Key) : Nat := (l.takeWhile (ltKH key)).length
def hasAtH (l : List Hold) (key : Key) : Bool := match l[posEH l key]? with
  | some e => decide (e.1 = key)
  | none => false
theorem posE_leH (l : List Hold) (key : Key) : posEH l key ≤ l.length := (List.takeWhile_sublist _).length_le
theorem posE_posH {x : Hold} {t : List Hold} {key : Key} (h : ordK x.1 key = -1) : posEH (x :: t) key = posEH t key + 1 := by
  unfold posEH
  rw [List.takeWhile_cons, if_pos (show ltKH key x = true from decide_eq_true h)]; rfl
theorem posE_zeroH {x : Hold} {t : List Hold} {key : Key} (h : ordK x.1 key ≠ -1) : posEH (x :: t) key = 0 := by
  unfold posEH
  rw [List.takeWhile_cons, if_neg (show ¬ ltKH key x = true from fun e => h (of_decide_eq_true e))]; rfl
theorem posE_ofH (key : Key) : ∀ (l : List Hold) (i : Nat), i ≤ l.length → (∀ x (hx : x < l.length), x < i → ordK l[x].1 key = -1) → (∀ x (hx : x < l.length), i ≤ x → ordK l[x].1 key ≠ -1) → posEH l key = i := by
  intro l
  induction l with
  | nil => intro i hi _ _; have : i = 0 := by simpa using hi
           rw [this]; rfl
  | cons a t ih =>
    intro i hi h1 h2
    cases i with
    | zero => exact posE_zeroH (h2 0 (by simp) (Nat.le_refl _))
    | succ i =>
      rw [posE_posH (x := a) (t := t) (h1 0 (by simp) (by omega)), ih i (by simpa using hi) (fun x hx hxi => h1 (x + 1) (by simpa using hx) (by omega)) (fun x hx hxi => h2 (x + 1) (by simpa using hx) (by omega))]
def keyIsH (key : Key) (e : Hold) : Bool := decide (e.1 = key)
def findEH (l : List Hold) (key : Key) : Option Hold := l.find? (keyIsH key)
def placeEH (key : Key) : List Hold → Nat → Option Nat
  | [], _ => none
  | e :: t, i => if e.1 = key then some i else placeEH key t (i + 1)
theorem place_findH (key : Key) : ∀ (l : List Hold) (i : Nat), match placeEH key l i with
    | some p => i ≤ p ∧ ∃ h : p - i < l.length, findEH l key = some l[p - i] ∧ (l[p - i]).1 = key
    | none => findEH l key = none := by
  intro l
  induction l with
  | nil => intro i; rfl
  | cons a t ih =>
    intro i
    unfold placeEH
    by_cases c : a.1 = key
    · rw [if_pos c]
      refine ⟨Nat.le_refl _, by rw [Nat.sub_self]; simp, ?_, ?_⟩
      · unfold findEH
        rw [List.find?_cons, show keyIsH key a = true from decide_eq_true c]
        simp only [Nat.sub_self, List.getElem_cons_zero]
      · simp only [Nat.sub_self, List.getElem_cons_zero]; exact c
    · rw [if_neg c]
      have h := ih (i + 1)
      have hf : findEH (a :: t) key = findEH t key := by
        unfold findEH
        rw [List.find?_cons, show keyIsH key a = false from decide_eq_false c]
      rw [hf]
      cases hp : placeEH key t (i + 1) with
      | none => rw [hp] at h; exact h
      | some p =>
        rw [hp] at h
        obtain ⟨h1, h2, h3, h4⟩ := h
        have e : p - i = p - (i + 1) + 1 := by omega
        refine ⟨by omega, by rw [e]; simpa using h2, ?_, ?_⟩
        · simp only [e, List.getElem_cons_succ]; exact h3
        · simp only [e, List.getElem_cons_succ]; exact h4
theorem has_findH {l : List Hold} (ho : orderedH l = true) (key : Key) : findEH l key = if hasAtH l key = true then l[posEH l key]? else none := by
  have hp := place_findH key l 0
  cases hq : placeEH key l 0 with
  | some p =>
    rw [hq] at hp
    obtain ⟨_, h2, h3, h4⟩ := hp
    rw [Nat.sub_zero] at h2
    simp only [Nat.sub_zero] at h3 h4
    have he : posEH l key = p := by
      refine posE_ofH key l p (by omega) (fun x hx hxp => ?_) (fun x hx hxp => ?_)
      · have := ordered_getH ho x p hxp h2
        rwa [h4] at this
      · rcases Nat.lt_or_eq_of_le hxp with c | c
        · intro e
          have := ordered_getH ho p x c hx
          rw [h4] at this
          have h0 := ordK_trans this e
          rw [ordK_zero.2 rfl] at h0
          exact absurd h0 (by decide)
        · simp only [← c]
          rw [ordK_zero.2 h4]; decide
    have hh : hasAtH l key = true := by
      unfold hasAtH
      rw [he, List.getElem?_eq_getElem h2]
      exact decide_eq_true h4
    rw [if_pos hh, h3, he, List.getElem?_eq_getElem h2]
  | none =>
    rw [hq] at hp
    have hh : ¬ hasAtH l key = true := by
      intro h
      unfold hasAtH at h
      cases hg : l[posEH l key]? with
      | none => rw [hg] at h; cases h
      | some e =>
        rw [hg] at h
        have hm := List.mem_of_getElem? hg
        have := List.find?_eq_none.1 hp e hm
        exact this h
    rw [if_neg hh, hp]
def insLH (l : List Hold) (e : Hold) : List Hold := l.take (posEH l e.1) ++ [e] ++ l.drop (posEH l e.1)
theorem hasAt_ltH {l : List Hold} {key : Key} (h : hasAtH l key = true) : ∃ hp : posEH l key < l.length, (l[posEH l key]).1 = key := by
  unfold hasAtH at h
  cases hg : l[posEH l key]? with
  | none => rw [hg] at h; cases h
  | some e =>
    rw [hg] at h
    obtain ⟨hp, he⟩ := List.getElem?_eq_some_iff.1 hg
    exact ⟨hp, by rw [he]; exact of_decide_eq_true h⟩
theorem ins_lengthH (l : List Hold) (e : Hold) : (insLH l e).length = l.length + 1 := by
  have := posE_leH l e.1
  unfold insLH; simp only [List.length_append, List.length_take, List.length_drop, List.length_singleton]; omega
end Go.Proofs.YtjgnpmdbkgeakaaDoor.G
end
section
set_option linter.unusedVariables false
set_option linter.unusedSimpArgs false
namespace Go.Proofs.YtjgnpmdbkgeakaaDoor.G
open Go Go.Proofs.YtjgnpmdbkgeakaaDoor Th
end Go.Proofs.YtjgnpmdbkgeakaaDoor.G
end
section
set_option linter.unusedVariables false
set_option linter.unusedSimpArgs false
set_option maxRecDepth 100000
namespace Go.Proofs.YtjgnpmdbkgeakaaDoor.G
open Go Go.Proofs.YtjgnpmdbkgeakaaDoor Th
def zeroD : Deal := (0, [], 0, 0, [], [], ())
end Go.Proofs.YtjgnpmdbkgeakaaDoor.G
end
section
set_option linter.unusedVariables false
set_option linter.unusedSimpArgs false
set_option maxRecDepth 100000
namespace Go.Proofs.YtjgnpmdbkgeakaaDoor.G
open Go Go.Proofs.YtjgnpmdbkgeakaaDoor Th
def upd (q : Txt × Int × Int × Txt × Txt × Unit) (x : Item) : Txt × Int × Int × Txt × Txt × Unit :=
  if x.1 = 2 then (x.2.1, q.2) else if x.1 = 4 then (q.1, (((getOK x.2.1).1 : Nat) : Int), q.2.2) else if x.1 = 11 then (q.1, q.2.1, IntKind.u32.wrap (((getOK x.2.1).1 : Nat) : Int), q.2.2.2)
  else if x.1 = 37 then (q.1, q.2.1, q.2.2.1, x.2.1, q.2.2.2.2) else if x.1 = 39 then (q.1, q.2.1, q.2.2.1, q.2.2.2.1, x.2.1, ()) else q
set_option synthInstance.maxSize 2000 in
set_option synthInstance.maxHeartbeats 200000 in
instance decD : DecidableEq Deal := fun a b => inferInstanceAs (Decidable ((a : Int × Txt × Int × Int × Txt × Txt × Unit) = b))
theorem sameD (a b : Deal) : (sameI a.1 b.1 && (sameS a.2.1 b.2.1 && (sameI a.2.2.1 b.2.2.1 && (sameI a.2.2.2.1 b.2.2.2.1 && (sameS a.2.2.2.2.1 b.2.2.2.2.1 && (sameS a.2.2.2.2.2.1 b.2.2.2.2.2.1 && true)))))) = decide (a = b) := by
  obtain ⟨a1, a2, a3, a4, a5, a6, ⟨⟩⟩ := a
  obtain ⟨b1, b2, b3, b4, b5, b6, ⟨⟩⟩ := b
  simp only [sameI, sameS]
  by_cases h : (a1, a2, a3, a4, a5, a6, ()) = (b1, b2, b3, b4, b5, b6, ())
  · rw [decide_eq_true h]
    simp only [Prod.mk.injEq] at h
    obtain ⟨h1, h2, h3, h4, h5, h6, _⟩ := h
    simp [h1, h2, h3, h4, h5, h6]
  · rw [decide_eq_false h]
    simp only [Prod.mk.injEq, and_true] at h
    by_cases h1 : a1 = b1 <;> by_cases h2 : a2 = b2 <;> by_cases h3 : a3 = b3 <;> by_cases h4 : a4 = b4 <;> by_cases h5 : a5 = b5 <;> by_cases h6 : a6 = b6 <;> simp [h1, h2, h3, h4, h5, h6] <;> exact h ⟨h1, h2, h3, h4, h5, h6⟩
end Go.Proofs.YtjgnpmdbkgeakaaDoor.G
end
section
set_option linter.unusedVariables false
set_option linter.unusedSimpArgs false
set_option maxRecDepth 100000
namespace Go.Proofs.YtjgnpmdbkgeakaaDoor.G
open Go Go.Proofs.YtjgnpmdbkgeakaaDoor Th
abbrev Entry := Key × Int × Txt × Int × Txt × Int × Int × Unit
set_option synthInstance.maxSize 4000 in
set_option synthInstance.maxHeartbeats 400000 in
instance decE : DecidableEq Entry := fun a b => inferInstanceAs (Decidable ((a : (Int × Txt × Unit) × Int × Txt × Int × Txt × Int × Int × Unit) = b))
end Go.Proofs.YtjgnpmdbkgeakaaDoor.G
end
section
set_option linter.unusedVariables false
set_option linter.unusedSimpArgs false
namespace Go.Proofs.YtjgnpmdbkgeakaaDoor.Ins132
open Go Go.RowKit Go.Shelf Go.Lib Go.Proofs Go.Proofs.YtjgnpmdbkgeakaaDoor Th
theorem run_cpy {P : Program} (w : World) (t ty e : TypeId) (i : TypeInfo) (ht : P.underlying t = some (.slice e)) (hi : P.info? e = some i) {b : Nat} {us : Array Value} {e0 : TypeId} {fr : Nat × Nat} (hr : w.heap[b]? = some (.cells us e0 fr)) (hth : Thawed fr us.size)
    (o dLen dCap : Nat) (a : Addr) (sLen sCap : Nat) (cs : List Value) (hn : cs.length = Nat.min sLen dLen * i.size) (hsrc : ∀ j v, cs[j]? = some v → w.cell? (a.add j) = some v) (h1 : ∀ v ∈ cs, v.oneCell' = true) (hfit : o + cs.length ≤ us.size) :
    (Builtin.copy_ #[t, t] ty #[.slice (some ⟨b, o, none⟩) dLen dCap, .slice (some a) sLen sCap]).run P w = .ok (goInt (Nat.min sLen dLen)) (w.setRow b (over us.toList o cs).toArray) := by
  have hfc := run_firstCells_some (P := P) w i.size (Nat.min sLen dLen) a sLen sCap cs hn hsrc
  have hst := run_storeRow (P := P) cs o 0 w us hr hth (by simpa using hfit) h1
  simp only [Nat.add_zero] at hst
  simp [Builtin.copy_, run_underlying ht, sizeOf, typeInfo, hi, Builtin.lenOf, hfc, hst]
theorem run_ovl {P : Program} (w : World) (tS tR e : TypeId) (ht : P.underlying tS = some (.slice e)) (size : Nat) (hz : ∀ w, (Go.sizeOf e).run P w = .ok size w)
    (a b : Addr) (la ca lb cb : Nat) (hne : a.block ≠ b.block) (tA tB : TypeId) (kA kB : Nat) (hsa : w.shape? a.block = some (tA, kA)) (hsb : w.shape? b.block = some (tB, kB)) (hkA : kA ≠ 0) (hkB : kB ≠ 0)
    (hfb : w.frozen? b = false) (hfe : w.frozen? { block := b.block, off := kB } = false) :
    (Extern.SlicesOverlaps.overlaps #[tS, tS] #[tR] #[.slice (some a) la ca, .slice (some b) lb cb]).run P w = .ok (.bool false) w := by
  have hnb : (a.block != b.block) = true := by simpa using hne
  have hnb' : (a.block == b.block) = false := by simpa using hne
  change Sem.run P (α := Value) (do
    let some t := (#[tS, tS] : Array TypeId)[0]? | stuck "slices.overlaps: no parameter types"
    let .slice elem ← underlying t | stuck "slices.overlaps: slice type expected"
    let size ← sizeOf elem
    match (some a : Option Addr), (some b : Option Addr) with
    | some a, some b =>
      if la = 0 ∨ lb = 0 ∨ size = 0 then pure (Value.bool false)
      else if a.block != b.block && (← frozen a) && (← frozen b) then unsupported .addressObserved
      else do
        if a.block != b.block then do
          noView a; noView b
          if ← mayBeOne a b then return Value.bool ((← choose (.extern "sameAddr.stringBytes" 2)) == 1)
        pure (Value.bool (a.block == b.block && a.off < b.off + lb * size && b.off < a.off + la * size))
    | _, _ => pure (Value.bool false)) w = _
  by_cases h0 : la = 0 ∨ lb = 0 ∨ size = 0
  · simp [run_underlying ht, hz, h0]
  · cases kB with
    | zero => exact absurd rfl hkB
    | succ kB =>
      cases kA with
      | zero => exact absurd rfl hkA
      | succ kA =>
        cases hfa : w.frozen? a <;> cases hfd : w.frozen? { block := a.block, off := kA + 1 } <;> simp [run_underlying ht, hz, h0, hnb, hnb', frozen, noView, viewAt, mayBeOne, stringish, shape, Sem.run, hsa, hsb, hfb, hfe, hfa, hfd]
theorem step_copy_run {P : Program} {ops : Array Oper} {o : Oper} {a : Act} {w : World} {K : Act → World → Prop} {Q : Exit → Act → World → Prop} {E : Prop}
    (hg : o.guard = none) (d x : Operand) (dT sT : TypeId) (hop : o.op = Op.call { callee := Callee.builtin Builtin.copy, args := #[d, x], argTypes := #[dT, sT] })
    (v u : Value) (hd : a.eval d = v) (hx : a.eval x = u) {v' : Value} {w' : World} (hr : (Builtin.copy_ #[dT, sT] o.type #[v, u]).run P w = .ok v' w') (hK : K (a.put o.dst v') w') :
    if Region.wanted o (yielded ops a.tmps) = true then Oper.wp P o a w K Q else E := by
  have hw : Region.wanted o (yielded ops a.tmps) = true := by simp [Region.wanted, hg]
  rw [if_pos hw]
  unfold Oper.wp
  simp [execOp, hop, resolve, invoke, builtin, hd, hx, hr, Result.andThen]
  exact hK
theorem wpList_cpy_run {P : Program} (w : World) {ops : Array Oper} {rest : List Oper} {o : Oper} {a : Act} {Q : Exit → Act → World → Prop} (hg : o.guard = none) (x y : Operand) (t u : TypeId) (hop : o.op = .call { callee := .builtin .copy, args := #[x, y], argTypes := #[t, u] })
    (vx vy : Value) (hx : a.eval x = vx) (hy : a.eval y = vy) (v : Value) (w' : World) (hrun : (Builtin.copy_ #[t, u] o.type #[vx, vy]).run P w = .ok v w') (h : wpList P ops Q rest (a.put o.dst v) w') : wpList P ops Q (o :: rest) a w := by
  refine wpList_plain hg fun K hK' => ?_
  unfold Oper.wp
  simp [execOp, hop, resolve, invoke, builtin, hx, hy, hrun, Result.andThen]
  exact hK' _ _ h
structure Arg (w : World) (a : Addr) (vs : List Value) : Prop where
  cells : ∀ t v, vs[t]? = some v → w.cell? (a.add t) = some v
  len : vs.length = 8
  one : ∀ v ∈ vs, v.oneCell' = true
  lt : a.block < w.heap.size
structure More (us us' : Array Value) (vs : List Value) (i n : Nat) : Prop where
  pre : ∀ x, x < i * 8 → us'[x]? = us[x]?
  at_ : ∀ t v, vs[t]? = some v → us'[i * 8 + t]? = some v
  post : ∀ x, x < (n - i) * 8 → us'[(i + 1) * 8 + x]? = us[i * 8 + x]?
theorem arg_shape {w : World} {a : Addr} {vs : List Value} (h : Arg w a vs) : ∃ tA kA, w.shape? a.block = some (tA, kA) ∧ kA ≠ 0 := by
  have h0 : 0 < vs.length := by rw [h.len]; decide
  have hc : w.cell? a = some vs[0] := by simpa [Addr.add] using h.cells 0 vs[0] (List.getElem?_eq_getElem h0)
  clear h
  obtain ⟨k, o, sp⟩ := a
  simp only [World.cell?] at hc
  unfold World.shape?
  simp only []
  cases hh : w.heap[k]? with
  | none => rw [hh] at hc; cases hc
  | some ob =>
    rw [hh] at hc
    cases ob with
    | cells us e fr =>
      refine ⟨e, us.size, rfl, fun h0 => ?_⟩
      have : us = #[] := Array.eq_empty_of_size_eq_zero h0
      subst this
      simp at hc
    | _ => cases hc
section
variable {i0 : TypeInfo} {z : Value}
set_option maxHeartbeats 4000000 in
set_option maxRecDepth 100000 in
theorem walk_fit (hi0 : Tryd.prog.info? 54 = some i0) (hs0 : i0.size = 8) (b n cap : Nat) (us : Array Value) (e0 : TypeId) (w : World) (hr : w.heap[b]? = some (.cells us e0 (0, 0))) (hcap : n + 1 ≤ cap) (hus : cap * 8 ≤ us.size)
    (av : Addr) (vc : Nat) (vs : List Value) (hA : Arg w av vs) : Calls Tryd.prog 132 #[.slice (some ⟨b, 0, none⟩) n cap, .int .i64 n, .slice (some av) 1 vc] w fun e w' => e = .returned (.slice (some ⟨b, 0, none⟩) (n + 1) cap) ∧
      (∀ B : Bd, B.mine b → BelowB B w w') ∧ ∃ us', w'.heap[b]? = some (.cells us' e0 (0, 0)) ∧ us'.size = us.size ∧ More us us' vs n n := by
  have hts : Tryd.prog.underlying 71 = some (.slice 54) := by kernel_rfl
  have mixed : Tryd.prog.follows .mixedOrders = true := rfl
  have hfit : n * 8 + vs.length ≤ us.toList.length := by rw [hA.len, Array.length_toList]; omega
  obtain ⟨us1, hus1⟩ : ∃ us1, us1 = (over us.toList (n * 8) vs).toArray := ⟨_, rfl⟩
  have hsz1 : us1.size = us.size := by rw [hus1, List.size_toArray, over_len hfit, Array.length_toList]
  obtain ⟨W1, hW1⟩ : ∃ W1, W1 = w.setRow b us1 := ⟨_, rfl⟩
  have happ : ∀ ty, (Builtin.append_ #[71, 71] ty #[.slice (some ⟨b, 0, none⟩) n cap, .slice (some av) 1 vc]).run Tryd.prog w = .ok (.slice (some ⟨b, 0, none⟩) (n + 1) cap) W1 := fun ty => by
    have hfc := run_firstCells_some (P := Tryd.prog) w i0.size 1 av 1 vc vs (by rw [hA.len, hs0]) hA.cells
    have hst := run_storeRow (P := Tryd.prog) vs (n * 8) 0 w us hr (thawed0 _) (by rw [Array.length_toList] at hfit; simpa using hfit) hA.one
    simp only [Nat.add_zero] at hst
    rw [hs0] at hfc
    rw [hW1, hus1]
    simp [Builtin.append_, run_underlying hts, sizeOf, typeInfo, hi0, hs0, Builtin.lenOf, hcap, hfc, Addr.add_lit, hst]
  have hr1 : W1.heap[b]? = some (.cells us1 e0 (0, 0)) := by rw [hW1]; exact setRow_heap w b us us1 e0 (0, 0) hr
  have hpost : Aside ((∀ B : Bd, B.mine b → BelowB B w W1) ∧ ∃ us', W1.heap[b]? = some (.cells us' e0 (0, 0)) ∧ us'.size = us.size ∧ More us us' vs n n) := by
    refine ⟨fun B hB => by rw [hW1]; exact Th.below_setRow hB us1, us1, hr1, hsz1, ⟨fun x hx => ?_, fun t v hv => ?_, fun x hx => by omega⟩⟩
    · rw [hus1, List.getElem?_toArray, over_get hfit, if_pos hx, Array.getElem?_toList]
    · have ht := (List.getElem?_eq_some_iff.1 hv).1
      rw [hus1, List.getElem?_toArray, over_get hfit, if_neg (by omega), if_pos (by omega), show n * 8 + t - n * 8 = t by omega, hv]
  clear hr1 hW1 hus1 hfit hsz1 hr hA
  go_enter Tryd.func132, Tryd.ntmps132
  go_wp2_with (at_builtin; refine Lib.wpList_append_run _ rfl _ _ _ _ rfl _ _ rfl rfl _ _ (happ _) ?_)
  all_goals (go_ret; exact ⟨rfl, hpost⟩)
set_option maxHeartbeats 4000000 in
set_option maxRecDepth 100000 in
theorem walk_new {ei : TInfo} {d : TypeDesc} (E : TypeIs Tryd.prog 54 ei i0 d z) (hsz : ei.size = 8) (hby : 0 < ei.bytes) (ad : Option Addr) (n cap : Nat) (had : (ad = none ∧ n = 0 ∧ cap = 0) ∨ ∃ b, ad = some ⟨b, 0, none⟩) (olds : List Value) (w : World)
    (hold : ∀ w' : World, w'.heap = w.heap → (Builtin.firstCells ei.size n (.slice ad n cap)).run Tryd.prog w' = .ok olds.toArray w') (hol : olds.length = n * 8) (hnc : n ≤ cap) (hg : ¬ n + 1 ≤ cap) (hb : (n + 1) * ei.bytes ≤ 140737488355328)
    (av : Addr) (vc : Nat) (vs : List Value) (hA : Arg w av vs) : Calls Tryd.prog 132 #[.slice ad n cap, .int .i64 n, .slice (some av) 1 vc] w fun e w' => ∃ G us', e = .returned (.slice (some ⟨w.heap.size, 0, none⟩) (n + 1) G) ∧
      Below w.heap.size w w' ∧ n + 1 ≤ G ∧ w'.heap[w.heap.size]? = some (.cells us' 54 (0, 0)) ∧ G * 8 ≤ us'.size ∧ More olds.toArray us' vs n n := by
  have hts : Tryd.prog.underlying 71 = some (.slice 54) := by kernel_rfl
  have mixed : Tryd.prog.follows .mixedOrders = true := rfl
  have hS : Th.Src Tryd.prog w 71 (.slice (some av) 1 vc) ei.size 1 vs := ⟨⟨_, hts, fun k h => by cases h⟩, fun w' => by simp [Builtin.lenOf], fun w' hw' => run_firstCells_some w' ei.size 1 av 1 vc vs (by rw [hA.len, hsz]) (fun j v hj => by rw [cell_same_heap hw']; exact hA.cells j v hj), by rw [hA.len, hsz], hA.one⟩
  have happ := fun ty => Th.run_append_new (ty := ty) E hts hS hold hg hb hby
  obtain ⟨G, hG⟩ : ∃ G, G = grownCap w (n + 1) cap 54 := ⟨_, rfl⟩
  have hGn : n + 1 ≤ G := by rw [hG]; exact grownCap_ge w _ _ _
  obtain ⟨us1, hus1⟩ : ∃ us1, us1 = olds.toArray ++ vs.toArray ++ Builtin.zeroCells z.cells (G - (n + 1)) := ⟨_, rfl⟩
  rw [← hG, ← hus1] at happ
  have hzsz : z.cells.size = 8 := by have := (z0s_LR (w := w) (g := ⟨fun _ _ => False, fun _ => none, fun _ => none⟩) E.zrel).len; have := E.zlen; simp at *; omega
  obtain ⟨W1, hW1⟩ : ∃ W1, W1 = w.drew.alloc (.cells us1 54) := ⟨_, rfl⟩
  rw [← hW1] at happ
  have hpost : Aside (∃ G' us', Ending.returned (.slice (some ⟨w.heap.size, 0, none⟩) (n + 1) G) = .returned (.slice (some ⟨w.heap.size, 0, none⟩) (n + 1) G') ∧ Below w.heap.size w W1 ∧ n + 1 ≤ G' ∧ W1.heap[w.heap.size]? = some (.cells us' 54 (0, 0)) ∧ G' * 8 ≤ us'.size ∧ More olds.toArray us' vs n n) := by
    refine ⟨G, us1, rfl, ?_, hGn, ?_, ?_, ⟨fun x hx => ?_, fun t v hv => ?_, fun x hx => by omega⟩⟩
    · rw [hW1]; exact ((Below.refl _ w).drew).alloc (Nat.le_refl _) _
    · rw [hW1]; exact alloc_new w.drew _
    · rw [hus1, Array.size_append, Array.size_append, size_zeroCells, hzsz, List.size_toArray, List.size_toArray, hol, hA.len]; omega
    · rw [hus1, Array.getElem?_append_left (by rw [Array.size_append, List.size_toArray, List.size_toArray]; omega), Array.getElem?_append_left (by rw [List.size_toArray]; omega)]
    · have ht := (List.getElem?_eq_some_iff.1 hv).1
      rw [hus1, Array.getElem?_append_left (by rw [Array.size_append, List.size_toArray, List.size_toArray]; omega), Array.getElem?_append_right (by rw [List.size_toArray]; omega), List.size_toArray, hol, show n * 8 + t - n * 8 = t by omega, List.getElem?_toArray, hv]
  clear hW1 hus1 hG hold hS
  rcases had with ⟨rfl, rfl, rfl⟩ | ⟨b, rfl⟩
  · clear hA
    go_enter Tryd.func132, Tryd.ntmps132
    go_wp2_with (at_builtin; refine Lib.wpList_append_run _ rfl _ _ _ _ rfl _ _ rfl rfl _ _ (happ _) ?_)
    all_goals (go_ret; exact hpost)
  · clear hA
    go_enter Tryd.func132, Tryd.ntmps132
    go_wp2_with (at_builtin; refine Lib.wpList_append_run _ rfl _ _ _ _ rfl _ _ rfl rfl _ _ (happ _) ?_)
    all_goals (go_ret; exact hpost)
set_option maxHeartbeats 4000000 in
set_option maxRecDepth 100000 in
theorem walk_shift (hi0 : Tryd.prog.info? 54 = some i0) (hs0 : i0.size = 8) (b n cap i : Nat) (us : Array Value) (e0 : TypeId) (w : World) (hr : w.heap[b]? = some (.cells us e0 (0, 0))) (hin : i < n) (hcap : n + 1 ≤ cap) (hus : cap * 8 ≤ us.size) (hn9 : n ≤ 1000000) (h1 : ∀ x v, x < n * 8 → us[x]? = some v → v.oneCell' = true)
    (av : Addr) (vc : Nat) (vs : List Value) (hA : Arg w av vs) (hne : av.block ≠ b) : Calls Tryd.prog 132 #[.slice (some ⟨b, 0, none⟩) n cap, .int .i64 i, .slice (some av) 1 vc] w fun e w' => e = .returned (.slice (some ⟨b, 0, none⟩) (n + 1) cap) ∧
      (∀ B : Bd, B.mine b → BelowB B w w') ∧ ∃ us', w'.heap[b]? = some (.cells us' e0 (0, 0)) ∧ us'.size = us.size ∧ More us us' vs i n := by
  have hts : Tryd.prog.underlying 71 = some (.slice 54) := by kernel_rfl
  have mixed : Tryd.prog.follows .mixedOrders = true := rfl
  have hnz : (n + 1) * 8 ≤ us.size := Nat.le_trans (Nat.mul_le_mul_right _ hcap) hus
  obtain ⟨tA, kA, hsA, hkA⟩ := arg_shape hA
  have hsB : w.shape? b = some (e0, us.size) := by unfold World.shape?; rw [hr]
  have hov : ∀ lb cb, (callFunc 186 #[.slice (some av) 1 vc, .slice (some ⟨b, (i + 1) * 8, none⟩) lb cb]).run Tryd.prog w = .ok (.value (.bool false)) w := fun lb cb => by
    rw [run_callFunc_extern Tryd.func186 (by kernel_rfl) (by kernel_rfl) (by kernel_rfl) (e := Extern.SlicesOverlaps.overlaps #[71, 71] #[4]) (by kernel_rfl),
      run_ovl w 71 4 54 hts 8 (fun w => by simp [sizeOf, typeInfo, hi0, hs0]) av ⟨b, (i + 1) * 8, none⟩ 1 vc lb cb hne tA e0 kA us.size hsA hsB hkA (by omega) (frozen_of_row w b _ us e0 hr) (frozen_of_row w b _ us e0 hr)]
    rfl
  obtain ⟨cs, hcs⟩ : ∃ cs : List Value, cs = (us.toList.drop (i * 8)).take ((n - i) * 8) := ⟨_, rfl⟩
  have hlen : cs.length = (n - i) * 8 := by rw [hcs, List.length_take, List.length_drop, Array.length_toList]; omega
  have hget : ∀ t u, cs[t]? = some u → t < (n - i) * 8 ∧ us[i * 8 + t]? = some u := fun t u h => by
    have ht := (List.getElem?_eq_some_iff.1 h).1
    rw [hlen] at ht
    rw [hcs, List.getElem?_take, if_pos ht, List.getElem?_drop, Array.getElem?_toList] at h
    exact ⟨ht, h⟩
  have h1c : ∀ u ∈ cs, u.oneCell' = true := fun u hu => by
    obtain ⟨t, ht, rfl⟩ := List.getElem_of_mem hu
    obtain ⟨q1, q2⟩ := hget t _ (List.getElem?_eq_getElem ht)
    exact h1 _ _ (by omega) q2
  have hfit : (i + 1) * 8 + cs.length ≤ us.toList.length := by rw [hlen, Array.length_toList]; omega
  obtain ⟨us1, hus1⟩ : ∃ us1, us1 = (over us.toList ((i + 1) * 8) cs).toArray := ⟨_, rfl⟩
  have hsz1 : us1.size = us.size := by rw [hus1, List.size_toArray, over_len hfit, Array.length_toList]
  obtain ⟨W1, hW1⟩ : ∃ W1, W1 = w.drew.setRow b us1 := ⟨_, rfl⟩
  have hr1 : W1.heap[b]? = some (.cells us1 e0 (0, 0)) := by rw [hW1]; exact setRow_heap w.drew b us us1 e0 (0, 0) hr
  have hcp1 : ∀ ty dc sc, (Builtin.copy_ #[71, 71] ty #[.slice (some ⟨b, (i + 1) * 8, none⟩) (n - i) dc, .slice (some ⟨b, i * 8, none⟩) (n + 1 - i) sc]).run Tryd.prog w.drew = .ok (goInt ((n - i : Nat) : Int)) W1 := fun ty dc sc => by
    have hm : Nat.min (n + 1 - i) (n - i) = n - i := by simp only [Nat.min_def]; split <;> omega
    have h := run_cpy (P := Tryd.prog) w.drew 71 ty 54 i0 hts hi0 hr (thawed0 _) ((i + 1) * 8) (n - i) dc ⟨b, i * 8, none⟩ (n + 1 - i) sc cs (by rw [hm, hs0]; exact hlen) (fun j v hj => by
      have hu := (hget j v hj).2
      rw [Addr.add_lit]
      show w.cell? ⟨b, i * 8 + j, none⟩ = some v
      simpa [World.cell?, hr] using hu) h1c (by have := hfit; rw [Array.length_toList] at this; omega)
    rw [hm] at h
    rw [h, hW1, hus1]
  have hfit2 : i * 8 + vs.length ≤ us1.toList.length := by rw [hA.len, Array.length_toList, hsz1]; omega
  obtain ⟨us2, hus2⟩ : ∃ us2, us2 = (over us1.toList (i * 8) vs).toArray := ⟨_, rfl⟩
  have hsz2 : us2.size = us.size := by rw [hus2, List.size_toArray, over_len hfit2, Array.length_toList, hsz1]
  obtain ⟨W2, hW2⟩ : ∃ W2, W2 = W1.setRow b us2 := ⟨_, rfl⟩
  have hr2 : W2.heap[b]? = some (.cells us2 e0 (0, 0)) := by rw [hW2]; exact setRow_heap W1 b us1 us2 e0 (0, 0) hr1
  have hcp2 : ∀ ty dc, (Builtin.copy_ #[71, 71] ty #[.slice (some ⟨b, i * 8, none⟩) (n + 1 - i) dc, .slice (some av) 1 vc]).run Tryd.prog W1 = .ok (goInt 1) W2 := fun ty dc => by
    have hm : Nat.min 1 (n + 1 - i) = 1 := by simp only [Nat.min_def]; split <;> omega
    have h := run_cpy (P := Tryd.prog) W1 71 ty 54 i0 hts hi0 hr1 (thawed0 _) (i * 8) (n + 1 - i) dc av 1 vc vs (by rw [hm, hs0]; exact hA.len) (fun j v hj => by
      have hu := hA.cells j v hj
      have hb : (av.add j).block ≠ b := by unfold Addr.add; split <;> exact hne
      rw [hW1]
      show (w.drew.setRow b us1).cell? _ = _
      simp only [World.cell?, setRow_other w.drew b _ us1 hb]
      exact hu) hA.one (by have := hfit2; rw [Array.length_toList] at this; omega)
    rw [hm] at h
    rw [h, hW2, hus2]
    simp
  have hpost : Aside ((∀ B : Bd, B.mine b → BelowB B w W2) ∧ ∃ us', W2.heap[b]? = some (.cells us' e0 (0, 0)) ∧ us'.size = us.size ∧ More us us' vs i n) := by
    refine ⟨fun B hB => ?_, us2, hr2, hsz2, ⟨fun x hx => ?_, fun t v hv => ?_, fun x hx => ?_⟩⟩
    · rw [hW2, hW1]
      exact ((BelowB.refl B w).drew.trans (Th.below_setRow hB us1)).trans (Th.below_setRow hB us2)
    · rw [hus2, List.getElem?_toArray, over_get hfit2, if_pos (by omega), Array.getElem?_toList, hus1, List.getElem?_toArray, over_get hfit, if_pos (by omega), Array.getElem?_toList]
    · have ht := (List.getElem?_eq_some_iff.1 hv).1
      rw [hus2, List.getElem?_toArray, over_get hfit2, if_neg (by omega), if_pos (by omega), show i * 8 + t - i * 8 = t by omega, hv]
    · rw [hus2, List.getElem?_toArray, over_get hfit2, if_neg (by omega), if_neg (by rw [hA.len]; omega), Array.getElem?_toList, hus1, List.getElem?_toArray, over_get hfit, if_neg (by omega), if_pos (by rw [hlen]; omega), show (i + 1) * 8 + x - (i + 1) * 8 = x by omega, hcs, List.getElem?_take, if_pos hx, List.getElem?_drop, Array.getElem?_toList]
  have q1 : ¬ ((i : Int) = (n : Int)) := by omega
  have q2 : ¬ (((n : Int) + 1) > (cap : Int)) := by omega
  have q3 : IntKind.i64.wrap ((n : Int) + 1) = (n : Int) + 1 := by rw [IntKind.wrap_i64]; omega
  have q4 : IntKind.i64.wrap ((i : Int) + 1) = (i : Int) + 1 := by rw [IntKind.wrap_i64]; omega
  have q5 : ((i : Int) + 1).toNat = i + 1 := by omega
  have q6 : ((n : Int) + 1).toNat = n + 1 := by omega
  have q7 : ¬ (cap = i + 1) := by omega
  have q8 : ¬ (cap = i) := by omega
  have q9 : (0 : Int) ≤ (i : Int) + 1 := by omega
  have q10 : (0 : Int) ≤ (n : Int) + 1 := by omega
  have q11 : (n : Int) + 1 ≤ (cap : Int) := by omega
  have q12 : (i : Int) + 1 ≤ (n : Int) + 1 := by omega
  have q13 : (i : Int) ≤ (n : Int) + 1 := by omega
  clear hr1 hr2 hW1 hW2 hus1 hus2 hfit hfit2 hsz1 hsz2 hlen hget hcs h1c hr h1 hsB hsA hA
  go_enter Tryd.func132, Tryd.ntmps132
  go_wp2_with (simp only [hov])
  go_region_law_o (refine step_copy_run rfl _ _ 71 71 rfl _ _ (by simp [Act.eval, Act.put]) (by simp [Act.eval, Act.put]) (hcp1 _ _ _) ?_)
  go_wp2_with (at_builtin; refine wpList_cpy_run _ rfl _ _ 71 71 rfl _ _ rfl rfl _ _ (hcp2 _ _) ?_)
  go_ret
  exact ⟨rfl, hpost⟩
set_option maxHeartbeats 4000000 in
set_option maxRecDepth 100000 in
theorem walk_grow {ei : TInfo} {d : TypeDesc} (E : TypeIs Tryd.prog 54 ei i0 d z) (hsz : ei.size = 8) (b n cap i : Nat) (us : Array Value) (e0 : TypeId) (fr : Nat × Nat) (w : World) (hr : w.heap[b]? = some (.cells us e0 fr)) (hin : i < n) (hnc : n ≤ cap) (hcap : ¬ n + 1 ≤ cap) (hus : cap * 8 ≤ us.size) (hn9 : n ≤ 1000000) (hb : (n + 1) * ei.bytes ≤ 140737488355328) (h1 : ∀ x v, x < n * 8 → us[x]? = some v → v.oneCell' = true)
    (av : Addr) (vc : Nat) (vs : List Value) (hA : Arg w av vs) : Calls Tryd.prog 132 #[.slice (some ⟨b, 0, none⟩) n cap, .int .i64 i, .slice (some av) 1 vc] w fun e w' => ∃ G us', e = .returned (.slice (some ⟨w.heap.size, 0, none⟩) (n + 1) G) ∧
      Below w.heap.size w w' ∧ n + 1 ≤ G ∧ w'.heap[w.heap.size]? = some (.cells us' 54 (0, 0)) ∧ G * 8 ≤ us'.size ∧ More us us' vs i n := by
  have hts : Tryd.prog.underlying 71 = some (.slice 54) := by kernel_rfl
  have hti : Tryd.prog.underlying 3 = some (.int .i64) := by kernel_rfl
  have mixed : Tryd.prog.follows .mixedOrders = true := rfl
  have hs0 : i0.size = 8 := by rw [E.size, hsz]
  have hi0 := E.info
  have hbw : b < w.heap.size := (Array.getElem?_eq_some_iff.1 hr).1
  have hnz : n * 8 ≤ us.size := Nat.le_trans (Nat.mul_le_mul_right _ hnc) hus
  have hzsz : z.cells.size = 8 := by have := (z0s_LR (w := w) (g := ⟨fun _ _ => False, fun _ => none, fun _ => none⟩) E.zrel).len; have := E.zlen; simp at *; omega
  have hkk : (n : Int) + 1 - (i : Int) = ((n + 1 - i : Nat) : Int) := by omega
  have hik : i + (n + 1 - i) = n + 1 := by omega
  have hol : (us.toList.take (i * 8)).length = i * 8 := by rw [List.length_take, Array.length_toList]; omega
  have hold : (Builtin.firstCells i0.size i (.slice (some ⟨b, 0, none⟩) i cap)).run Tryd.prog w.drew = .ok (us.toList.take (i * 8)).toArray w.drew := by
    rw [hs0]
    exact run_firstCells_some w.drew 8 i ⟨b, 0, none⟩ i cap _ hol (fun j v hj => by
      rw [Addr.add_lit]
      rw [List.getElem?_take] at hj
      split at hj
      · show w.cell? ⟨b, 0 + j, none⟩ = some v
        simpa [World.cell?, hr] using hj
      · cases hj)
  obtain ⟨G, hG⟩ : ∃ G, G = grownCap w (n + 1) cap 54 := ⟨_, rfl⟩
  have hGn : n + 1 ≤ G := by rw [hG]; exact grownCap_ge w _ _ _
  obtain ⟨us0, hus0⟩ : ∃ us0, us0 = (us.toList.take (i * 8)).toArray ++ Builtin.zeroCells z.cells (n + 1 - i) ++ Builtin.zeroCells z.cells (G - (n + 1)) := ⟨_, rfl⟩
  have hsz0 : us0.size = G * 8 := by rw [hus0, Array.size_append, Array.size_append, size_zeroCells, size_zeroCells, hzsz, List.size_toArray, hol]; omega
  obtain ⟨W0, hW0⟩ : ∃ W0, W0 = w.drew.alloc (.cells us0 54) := ⟨_, rfl⟩
  have hrz : ∀ ty, (Builtin.append_ #[71, 3] ty #[.slice (some ⟨b, 0, none⟩) i cap, .int .i64 ((n : Int) + 1 - (i : Int))]).run Tryd.prog w = .ok (.slice (some ⟨w.heap.size, 0, none⟩) (n + 1) G) W0 := fun ty => by
    have h := Lib.run_append_grow_zeros w 71 3 ty 54 i0 z .i64 .i64 hts hti hi0 E.zero (some ⟨b, 0, none⟩) i cap (us.toList.take (i * 8)) hold (n + 1 - i) (by omega) (by omega) (by omega) (by omega)
      (by rw [E.bytes]; have : (n + 1 - i) * ei.bytes ≤ (n + 1) * ei.bytes := Nat.mul_le_mul_right _ (by omega)
          omega) (by rw [E.bytes, hik]; exact growslice_fits (by omega) hb)
    rw [hik, ← hG, ← hus0, ← hW0] at h
    rw [hkk]
    exact h
  have hB0 : Below w.heap.size w W0 := by rw [hW0]; exact ((Below.refl _ w).drew).alloc (Nat.le_refl _) _
  have hr0 : W0.heap[w.heap.size]? = some (.cells us0 54 (0, 0)) := by rw [hW0]; exact alloc_new w.drew _
  have hfit1 : i * 8 + vs.length ≤ us0.toList.length := by rw [hA.len, Array.length_toList, hsz0]; omega
  obtain ⟨us1, hus1⟩ : ∃ us1, us1 = (over us0.toList (i * 8) vs).toArray := ⟨_, rfl⟩
  have hsz1 : us1.size = G * 8 := by rw [hus1, List.size_toArray, over_len hfit1, Array.length_toList, hsz0]
  obtain ⟨W1, hW1⟩ : ∃ W1, W1 = W0.setRow w.heap.size us1 := ⟨_, rfl⟩
  have hr1 : W1.heap[w.heap.size]? = some (.cells us1 54 (0, 0)) := by rw [hW1]; exact setRow_heap W0 _ us0 us1 54 (0, 0) hr0
  have hcp1 : ∀ ty dc, (Builtin.copy_ #[71, 71] ty #[.slice (some ⟨w.heap.size, i * 8, none⟩) (n + 1 - i) dc, .slice (some av) 1 vc]).run Tryd.prog W0 = .ok (goInt 1) W1 := fun ty dc => by
    have hm : Nat.min 1 (n + 1 - i) = 1 := by simp only [Nat.min_def]; split <;> omega
    have h := run_cpy (P := Tryd.prog) W0 71 ty 54 i0 hts hi0 hr0 (thawed0 _) (i * 8) (n + 1 - i) dc av 1 vc vs (by rw [hm, hs0]; exact hA.len) (fun j v hj => by
      have hu := hA.cells j v hj
      have hb : (av.add j).block < w.heap.size := by unfold Addr.add; split <;> exact hA.lt
      rw [← hu]
      simp only [World.cell?, hB0.block _ hb]) hA.one (by have := hfit1; rw [Array.length_toList] at this; omega)
    rw [hm] at h
    rw [h, hW1, hus1]
    simp
  obtain ⟨cs, hcs⟩ : ∃ cs : List Value, cs = (us.toList.drop (i * 8)).take ((n - i) * 8) := ⟨_, rfl⟩
  have hlen : cs.length = (n - i) * 8 := by rw [hcs, List.length_take, List.length_drop, Array.length_toList]; omega
  have hget : ∀ t u, cs[t]? = some u → t < (n - i) * 8 ∧ us[i * 8 + t]? = some u := fun t u h => by
    have ht := (List.getElem?_eq_some_iff.1 h).1
    rw [hlen] at ht
    rw [hcs, List.getElem?_take, if_pos ht, List.getElem?_drop, Array.getElem?_toList] at h
    exact ⟨ht, h⟩
  have h1c : ∀ u ∈ cs, u.oneCell' = true := fun u hu => by
    obtain ⟨t, ht, rfl⟩ := List.getElem_of_mem hu
    obtain ⟨q1, q2⟩ := hget t _ (List.getElem?_eq_getElem ht)
    exact h1 _ _ (by omega) q2
  have hfit2 : (i + 1) * 8 + cs.length ≤ us1.toList.length := by rw [hlen, Array.length_toList, hsz1]; omega
  obtain ⟨us2, hus2⟩ : ∃ us2, us2 = (over us1.toList ((i + 1) * 8) cs).toArray := ⟨_, rfl⟩
  have hsz2 : us2.size = G * 8 := by rw [hus2, List.size_toArray, over_len hfit2, Array.length_toList, hsz1]
  obtain ⟨W2, hW2⟩ : ∃ W2, W2 = W1.drew.setRow w.heap.size us2 := ⟨_, rfl⟩
  have hr2 : W2.heap[w.heap.size]? = some (.cells us2 54 (0, 0)) := by rw [hW2]; exact setRow_heap W1.drew _ us1 us2 54 (0, 0) hr1
  have hob : W1.heap[b]? = some (.cells us e0 fr) := by rw [hW1, setRow_other W0 _ b us1 (by omega), hB0.block b hbw]; exact hr
  have hcp2 : ∀ ty dc sc, (Builtin.copy_ #[71, 71] ty #[.slice (some ⟨w.heap.size, (i + 1) * 8, none⟩) (n - i) dc, .slice (some ⟨b, i * 8, none⟩) (n - i) sc]).run Tryd.prog W1.drew = .ok (goInt ((n - i : Nat) : Int)) W2 := fun ty dc sc => by
    have hm : Nat.min (n - i) (n - i) = n - i := Nat.min_self _
    have h := run_cpy (P := Tryd.prog) W1.drew 71 ty 54 i0 hts hi0 hr1 (thawed0 _) ((i + 1) * 8) (n - i) dc ⟨b, i * 8, none⟩ (n - i) sc cs (by rw [hm, hs0]; exact hlen) (fun j v hj => by
      have hu := (hget j v hj).2
      rw [Addr.add_lit]
      show W1.cell? ⟨b, i * 8 + j, none⟩ = some v
      simpa [World.cell?, hob] using hu) h1c (by have := hfit2; rw [Array.length_toList] at this; omega)
    rw [hm] at h
    rw [h, hW2, hus2]
  have hpost : Aside (∃ G' us', Ending.returned (.slice (some ⟨w.heap.size, 0, none⟩) (n + 1) G) = .returned (.slice (some ⟨w.heap.size, 0, none⟩) (n + 1) G') ∧ Below w.heap.size w W2 ∧ n + 1 ≤ G' ∧ W2.heap[w.heap.size]? = some (.cells us' 54 (0, 0)) ∧ G' * 8 ≤ us'.size ∧ More us us' vs i n) := by
    refine ⟨G, us2, rfl, ?_, hGn, hr2, by omega, ⟨fun x hx => ?_, fun t v hv => ?_, fun x hx => ?_⟩⟩
    · rw [hW2, hW1]
      have b1 : Below w.heap.size W0 (W0.setRow w.heap.size us1) := ⟨rfl, rfl, rfl, by simp [World.setRow], fun k hk => setRow_other W0 w.heap.size k us1 (by omega)⟩
      have b2 : Below w.heap.size (W0.setRow w.heap.size us1) ((W0.setRow w.heap.size us1).drew.setRow w.heap.size us2) := ⟨rfl, rfl, rfl, by simp [World.setRow], fun k hk => setRow_other _ w.heap.size k us2 (by omega)⟩
      exact (hB0.trans b1).trans b2
    · rw [hus2, List.getElem?_toArray, over_get hfit2, if_pos (by omega), Array.getElem?_toList, hus1, List.getElem?_toArray, over_get hfit1, if_pos (by omega), Array.getElem?_toList, hus0, Array.getElem?_append_left (by rw [Array.size_append, List.size_toArray, hol]; omega), Array.getElem?_append_left (by rw [List.size_toArray, hol]; omega), List.getElem?_toArray, List.getElem?_take, if_pos hx, Array.getElem?_toList]
    · have ht := (List.getElem?_eq_some_iff.1 hv).1
      have hvl := hA.len
      rw [hus2, List.getElem?_toArray, over_get hfit2, if_pos (by omega), Array.getElem?_toList, hus1, List.getElem?_toArray, over_get hfit1, if_neg (by omega), if_pos (by omega), show i * 8 + t - i * 8 = t by omega, hv]
    · rw [hus2, List.getElem?_toArray, over_get hfit2, if_neg (by omega), if_pos (by rw [hlen]; omega), show (i + 1) * 8 + x - (i + 1) * 8 = x by omega, hcs, List.getElem?_take, if_pos hx, List.getElem?_drop, Array.getElem?_toList]
  have q1 : ¬ ((i : Int) = (n : Int)) := by omega
  have q2 : ((n : Int) + 1) > (cap : Int) := by omega
  have q2b : (cap : Int) < (n : Int) + 1 := by omega
  have q3 : IntKind.i64.wrap ((n : Int) + 1) = (n : Int) + 1 := by rw [IntKind.wrap_i64]; omega
  have q3b : IntKind.i64.wrap ((n : Int) + 1 - (i : Int)) = (n : Int) + 1 - (i : Int) := by rw [IntKind.wrap_i64]; omega
  have q4 : IntKind.i64.wrap ((i : Int) + 1) = (i : Int) + 1 := by rw [IntKind.wrap_i64]; omega
  have q5 : ((i : Int) + 1).toNat = i + 1 := by omega
  have q7 : ¬ (G = i + 1) := by omega
  have q8 : ¬ (G = i) := by omega
  have q8b : ¬ (cap = i) := by omega
  have q9 : (0 : Int) ≤ (i : Int) + 1 := by omega
  have q12 : (i : Int) + 1 ≤ (n : Int) + 1 := by omega
  have q13 : (i : Int) ≤ (n : Int) + 1 := by omega
  have q14 : i ≤ cap := by omega
  have q15 : i ≤ G := by omega
  have q16 : i + 1 ≤ G := by omega
  have q17 : i ≤ n := by omega
  clear hr1 hr2 hr0 hW0 hW1 hW2 hus0 hus1 hus2 hfit1 hfit2 hsz0 hsz1 hsz2 hlen hget hcs h1c hr h1 hA hob hB0 hol hold hG hkk hik
  go_enter Tryd.func132, Tryd.ntmps132
  go_wp2_with (first | (at_builtin; refine Lib.wpList_append_run _ rfl _ _ _ _ rfl _ _ rfl rfl _ _ (hrz _) ?_) | (at_builtin; refine wpList_cpy_run _ rfl _ _ 71 71 rfl _ _ rfl rfl _ _ (hcp1 _ _) ?_))
  go_region_law_o (refine step_copy_run rfl _ _ 71 71 rfl _ _ (by simp [Act.eval, Act.put]) (by simp [Act.eval, Act.put]) (hcp2 _ _ _) ?_)
  go_wp2
  go_ret
  exact hpost
end
theorem rowOf_more {w : World} {pr : Nat → Nat → Prop} {T : Ty} (hT : T.size = 8) {l : List T.den} {us us' : Array Value} {vs : List Value} {x : T.den} {i : Nat} (hi : i ≤ l.length) (h : RowOf w pr T l us) (hv : vs.length = 8) (hx : TR w pr T x vs) (m : More us us' vs i l.length) :
    RowOf w pr T (l.take i ++ [x] ++ l.drop i) us' := by
  intro t y hy
  have hl1 : (l.take i).length = i := by rw [List.length_take]; omega
  rw [hT]
  rcases Nat.lt_trichotomy t i with c | c | c
  · have hy' : l[t]? = some y := by
      rw [List.append_assoc, List.getElem?_append_left (by omega), List.getElem?_take, if_pos c] at hy
      exact hy
    obtain ⟨us1, v1, v2, v3⟩ := h t y hy'
    rw [hT] at v1 v2
    exact ⟨us1, v1, fun a v ha => by
      have ha' := (List.getElem?_eq_some_iff.1 ha).1
      rw [m.pre _ (by omega)]; exact v2 a v ha, v3⟩
  · subst c
    have hy' : y = x := by
      rw [List.append_assoc, List.getElem?_append_right (by omega), hl1, Nat.sub_self] at hy
      cases hy; rfl
    subst hy'
    exact ⟨vs, hv, fun a v ha => m.at_ a v ha, hx⟩
  · have hy' : l[t - 1]? = some y := by
      rw [List.append_assoc, List.getElem?_append_right (by omega), hl1] at hy
      obtain ⟨q, hq⟩ : ∃ q, t - i = q + 1 := ⟨t - i - 1, by omega⟩
      rw [hq, List.singleton_append, List.getElem?_cons_succ, List.getElem?_drop, show i + q = t - 1 by omega] at hy
      exact hy
    have ht := (List.getElem?_eq_some_iff.1 hy').1
    obtain ⟨us1, v1, v2, v3⟩ := h (t - 1) y hy'
    rw [hT] at v1 v2
    exact ⟨us1, v1, fun a v ha => by
      have ha' := (List.getElem?_eq_some_iff.1 ha).1
      have := m.post ((t - 1 - i) * 8 + a) (by omega)
      rw [show (i + 1) * 8 + ((t - 1 - i) * 8 + a) = t * 8 + a by omega, show i * 8 + ((t - 1 - i) * 8 + a) = (t - 1) * 8 + a by omega] at this
      rw [this]; exact v2 a v ha, v3⟩
theorem rowOf_take {w : World} {pr : Nat → Nat → Prop} {T : Ty} (hT : T.size = 8) {l : List T.den} {us : Array Value} (h : RowOf w pr T l us) : RowOf w pr T l (us.toList.take (l.length * 8)).toArray := by
  intro t y hy
  have ht := (List.getElem?_eq_some_iff.1 hy).1
  obtain ⟨us1, v1, v2, v3⟩ := h t y hy
  rw [hT] at v1 v2 ⊢
  exact ⟨us1, v1, fun a v ha => by
    have ha' := (List.getElem?_eq_some_iff.1 ha).1
    rw [List.getElem?_toArray, List.getElem?_take, if_pos (by omega), Array.getElem?_toList]; exact v2 a v ha, v3⟩
theorem calls {ei : TInfo} {d : TypeDesc} {i0 : TypeInfo} {z : Value} (E : TypeIs Tryd.prog 54 ei i0 d z) (hsz : ei.size = 8) (hT8 : ei.ty ≠ .int .u8) (hby0 : 0 < ei.bytes) (hby : ei.bytes ≤ 1000) (l : List ei.ty.den) (i : Int) (x : ei.ty.den) (hi : 0 ≤ i) (hil : i ≤ l.length) (hl : l.length ≤ 1000000) :
    CallOK Tryd.prog 132 [.own ei.ty l, .int .i64 i, .sl ei.ty [x]] (.back (.own ei.ty (l.take i.toNat ++ [x] ++ l.drop i.toNat)) [.lent []]) := by
  refine .inr (.inr ⟨_, _, _, [], rfl, rfl, ⟨_, Tryd.func132, rfl, rfl⟩, fun w pr u0 us b0 hlt hgl hown ha => ?_⟩)
  obtain ⟨u1, u2, rfl⟩ : ∃ u1 u2, us = [u1, u2] := by
    have := ha.len
    match us, this with
    | [u1, u2], _ => exact ⟨u1, u2, rfl⟩
  obtain ⟨p1, p2, _⟩ := ha
  have e1 : u1 = .int .i64 i := by
    rcases p1 with h | ⟨cs, us, h, _⟩
    · exact h
    · cases h
  subst e1
  have hTR : TR w pr (.slice ei.ty) [x] [u2] := by
    rcases p2 with h | ⟨cs, us, h, _⟩
    · exact h
    · cases h
  obtain ⟨ad, vc, e2, hvcap, hel⟩ := hTR
  cases e2
  have hT : ei.ty.size = 8 := by rw [E.tysz, hsz]
  obtain ⟨av, vs, rfl, hvl, hvc, hvx⟩ := hel 0 x rfl
  rw [hT] at hvl
  have hvc' : ∀ t v, vs[t]? = some v → Cell w pr (av.add t) v := fun t v h => by have := hvc t v h; rwa [Nat.zero_mul, Nat.zero_add] at this
  have hv0 : Cell w pr (av.add 0) vs[0] := hvc' 0 vs[0] (List.getElem?_eq_getElem (by rw [hvl]; decide))
  have hab : (av.add 0).block = av.block := by unfold Addr.add; split <;> rfl
  have hA : Arg w av vs := ⟨fun t v h => (hvc' t v h).1, hvl, hvx.one, by have := hlt _ _ hv0.2; rwa [hab] at this⟩
  obtain ⟨m, rfl⟩ : ∃ m : Nat, i = m := ⟨i.toNat, by omega⟩
  have hil : m ≤ l.length := by omega
  have hbig : (l.length + 1) * ei.bytes ≤ 140737488355328 := Nat.le_trans (Nat.mul_le_mul (show l.length + 1 ≤ 1000001 by omega) hby) (by decide)
  simp only [Int.toNat_natCast]
  have hnl : (l.take m ++ [x] ++ l.drop m).length = l.length + 1 := by simp only [List.length_append, List.length_take, List.length_drop, List.length_singleton]; omega
  have pkB : ∀ {w' : World}, Below w.heap.size w w' → PrKeeps w pr w' pr := fun hB k o p => ⟨p, cell_heap (hB.block k (hlt k o p)) o⟩
  -- a new row
  have fresh : ∀ {us : Array Value} {e : Ending} {w' : World}, RowOf w pr ei.ty l us → (∃ G us', e = .returned (.slice (some ⟨w.heap.size, 0, none⟩) (l.length + 1) G) ∧ Below w.heap.size w w' ∧ l.length + 1 ≤ G ∧ w'.heap[w.heap.size]? = some (.cells us' 54 (0, 0)) ∧ G * 8 ≤ us'.size ∧ More us us' vs m l.length) →
      ∃ ru pr', e = .returned ru ∧ BelowB (bdE w.heap.size pr b0) w w' ∧ (∀ k o, ¬ (bdE w.heap.size pr b0).mine k → (pr' k o ↔ pr k o)) ∧ (∀ k o, pr' k o → k < w'.heap.size) ∧ RetE (bdE w.heap.size pr b0) w' pr' u0 b0 (.own ei.ty (l.take m ++ [x] ++ l.drop m)) [] ru := by
    rintro us e w' hrow ⟨G, us', rfl, hB, hG, hr, hsz', hM⟩
    have hs' : w.heap.size < w'.heap.size := (Array.getElem?_eq_some_iff.1 hr).1
    have hno : ∀ o, ¬ pr w.heap.size o := fun o p => by have := hlt _ _ p; omega
    refine ⟨_, pr, rfl, BelowB.of hB, fun _ _ _ => Iff.rfl, fun k o p => Nat.lt_of_lt_of_le (hlt k o p) hB.size, some w.heap.size, ⟨.slice (some ⟨w.heap.size, 0, none⟩) (l.length + 1) G, some w.heap.size, ei.ty.size⟩, ⟨rfl, .inr ⟨w.heap.size, G, by rw [hnl], rfl, ?_⟩⟩, rfl, rfl, fun k hk => by cases hk; exact hs'⟩
    exact ⟨.inl (Nat.le_refl _), by rw [hnl]; exact hG, ⟨us', 54, (0, 0), hr, thawT0 _ _ _, by rw [hT]; exact hsz', (rowOf_more hT hil hrow hvl hvx hM).keeps (pkB hB)⟩, fun o p => absurd p (hno o), (fun h => by cases h), fun _ => hno⟩
  obtain ⟨tg, ⟨hez, hrow⟩, rfl, rfl, hbl⟩ := hown
  rcases hrow with ⟨hv, hb, rfl⟩ | ⟨k, cap, hv, hb, R⟩
  · have h0 : m = 0 := by simpa using hil
    subst h0
    rw [hv]
    refine (walk_new E hsz hby0 none 0 0 (.inl ⟨rfl, rfl, rfl⟩) [] w (fun w' _ => by simp [Builtin.firstCells]) rfl (Nat.le_refl _) (by omega) hbig av vc vs hA).mono fun e w' h => fresh (us := #[]) (fun j y hy => by simp at hy) h
  obtain ⟨us, e0, fr, r1, r2, r3, r4⟩ := R.row
  have hfr : fr = (0, 0) := r2.2 rfl hT8
  subst hfr
  rw [hT] at r3
  have hkw : k < w.heap.size := (Array.getElem?_eq_some_iff.1 r1).1
  have hnz : l.length * 8 ≤ us.size := Nat.le_trans (Nat.mul_le_mul_right _ R.len) r3
  have hone : ∀ y v, y < l.length * 8 → us[y]? = some v → v.oneCell' = true := fun y v hy hyv => by
    have hp : 0 < 8 := by decide
    have hq : y / 8 < l.length := by omega
    obtain ⟨vs, v1, v2, v3⟩ := r4 (y / 8) l[y / 8] (List.getElem?_eq_getElem hq)
    rw [hT] at v1 v2
    have hr : y % 8 < vs.length := by rw [v1]; exact Nat.mod_lt _ hp
    have := v2 (y % 8) vs[y % 8] (List.getElem?_eq_getElem hr)
    rw [show y / 8 * 8 + y % 8 = y by omega, hyv] at this
    cases this
    exact v3.one _ (List.getElem_mem _)
  -- in place
  have same : ∀ {e : Ending} {w' : World}, (e = .returned (.slice (some ⟨k, 0, none⟩) (l.length + 1) cap) ∧ (∀ B : Bd, B.mine k → BelowB B w w') ∧ ∃ us', w'.heap[k]? = some (.cells us' e0 (0, 0)) ∧ us'.size = us.size ∧ More us us' vs m l.length) → l.length + 1 ≤ cap →
      ∃ ru pr', e = .returned ru ∧ BelowB (bdE w.heap.size pr tg.blk) w w' ∧ (∀ k o, ¬ (bdE w.heap.size pr tg.blk).mine k → (pr' k o ↔ pr k o)) ∧ (∀ k o, pr' k o → k < w'.heap.size) ∧ RetE (bdE w.heap.size pr tg.blk) w' pr' tg.val tg.blk (.own ei.ty (l.take m ++ [x] ++ l.drop m)) [] ru := by
    rintro e w' ⟨rfl, hB, us', q1, q2, hM⟩ hroom
    have hBw := hB (bdE w.heap.size pr tg.blk) (.inr hb)
    have hkp : PrKeeps w pr w' pr := fun k' o p => ⟨p, cell_heap (hBw.block k' (fun hm => by
      rcases hm with h | h
      · have := hlt k' o p
        have h : w.heap.size ≤ k' := h
        omega
      · rw [hb] at h
        cases h
        exact R.prno rfl o p)) o⟩
    refine ⟨_, pr, rfl, hBw, fun _ _ _ => Iff.rfl, fun k' o p => Nat.lt_of_lt_of_le (hlt k' o p) hBw.size, some k, ⟨.slice (some ⟨k, 0, none⟩) (l.length + 1) cap, some k, ei.ty.size⟩, ⟨rfl, .inr ⟨k, cap, by rw [hnl], rfl, ?_⟩⟩, rfl, rfl, fun k' hk' => by cases hk'; exact Nat.lt_of_lt_of_le hkw hBw.size⟩
    exact ⟨.inr hb, by rw [hnl]; exact hroom, ⟨us', e0, (0, 0), q1, thawT0 _ _ _, by rw [q2, hT]; exact r3, (rowOf_more hT hil r4 hvl hvx hM).keeps hkp⟩, fun o p => absurd p (R.prno rfl o), (fun h => by cases h), R.prno⟩
  rw [hv]
  have hol : (us.toList.take (l.length * 8)).length = l.length * 8 := by rw [List.length_take, Nat.min_eq_left (by simpa using hnz)]
  by_cases hm : m = l.length
  · by_cases hroom : l.length + 1 ≤ cap
    · subst hm
      refine (walk_fit E.info (by rw [E.size, hsz]) k l.length cap us e0 w r1 hroom r3 av vc vs hA).mono fun e w' h => ?_
      have := same h hroom
      rwa [hv] at this
    · subst hm
      refine (walk_new E hsz hby0 (some ⟨k, 0, none⟩) l.length cap (.inr ⟨k, rfl⟩) (us.toList.take (l.length * 8)) w (fun w' hw' => ?_) hol R.len hroom hbig av vc vs hA).mono fun e w' h => ?_
      · rw [hsz]
        exact run_firstCells_some w' 8 l.length ⟨k, 0, none⟩ l.length cap _ hol (fun j v hj => by
          rw [Addr.add_lit, cell_same_heap hw']
          rw [List.getElem?_take] at hj
          split at hj
          · show w.cell? ⟨k, 0 + j, none⟩ = some v
            simpa [World.cell?, r1] using hj
          · cases hj)
      · have := fresh (rowOf_take hT r4) h
        rwa [hv] at this
  · have hlt' : m < l.length := by omega
    by_cases hroom : l.length + 1 ≤ cap
    · have hne : av.block ≠ k := fun h => by
        have := hv0.2
        rw [hab, h] at this
        exact R.prno rfl _ this
      refine (walk_shift E.info (by rw [E.size, hsz]) k l.length cap m us e0 w r1 hlt' hroom r3 hl hone av vc vs hA hne).mono fun e w' h => ?_
      have := same h hroom
      rwa [hv] at this
    · refine (walk_grow E hsz k l.length cap m us e0 (0, 0) w r1 hlt' R.len hroom r3 hl hbig hone av vc vs hA).mono fun e w' h => ?_
      have := fresh r4 h
      rwa [hv] at this
end Go.Proofs.YtjgnpmdbkgeakaaDoor.Ins132
end
section
set_option linter.unusedVariables false
set_option linter.unusedSimpArgs false
namespace Go.Proofs.YtjgnpmdbkgeakaaDoor.Del135
open Go Go.RowKit Go.Shelf Go.Lib Go.Proofs Go.Proofs.YtjgnpmdbkgeakaaDoor Th
theorem run_app {P : Program} (w : World) (t ty e : TypeId) (i : TypeInfo) (ht : P.underlying t = some (.slice e)) (hi : P.info? e = some i) {b : Nat} {us : Array Value} {e0 : TypeId} {fr : Nat × Nat} (hr : w.heap[b]? = some (.cells us e0 fr)) (hth : Thawed fr us.size)
    (n c : Nat) (a : Addr) (m c' : Nat) (news : List Value) (hl : news.length = m * i.size) (hnews : ∀ j u, news[j]? = some u → w.cell? (a.add j) = some u) (h1 : ∀ u ∈ news, u.oneCell' = true) (hroom : n + m ≤ c) (hfit : n * i.size + news.length ≤ us.size) :
    (Builtin.append_ #[t, t] ty #[.slice (some ⟨b, 0, none⟩) n c, .slice (some a) m c']).run P w = .ok (.slice (some ⟨b, 0, none⟩) (n + m) c) (w.setRow b (over us.toList (n * i.size) news).toArray) := by
  have hfc := run_firstCells_some (P := P) w i.size m a m c' news hl hnews
  have hst := run_storeRow (P := P) news (n * i.size) 0 w us hr hth (by simpa using hfit) h1
  simp only [Nat.add_zero] at hst
  simp [Builtin.append_, run_underlying ht, sizeOf, typeInfo, hi, Builtin.lenOf, hroom, hfc, Addr.add_lit, hst]
theorem zc_mem {z : Array Value} {n : Nat} {v : Value} (h : v ∈ (Builtin.zeroCells z n).toList) : v ∈ z.toList := by
  unfold Builtin.zeroCells at h
  rw [Array.toList_map, List.mem_map] at h
  obtain ⟨i, hi, rfl⟩ := h
  rw [Array.toList_range, List.mem_range] at hi
  have hz : 0 < z.size := by
    rcases Nat.eq_zero_or_pos z.size with h0 | h0
    · rw [h0, Nat.mul_zero] at hi; exact absurd hi (Nat.not_lt_zero _)
    · exact h0
  rw [getElem!_pos z (i % z.size) (Nat.mod_lt _ hz)]
  simp
theorem run_clr {P : Program} (w : World) (t e ty : TypeId) (z : Value) (ht : P.underlying t = some (.slice e)) (hv : ∀ w, (zeroValue e).run P w = .ok z w) (h1 : ∀ v ∈ z.cells.toList, v.oneCell' = true) {b : Nat} {us : Array Value} {e0 : TypeId} {fr : Nat × Nat} (hr : w.heap[b]? = some (.cells us e0 fr)) (hth : Thawed fr us.size)
    (o n c : Nat) (hn : 0 < n) (hfit : o + n * z.cells.size ≤ us.size) :
    (Builtin.clear_ #[t] ty #[.slice (some ⟨b, o, none⟩) n c]).run P w = .ok (.tuple #[]) (w.setRow b (over us.toList o (Builtin.zeroCells z.cells n).toList).toArray) := by
  have hst := run_storeRow (P := P) (Builtin.zeroCells z.cells n).toList o 0 w us hr hth (by simpa [size_zeroCells] using hfit) (fun v hv => h1 v (zc_mem hv))
  simp only [Nat.add_zero] at hst
  obtain ⟨m, rfl⟩ : ∃ m, n = m + 1 := ⟨n - 1, by omega⟩
  simp [Builtin.clear_, run_underlying ht, hv, hst]
theorem step_append_run {P : Program} {ops : Array Oper} {o : Oper} {a : Act} {w : World} {K : Act → World → Prop} {Q : Exit → Act → World → Prop} {E : Prop}
    (hg : o.guard = none) (s x : Operand) (t u : TypeId) (hop : o.op = Op.call { callee := Callee.builtin Builtin.append, args := #[s, x], argTypes := #[t, u] })
    (vs vx : Value) (hs : a.eval s = vs) (hx : a.eval x = vx) {v' : Value} {w' : World} (hr : (Builtin.append_ #[t, u] o.type #[vs, vx]).run P w = .ok v' w') (hK : K (a.put o.dst v') w') :
    if Region.wanted o (yielded ops a.tmps) = true then Oper.wp P o a w K Q else E := by
  have hw : Region.wanted o (yielded ops a.tmps) = true := by simp [Region.wanted, hg]
  rw [if_pos hw]
  unfold Oper.wp
  simp [execOp, hop, resolve, invoke, builtin, hs, hx, hr, Result.andThen]
  exact hK
set_option maxHeartbeats 4000000 in
set_option maxRecDepth 100000 in
theorem walk (i0 : TypeInfo) (z : Value) (hi0 : Tryd.prog.info? 54 = some i0) (hz0 : i0.zero = some z) (hs0 : i0.size = 8) (hzv : ∀ w, (zeroValue 54).run Tryd.prog w = .ok z w) (hz1 : ∀ v ∈ z.cells.toList, v.oneCell' = true) (hzn : z.cells.size = 8)
    (b n cap i j : Nat) (us : Array Value) (e0 : TypeId) (fr : Nat × Nat) (w : World) (hr : w.heap[b]? = some (.cells us e0 fr)) (hth : Thawed fr us.size) (hcap : n ≤ cap) (hus : cap * 8 ≤ us.size) (h1 : ∀ x v, x < n * 8 → us[x]? = some v → v.oneCell' = true)
    (hij : i < j) (hj : j ≤ n) : Calls Tryd.prog 135 #[.slice (some ⟨b, 0, none⟩) n cap, .int .i64 i, .int .i64 j] w fun e w' => e = .returned (.slice (some ⟨b, 0, none⟩) (n - (j - i)) cap) ∧
      (∀ B : Bd, B.mine b → BelowB B w w') ∧ ∃ us', w'.heap[b]? = some (.cells us' e0 fr) ∧ us'.size = us.size ∧ (∀ x, x < i * 8 → us'[x]? = us[x]?) ∧ (∀ x, x < (n - j) * 8 → us'[i * 8 + x]? = us[j * 8 + x]?) := by
  have hts : Tryd.prog.underlying 71 = some (.slice 54) := by kernel_rfl
  have hti : Tryd.prog.underlying 3 = some (.int .i64) := by kernel_rfl
  have mixed : Tryd.prog.follows .mixedOrders = true := rfl
  have hnz : n * 8 ≤ us.size := Nat.le_trans (Nat.mul_le_mul_right _ hcap) hus
  obtain ⟨news, hnews⟩ : ∃ news : List Value, news = (us.toList.drop (j * 8)).take ((n - j) * 8) := ⟨_, rfl⟩
  have hlen : news.length = (n - j) * 8 := by rw [hnews, List.length_take, List.length_drop, Array.length_toList]; omega
  have hget : ∀ t u, news[t]? = some u → t < (n - j) * 8 ∧ us[j * 8 + t]? = some u := fun t u h => by
    have ht := (List.getElem?_eq_some_iff.1 h).1
    rw [hlen] at ht
    rw [hnews, List.getElem?_take, if_pos ht, List.getElem?_drop, Array.getElem?_toList] at h
    exact ⟨ht, h⟩
  obtain ⟨A, hA, hsrc⟩ : ∃ A : Addr, (if cap = j then some (⟨b, 0, none⟩ : Addr) else some ⟨b, j * 8, none⟩) = some A ∧ Hid (∀ t u, news[t]? = some u → w.drew.cell? (A.add t) = some u) := by
    by_cases h : cap = j
    · refine ⟨⟨b, 0, none⟩, by simp [h], fun t u hu => ?_⟩
      have := (hget t u hu).1
      omega
    · refine ⟨⟨b, j * 8, none⟩, by simp [h], fun t u hu => ?_⟩
      have hu := (hget t u hu).2
      rw [Addr.add_lit]
      show w.cell? ⟨b, j * 8 + t, none⟩ = some u
      simpa [World.cell?, hr] using hu
  have h1n : ∀ u ∈ news, u.oneCell' = true := fun u hu => by
    obtain ⟨t, ht, rfl⟩ := List.getElem_of_mem hu
    obtain ⟨q1, q2⟩ := hget t _ (List.getElem?_eq_getElem ht)
    exact h1 _ _ (by omega) q2
  have hfit : i * 8 + news.length ≤ us.toList.length := by rw [hlen, Array.length_toList]; omega
  obtain ⟨us1, hus1⟩ : ∃ us1, us1 = (over us.toList (i * 8) news).toArray := ⟨_, rfl⟩
  have hsz1 : us1.size = us.size := by rw [hus1, List.size_toArray, over_len hfit, Array.length_toList]
  obtain ⟨W1, hW1⟩ : ∃ W1, W1 = w.drew.setRow b us1 := ⟨_, rfl⟩
  have happ : ∀ ty, (Builtin.append_ #[71, 71] ty #[.slice (some ⟨b, 0, none⟩) i cap, .slice (some A) (n - j) (cap - j)]).run Tryd.prog w.drew = .ok (.slice (some ⟨b, 0, none⟩) (i + (n - j)) cap) W1 := fun ty => by
    have h := run_app (P := Tryd.prog) w.drew 71 ty 54 i0 hts hi0 hr hth i cap A (n - j) (cap - j) news (by rw [hs0]; exact hlen) hsrc.out h1n (by omega) (by rw [hs0]; rw [Array.length_toList] at hfit; exact hfit)
    rw [hs0, ← hus1, ← hW1] at h
    exact h
  have hr1 : W1.heap[b]? = some (.cells us1 e0 fr) := by rw [hW1]; exact setRow_heap w.drew b us us1 e0 fr hr
  have hfit2 : (i + (n - j)) * 8 + (n - (i + (n - j))) * z.cells.size ≤ us1.size := by rw [hsz1, hzn]; omega
  obtain ⟨zs, hzs⟩ : ∃ zs, zs = (Builtin.zeroCells z.cells (n - (i + (n - j)))).toList := ⟨_, rfl⟩
  have hzl : zs.length = (n - (i + (n - j))) * 8 := by rw [hzs, Array.length_toList, size_zeroCells, hzn]
  have hfit3 : (i + (n - j)) * 8 + zs.length ≤ us1.toList.length := by rw [hzl, Array.length_toList, hsz1]; omega
  obtain ⟨us2, hus2⟩ : ∃ us2, us2 = (over us1.toList ((i + (n - j)) * 8) zs).toArray := ⟨_, rfl⟩
  have hsz2 : us2.size = us.size := by rw [hus2, List.size_toArray, over_len hfit3, Array.length_toList, hsz1]
  obtain ⟨W2, hW2⟩ : ∃ W2, W2 = W1.setRow b us2 := ⟨_, rfl⟩
  have hcl : ∀ ty, (Builtin.clear_ #[71] ty #[.slice (some ⟨b, (i + (n - j)) * 8, none⟩) (n - (i + (n - j))) (cap - (i + (n - j)))]).run Tryd.prog W1 = .ok (.tuple #[]) W2 := fun ty => by
    have h := run_clr (P := Tryd.prog) W1 71 54 ty z hts hzv hz1 hr1 (by rw [hsz1]; exact hth) ((i + (n - j)) * 8) (n - (i + (n - j))) (cap - (i + (n - j))) (by omega) hfit2
    rw [← hzs, ← hus2, ← hW2] at h
    exact h
  have hr2 : W2.heap[b]? = some (.cells us2 e0 fr) := by rw [hW2]; exact setRow_heap W1 b us1 us2 e0 fr hr1
  have hpost : Aside ((∀ B : Bd, B.mine b → BelowB B w W2) ∧ ∃ us', W2.heap[b]? = some (.cells us' e0 fr) ∧ us'.size = us.size ∧ (∀ x, x < i * 8 → us'[x]? = us[x]?) ∧ (∀ x, x < (n - j) * 8 → us'[i * 8 + x]? = us[j * 8 + x]?)) := by
    refine ⟨fun B hB => ?_, us2, hr2, hsz2, fun x hx => ?_, fun x hx => ?_⟩
    · rw [hW2, hW1]
      exact ((BelowB.refl B w).drew.trans (Th.below_setRow hB us1)).trans (Th.below_setRow hB us2)
    · rw [hus2, List.getElem?_toArray, over_get hfit3, if_pos (by omega), Array.getElem?_toList, hus1, List.getElem?_toArray, over_get hfit, if_pos (by omega), Array.getElem?_toList]
    · rw [hus2, List.getElem?_toArray, over_get hfit3, if_pos (by omega), Array.getElem?_toList, hus1, List.getElem?_toArray, over_get hfit, if_neg (by omega), if_pos (by rw [hlen]; omega), show i * 8 + x - i * 8 = x by omega, hnews, List.getElem?_take, if_pos hx, List.getElem?_drop, Array.getElem?_toList]
  have hic : i ≤ cap := by omega
  have hjc : j ≤ cap := by omega
  have hne : ¬ ((i : Int) = (j : Int)) := by omega
  have hne2 : ¬ (cap = i + (n - j)) := by omega
  clear hr1 hr2 hW1 hW2 hus1 hus2 hzs hzl hfit hfit2 hfit3 hsz1 hsz2 hlen hget hnews h1n hsrc hr hth h1
  go_enter Tryd.func135, Tryd.ntmps135
  go_wp2_with fail
  go_region_law_o (refine step_append_run rfl (.tmp 22) (.tmp 25) 71 71 rfl _ _ (by simp [Act.eval, Act.put]) (by simp [Act.eval, Act.put]) (happ _) ?_)
  go_wp2
  go_ret
  have hend : n - (j - i) = i + (n - j) := by omega
  rw [hend]
  exact ⟨rfl, hpost⟩
set_option maxHeartbeats 4000000 in
set_option maxRecDepth 100000 in
theorem walk_nil (w : World) : Calls Tryd.prog 135 #[.slice none 0 0, .int .i64 (0 : Nat), .int .i64 (0 : Nat)] w fun e w' => e = .returned (.slice none 0 0) ∧ w' = w := by
  have mixed : Tryd.prog.follows .mixedOrders = true := rfl
  go_enter Tryd.func135, Tryd.ntmps135
  go_wp2
  all_goals (go_ret; exact ⟨rfl, rfl⟩)
set_option maxHeartbeats 4000000 in
set_option maxRecDepth 100000 in
theorem walk_eq (b n cap i : Nat) (w : World) (hcap : n ≤ cap) (hi : i ≤ n) : Calls Tryd.prog 135 #[.slice (some ⟨b, 0, none⟩) n cap, .int .i64 i, .int .i64 i] w fun e w' => e = .returned (.slice (some ⟨b, 0, none⟩) n cap) ∧ w' = w := by
  have mixed : Tryd.prog.follows .mixedOrders = true := rfl
  go_enter Tryd.func135, Tryd.ntmps135
  go_wp2
  all_goals (go_ret; exact ⟨rfl, rfl⟩)
theorem calls {ei : TInfo} {d : TypeDesc} {i0 : TypeInfo} {z : Value} (E : TypeIs Tryd.prog 54 ei i0 d z) (hrep : ei.rep = true) (hsz : ei.size = 8) (l : List ei.ty.den) (i j : Int) (hi : 0 ≤ i) (hij : i ≤ j) (hj : j ≤ l.length) :
    CallOK Tryd.prog 135 [.own ei.ty l, .int .i64 i, .int .i64 j] (.back (.own ei.ty (l.take i.toNat ++ l.drop j.toNat)) [.lent []]) := by
  refine .inr (.inr ⟨_, _, _, [], rfl, rfl, ⟨_, Tryd.func135, rfl, rfl⟩, fun w pr u0 us b0 hlt hgl hown ha => ?_⟩)
  obtain ⟨u1, u2, rfl⟩ : ∃ u1 u2, us = [u1, u2] := by
    have := ha.len
    match us, this with
    | [u1, u2], _ => exact ⟨u1, u2, rfl⟩
  obtain ⟨p1, p2, _⟩ := ha
  have e1 : u1 = .int .i64 i := by
    rcases p1 with h | ⟨cs, us, h, _⟩
    · exact h
    · cases h
  have e2 : u2 = .int .i64 j := by
    rcases p2 with h | ⟨cs, us, h, _⟩
    · exact h
    · cases h
  subst e1 e2
  obtain ⟨m1, rfl⟩ : ∃ m : Nat, i = m := ⟨i.toNat, by omega⟩
  obtain ⟨m2, rfl⟩ : ∃ m : Nat, j = m := ⟨j.toNat, by omega⟩
  obtain ⟨tg, ⟨hez, hrow⟩, rfl, rfl, hbl⟩ := hown
  simp only [Int.toNat_natCast]
  rcases hrow with ⟨hv, hb, rfl⟩ | ⟨k, cap, hv, hb, R⟩
  · have h1 : m1 = 0 := by simp at hj; omega
    have h2 : m2 = 0 := by simp at hj; omega
    subst h1 h2
    rw [hv]
    refine (walk_nil w).mono ?_
    rintro e w' ⟨rfl, rfl⟩
    exact ⟨_, pr, rfl, BelowB.refl _ _, fun _ _ _ => Iff.rfl, hlt, none, tg, ⟨hez, .inl ⟨hv, hb, rfl⟩⟩, hv.symm, hb, fun k hk => by cases hk⟩
  obtain ⟨us, e, fr, r1, r2, r3, r4⟩ := R.row
  have hT : ei.ty.size = 8 := by rw [E.tysz, hsz]
  have hkw : k < w.heap.size := (Array.getElem?_eq_some_iff.1 r1).1
  rw [hv]
  by_cases hm : m1 = m2
  · subst hm
    refine (walk_eq k l.length cap m1 w R.len (by omega)).mono ?_
    rintro e w' ⟨rfl, rfl⟩
    rw [List.take_append_drop]
    exact ⟨_, pr, rfl, BelowB.refl _ _, fun _ _ _ => Iff.rfl, hlt, some k, tg, ⟨hez, .inr ⟨k, cap, hv, hb, R⟩⟩, hv.symm, hb, fun k hk => by cases hk; exact hkw⟩
  have hzTR := zOf_TR (w := w) (pr := pr) (E.zrep hrep)
  have hm1 : m1 < m2 := by omega
  have hm2 : m2 ≤ l.length := by omega
  rw [hT] at r3
  refine (walk i0 z E.info E.zero (by rw [E.size, hsz]) (fun w => by simp [zeroValue, typeInfo, E.info, E.zero]) hzTR.one (by have := hzTR.len; rw [hT] at this; simpa using this) k l.length cap m1 m2 us e fr w r1 r2.1 R.len r3 (fun x v hx hxv => ?_) hm1 hm2).mono ?_
  · have hp : 0 < 8 := by decide
    have hq : x / 8 < l.length := by omega
    obtain ⟨vs, v1, v2, v3⟩ := r4 (x / 8) l[x / 8] (List.getElem?_eq_getElem hq)
    rw [hT] at v1 v2
    have hr : x % 8 < vs.length := by rw [v1]; exact Nat.mod_lt _ hp
    have := v2 (x % 8) vs[x % 8] (List.getElem?_eq_getElem hr)
    rw [show x / 8 * 8 + x % 8 = x by omega, hxv] at this
    cases this
    exact v3.one _ (List.getElem_mem _)
  rintro e' w' ⟨rfl, hB, us', q1, q2, q3, q4⟩
  have hBw : BelowB (bdE w.heap.size pr tg.blk) w w' := hB _ (.inr hb)
  have hlen : (l.take m1 ++ l.drop m2).length = l.length - (m2 - m1) := by rw [List.length_append, List.length_take, List.length_drop]; omega
  have hkp : PrKeeps w pr w' pr := fun k' o p => ⟨p, cell_heap (hBw.block k' (fun hm => by
    rcases hm with h | h
    · have := hlt k' o p
      have h : w.heap.size ≤ k' := h
      omega
    · rw [hb] at h
      cases h
      exact R.prno rfl o p)) o⟩
  refine ⟨_, pr, rfl, hBw, fun _ _ _ => Iff.rfl, fun k' o p => Nat.lt_of_lt_of_le (hlt k' o p) hBw.size, some k, ⟨.slice (some ⟨k, 0, none⟩) (l.length - (m2 - m1)) cap, some k, ei.ty.size⟩, ⟨rfl, .inr ⟨k, cap, by rw [hlen], rfl, ?_⟩⟩, rfl, rfl, fun k' hk' => by cases hk'; exact Nat.lt_of_lt_of_le hkw hBw.size⟩
  refine ⟨.inr hb, by rw [hlen]; have := R.len; omega, ⟨us', e, fr, q1, by rw [q2]; exact r2, by rw [q2, hT]; exact r3, fun t x hx => ?_⟩, fun o p => absurd p (R.prno rfl o), (fun h => by cases h), R.prno⟩
  rw [hT]
  by_cases c : t < m1
  · have hx' : l[t]? = some x := by
      rw [List.getElem?_append_left (by rw [List.length_take]; omega), List.getElem?_take, if_pos c] at hx
      exact hx
    obtain ⟨vs, v1, v2, v3⟩ := r4 t x hx'
    rw [hT] at v1 v2
    exact ⟨vs, v1, fun a v ha => by
      have ha' := (List.getElem?_eq_some_iff.1 ha).1
      rw [q3 _ (by omega)]; exact v2 a v ha, v3.keeps hkp⟩
  · have hx' : l[m2 + (t - m1)]? = some x := by
      rw [List.getElem?_append_right (by rw [List.length_take]; omega), List.getElem?_drop, List.length_take, Nat.min_eq_left (by omega)] at hx
      exact hx
    have ht := (List.getElem?_eq_some_iff.1 hx').1
    obtain ⟨vs, v1, v2, v3⟩ := r4 _ x hx'
    rw [hT] at v1 v2
    exact ⟨vs, v1, fun a v ha => by
      have ha' := (List.getElem?_eq_some_iff.1 ha).1
      have := q4 ((t - m1) * 8 + a) (by omega)
      rw [show m1 * 8 + ((t - m1) * 8 + a) = t * 8 + a by omega, show m2 * 8 + ((t - m1) * 8 + a) = (m2 + (t - m1)) * 8 + a by omega] at this
      rw [this]; exact v2 a v ha, v3.keeps hkp⟩
end Go.Proofs.YtjgnpmdbkgeakaaDoor.Del135
end
section
set_option linter.unusedVariables false
set_option linter.unusedSimpArgs false
namespace Go.Proofs.YtjgnpmdbkgeakaaDoor.G
open Go Go.Proofs.YtjgnpmdbkgeakaaDoor.Th
def til2 : List (Nat × TInfo) := [
  (3, ⟨.int .i64, 1, 8, (.int .i64), [.int .i64 0], [], [], true, false, [], []⟩),
  (4, ⟨.bool, 1, 1, .bool, [.bool false], [], [], true, false, [], []⟩),
  (5, ⟨.int .u8, 1, 1, (.int .u8), [.int .u8 0], [], [], true, false, [], []⟩),
  (9, ⟨.str, 1, 16, .str, [.str []], [], [], true, false, [], [(229, 8)]⟩),
  (22, ⟨.int .u64, 1, 8, (.int .u64), [.int .u64 0], [], [], true, false, [], []⟩),
  (23, ⟨.int .u32, 1, 4, (.int .u32), [.int .u32 0], [], [], true, false, [], []⟩),
  (25, ⟨.struct, 6, 72, (.st (.cons (.int .i64) (.cons .str (.cons (.int .u64) (.cons (.int .u32) (.cons .str (.cons .str .nil))))))), [.int .i64 0, .str [], .int .u64 0, .int .u32 0, .str [], .str []], [(0, 3), (1, 9), (2, 22), (3, 23), (4, 9), (5, 9)], [1, 1, 1, 1, 1, 1], true, true, [], []⟩),
  (27, ⟨.struct, 2, 24, (.st (.cons (.int .u32) (.cons .str .nil))), [.int .u32 0, .str []], [(0, 23), (1, 9)], [1, 1], true, true, [], []⟩),
  (37, ⟨.slice 160, 1, 24, (.slice (.st (.cons (.int .i64) (.cons .str .nil)))), [.nilsl], [], [], true, false, [], []⟩),
  (39, ⟨.struct, 2, 40, (.st (.cons .str (.cons (.slice (.st (.cons (.int .i64) (.cons .str .nil)))) .nil))), [.str [], .nilsl], [(0, 9), (1, 37)], [1, 1], true, false, [], []⟩),
  (41, ⟨.int .i64, 1, 8, (.int .i64), [.int .i64 0], [], [], true, false, [], []⟩),
  (54, ⟨.struct, 8, 88, (.st (.cons (.st (.cons (.int .u32) (.cons .str .nil))) (.cons (.int .i64) (.cons .str (.cons (.int .u64) (.cons .str (.cons (.int .i64) (.cons (.int .i64) .nil)))))))), [.int .u32 0, .str [], .int .i64 0, .str [], .int .u64 0, .str [], .int .i64 0, .int .i64 0], [(0, 27), (2, 3), (3, 9), (4, 22), (5, 9), (6, 3), (7, 3)], [2, 1, 1, 1, 1, 1, 1], true, true, [], []⟩),
  (56, ⟨.struct, 7, 80, (.st (.cons (.int .i64) (.cons (.st (.cons (.int .i64) (.cons .str (.cons (.int .u64) (.cons (.int .u32) (.cons .str (.cons .str .nil))))))) .nil))), [.int .i64 0, .int .i64 0, .str [], .int .u64 0, .int .u32 0, .str [], .str []], [(0, 3), (1, 25)], [1, 6], true, true, [], []⟩),
  (58, ⟨.slice 25, 1, 24, (.slice (.st (.cons (.int .i64) (.cons .str (.cons (.int .u64) (.cons (.int .u32) (.cons .str (.cons .str .nil)))))))), [.nilsl], [], [], true, false, [], []⟩),
  (60, ⟨.struct, 12, 152, (.st (.cons (.st (.cons (.st (.cons (.int .u32) (.cons .str .nil))) (.cons (.int .i64) (.cons .str (.cons (.int .u64) (.cons .str (.cons (.int .i64) (.cons (.int .i64) .nil)))))))) (.cons (.slice (.st (.cons (.int .i64) (.cons .str (.cons (.int .u64) (.cons (.int .u32) (.cons .str (.cons .str .nil)))))))) (.cons (.slice (.st (.cons (.int .i64) (.cons .str (.cons (.int .u64) (.cons (.int .u32) (.cons .str (.cons .str .nil)))))))) (.cons (.int .i64) (.cons .bool .nil)))))), [.int .u32 0, .str [], .int .i64 0, .str [], .int .u64 0, .str [], .int .i64 0, .int .i64 0, .nilsl, .nilsl, .int .i64 0, .bool false], [(0, 54), (8, 58), (9, 58), (10, 3), (11, 4)], [8, 1, 1, 1, 1], true, false, [], []⟩),
  (69, ⟨.slice 56, 1, 24, (.slice (.st (.cons (.int .i64) (.cons (.st (.cons (.int .i64) (.cons .str (.cons (.int .u64) (.cons (.int .u32) (.cons .str (.cons .str .nil))))))) .nil)))), [.nilsl], [], [], true, false, [], []⟩),
  (71, ⟨.slice 54, 1, 24, (.slice (.st (.cons (.st (.cons (.int .u32) (.cons .str .nil))) (.cons (.int .i64) (.cons .str (.cons (.int .u64) (.cons .str (.cons (.int .i64) (.cons (.int .i64) .nil))))))))), [.nilsl], [], [], true, false, [], []⟩),
  (110, ⟨.slice 5, 1, 24, (.slice (.int .u8)), [.nilsl], [], [], true, false, [], []⟩),
  (115, ⟨.struct, 2, 32, (.st (.cons (.slice (.int .u8)) (.cons .bool .nil))), [.nilsl, .bool false], [(0, 110), (1, 4)], [1, 1], true, false, [], []⟩),
  (121, ⟨.struct, 5, 88, (.st (.cons (.st (.cons (.slice (.int .u8)) (.cons .bool .nil))) (.cons (.slice (.int .u8)) (.cons (.slice (.int .u8)) (.cons (.int .i64) .nil))))), [.nilsl, .bool false, .nilsl, .nilsl, .int .i64 0], [(0, 115), (2, 110), (3, 110), (4, 3)], [2, 1, 1, 1], true, false, [], []⟩),
  (126, ⟨.slice 110, 1, 24, (.slice (.slice (.int .u8))), [.nilsl], [], [], true, false, [], []⟩),
  (136, ⟨.struct, 2, 32, (.st (.cons (.int .i64) (.cons (.slice (.slice (.int .u8))) .nil))), [.int .i64 0, .nilsl], [(0, 3), (1, 126)], [1, 1], true, false, [], []⟩),
  (160, ⟨.struct, 2, 24, (.st (.cons (.int .i64) (.cons .str .nil))), [.int .i64 0, .str []], [(0, 3), (1, 9)], [1, 1], true, true, [], []⟩),
  (161, ⟨.slice 9, 1, 24, (.slice .str), [.nilsl], [], [], true, false, [], []⟩),
  (169, ⟨.slice 3, 1, 24, (.slice (.int .i64)), [.nilsl], [], [], true, false, [], []⟩),
  (175, ⟨.struct, 20, 240, (.st (.cons (.st (.cons (.st (.cons (.st (.cons (.int .u32) (.cons .str .nil))) (.cons (.int .i64) (.cons .str (.cons (.int .u64) (.cons .str (.cons (.int .i64) (.cons (.int .i64) .nil)))))))) (.cons (.slice (.st (.cons (.int .i64) (.cons .str (.cons (.int .u64) (.cons (.int .u32) (.cons .str (.cons .str .nil)))))))) (.cons (.slice (.st (.cons (.int .i64) (.cons .str (.cons (.int .u64) (.cons (.int .u32) (.cons .str (.cons .str .nil)))))))) (.cons (.int .i64) (.cons .bool .nil)))))) (.cons (.st (.cons (.int .i64) (.cons (.st (.cons (.int .i64) (.cons .str (.cons (.int .u64) (.cons (.int .u32) (.cons .str (.cons .str .nil))))))) .nil))) (.cons (.int .i64) .nil)))), [.int .u32 0, .str [], .int .i64 0, .str [], .int .u64 0, .str [], .int .i64 0, .int .i64 0, .nilsl, .nilsl, .int .i64 0, .bool false, .int .i64 0, .int .i64 0, .str [], .int .u64 0, .int .u32 0, .str [], .str [], .int .i64 0], [(0, 60), (12, 56), (19, 3)], [12, 7, 1], true, false, [], []⟩),
  (196, ⟨.struct, 2, 16, (.st (.cons (.int .u64) (.cons (.int .u64) .nil))), [.int .u64 0, .int .u64 0], [(0, 22), (1, 22)], [1, 1], true, true, [], []⟩),
  (222, ⟨.struct, 3, 24, (.st (.cons (.int .i64) (.cons (.int .i64) (.cons (.int .i64) .nil)))), [.int .i64 0, .int .i64 0, .int .i64 0], [(0, 3), (1, 3), (2, 3)], [1, 1, 1], true, true, [], []⟩),
  (258, ⟨.int .u64, 1, 8, (.int .u64), [.int .u64 0], [], [], true, false, [], []⟩),
  (266, ⟨.slice 222, 1, 24, (.slice (.st (.cons (.int .i64) (.cons (.int .i64) (.cons (.int .i64) .nil))))), [.nilsl], [], [], true, false, [], []⟩),
  (268, ⟨.struct, 2, 16, (.st (.cons (.int .i64) (.cons (.int .i64) .nil))), [.int .i64 0, .int .i64 0], [(0, 3), (1, 3)], [1, 1], true, true, [("paydesk/field.ahead", 245), ("paydesk/field.sized", 246)], []⟩),
  (270, ⟨.struct, 1, 8, (.st (.cons (.int .i64) .nil)), [.int .i64 0], [(0, 3)], [1], true, true, [("paydesk/field.ahead", 247), ("paydesk/field.sized", 248)], []⟩)
]
noncomputable def TI2 : TEnv := tiOf til2
theorem hT2 : TIok Tryd.prog TI2 := TIok.of (by kernel_rfl)
end Go.Proofs.YtjgnpmdbkgeakaaDoor.G
end
section
set_option linter.unusedVariables false
set_option linter.unusedSimpArgs false
set_option maxRecDepth 100000
namespace Go.Proofs.YtjgnpmdbkgeakaaDoor.G
open Go Go.Proofs.YtjgnpmdbkgeakaaDoor Th
theorem mid_is (i j : Nat) (h : i + j ≤ 100000) : IntKind.i64.wrap ((IntKind.u64.wrap (IntKind.i64.wrap ((i : Int) + (j : Int)))).fdiv (2 ^ min (Int.toNat 1) 64)) = (((i + j) / 2 : Nat) : Int) := by
  have e2 : (2 : Int) ^ min (Int.toNat 1) 64 = 2 := by rfl
  rw [e2, wrap64 (n := (i : Int) + (j : Int)) (by omega) (by omega), wrapu64 (by omega) (by omega), Int.fdiv_eq_ediv_of_nonneg _ (by omega), wrap64 (by omega) (by omega)]
  omega
end Go.Proofs.YtjgnpmdbkgeakaaDoor.G
end
section
set_option linter.unusedVariables false
set_option linter.unusedSimpArgs false
namespace Go.Proofs.YtjgnpmdbkgeakaaDoor.Ins211
open Go Go.RowKit Go.Shelf Go.Lib Go.Proofs Go.Proofs.YtjgnpmdbkgeakaaDoor Th
theorem run_cpy {P : Program} (w : World) (t ty e : TypeId) (i : TypeInfo) (ht : P.underlying t = some (.slice e)) (hi : P.info? e = some i) {b : Nat} {us : Array Value} {e0 : TypeId} {fr : Nat × Nat} (hr : w.heap[b]? = some (.cells us e0 fr)) (hth : Thawed fr us.size)
    (o dLen dCap : Nat) (a : Addr) (sLen sCap : Nat) (cs : List Value) (hn : cs.length = Nat.min sLen dLen * i.size) (hsrc : ∀ j v, cs[j]? = some v → w.cell? (a.add j) = some v) (h1 : ∀ v ∈ cs, v.oneCell' = true) (hfit : o + cs.length ≤ us.size) :
    (Builtin.copy_ #[t, t] ty #[.slice (some ⟨b, o, none⟩) dLen dCap, .slice (some a) sLen sCap]).run P w = .ok (goInt (Nat.min sLen dLen)) (w.setRow b (over us.toList o cs).toArray) := by
  have hfc := run_firstCells_some (P := P) w i.size (Nat.min sLen dLen) a sLen sCap cs hn hsrc
  have hst := run_storeRow (P := P) cs o 0 w us hr hth (by simpa using hfit) h1
  simp only [Nat.add_zero] at hst
  simp [Builtin.copy_, run_underlying ht, sizeOf, typeInfo, hi, Builtin.lenOf, hfc, hst]
theorem run_ovl {P : Program} (w : World) (tS tR e : TypeId) (ht : P.underlying tS = some (.slice e)) (size : Nat) (hz : ∀ w, (Go.sizeOf e).run P w = .ok size w)
    (a b : Addr) (la ca lb cb : Nat) (hne : a.block ≠ b.block) (tA tB : TypeId) (kA kB : Nat) (hsa : w.shape? a.block = some (tA, kA)) (hsb : w.shape? b.block = some (tB, kB)) (hkA : kA ≠ 0) (hkB : kB ≠ 0)
    (hfb : w.frozen? b = false) (hfe : w.frozen? { block := b.block, off := kB } = false) :
    (Extern.SlicesOverlaps.overlaps #[tS, tS] #[tR] #[.slice (some a) la ca, .slice (some b) lb cb]).run P w = .ok (.bool false) w := by
  have hnb : (a.block != b.block) = true := by simpa using hne
  have hnb' : (a.block == b.block) = false := by simpa using hne
  change Sem.run P (α := Value) (do
    let some t := (#[tS, tS] : Array TypeId)[0]? | stuck "slices.overlaps: no parameter types"
    let .slice elem ← underlying t | stuck "slices.overlaps: slice type expected"
    let size ← sizeOf elem
    match (some a : Option Addr), (some b : Option Addr) with
    | some a, some b =>
      if la = 0 ∨ lb = 0 ∨ size = 0 then pure (Value.bool false)
      else if a.block != b.block && (← frozen a) && (← frozen b) then unsupported .addressObserved
      else do
        if a.block != b.block then do
          noView a; noView b
          if ← mayBeOne a b then return Value.bool ((← choose (.extern "sameAddr.stringBytes" 2)) == 1)
        pure (Value.bool (a.block == b.block && a.off < b.off + lb * size && b.off < a.off + la * size))
    | _, _ => pure (Value.bool false)) w = _
  by_cases h0 : la = 0 ∨ lb = 0 ∨ size = 0
  · simp [run_underlying ht, hz, h0]
  · cases kB with
    | zero => exact absurd rfl hkB
    | succ kB =>
      cases kA with
      | zero => exact absurd rfl hkA
      | succ kA =>
        cases hfa : w.frozen? a <;> cases hfd : w.frozen? { block := a.block, off := kA + 1 } <;> simp [run_underlying ht, hz, h0, hnb, hnb', frozen, noView, viewAt, mayBeOne, stringish, shape, Sem.run, hsa, hsb, hfb, hfe, hfa, hfd]
theorem step_copy_run {P : Program} {ops : Array Oper} {o : Oper} {a : Act} {w : World} {K : Act → World → Prop} {Q : Exit → Act → World → Prop} {E : Prop}
    (hg : o.guard = none) (d x : Operand) (dT sT : TypeId) (hop : o.op = Op.call { callee := Callee.builtin Builtin.copy, args := #[d, x], argTypes := #[dT, sT] })
    (v u : Value) (hd : a.eval d = v) (hx : a.eval x = u) {v' : Value} {w' : World} (hr : (Builtin.copy_ #[dT, sT] o.type #[v, u]).run P w = .ok v' w') (hK : K (a.put o.dst v') w') :
    if Region.wanted o (yielded ops a.tmps) = true then Oper.wp P o a w K Q else E := by
  have hw : Region.wanted o (yielded ops a.tmps) = true := by simp [Region.wanted, hg]
  rw [if_pos hw]
  unfold Oper.wp
  simp [execOp, hop, resolve, invoke, builtin, hd, hx, hr, Result.andThen]
  exact hK
theorem wpList_cpy_run {P : Program} (w : World) {ops : Array Oper} {rest : List Oper} {o : Oper} {a : Act} {Q : Exit → Act → World → Prop} (hg : o.guard = none) (x y : Operand) (t u : TypeId) (hop : o.op = .call { callee := .builtin .copy, args := #[x, y], argTypes := #[t, u] })
    (vx vy : Value) (hx : a.eval x = vx) (hy : a.eval y = vy) (v : Value) (w' : World) (hrun : (Builtin.copy_ #[t, u] o.type #[vx, vy]).run P w = .ok v w') (h : wpList P ops Q rest (a.put o.dst v) w') : wpList P ops Q (o :: rest) a w := by
  refine wpList_plain hg fun K hK' => ?_
  unfold Oper.wp
  simp [execOp, hop, resolve, invoke, builtin, hx, hy, hrun, Result.andThen]
  exact hK' _ _ h
structure Arg (w : World) (a : Addr) (vs : List Value) : Prop where
  cells : ∀ t v, vs[t]? = some v → w.cell? (a.add t) = some v
  len : vs.length = 4
  one : ∀ v ∈ vs, v.oneCell' = true
  lt : a.block < w.heap.size
structure More (us us' : Array Value) (vs : List Value) (i n : Nat) : Prop where
  pre : ∀ x, x < i * 4 → us'[x]? = us[x]?
  at_ : ∀ t v, vs[t]? = some v → us'[i * 4 + t]? = some v
  post : ∀ x, x < (n - i) * 4 → us'[(i + 1) * 4 + x]? = us[i * 4 + x]?
theorem arg_shape {w : World} {a : Addr} {vs : List Value} (h : Arg w a vs) : ∃ tA kA, w.shape? a.block = some (tA, kA) ∧ kA ≠ 0 := by
  have h0 : 0 < vs.length := by rw [h.len]; decide
  have hc : w.cell? a = some vs[0] := by simpa [Addr.add] using h.cells 0 vs[0] (List.getElem?_eq_getElem h0)
  clear h
  obtain ⟨k, o, sp⟩ := a
  simp only [World.cell?] at hc
  unfold World.shape?
  simp only []
  cases hh : w.heap[k]? with
  | none => rw [hh] at hc; cases hc
  | some ob =>
    rw [hh] at hc
    cases ob with
    | cells us e fr =>
      refine ⟨e, us.size, rfl, fun h0 => ?_⟩
      have : us = #[] := Array.eq_empty_of_size_eq_zero h0
      subst this
      simp at hc
    | _ => cases hc
section
variable {i0 : TypeInfo} {z : Value}
set_option maxHeartbeats 4000000 in
set_option maxRecDepth 100000 in
theorem walk_fit (hi0 : Tryd.prog.info? 92 = some i0) (hs0 : i0.size = 4) (b n cap : Nat) (us : Array Value) (e0 : TypeId) (w : World) (hr : w.heap[b]? = some (.cells us e0 (0, 0))) (hcap : n + 1 ≤ cap) (hus : cap * 4 ≤ us.size)
    (av : Addr) (vc : Nat) (vs : List Value) (hA : Arg w av vs) : Calls Tryd.prog 211 #[.slice (some ⟨b, 0, none⟩) n cap, .int .i64 n, .slice (some av) 1 vc] w fun e w' => e = .returned (.slice (some ⟨b, 0, none⟩) (n + 1) cap) ∧
      (∀ B : Bd, B.mine b → BelowB B w w') ∧ ∃ us', w'.heap[b]? = some (.cells us' e0 (0, 0)) ∧ us'.size = us.size ∧ More us us' vs n n := by
  have hts : Tryd.prog.underlying 87 = some (.slice 92) := by kernel_rfl
  have mixed : Tryd.prog.follows .mixedOrders = true := rfl
  have hfit : n * 4 + vs.length ≤ us.toList.length := by rw [hA.len, Array.length_toList]; omega
  obtain ⟨us1, hus1⟩ : ∃ us1, us1 = (over us.toList (n * 4) vs).toArray := ⟨_, rfl⟩
  have hsz1 : us1.size = us.size := by rw [hus1, List.size_toArray, over_len hfit, Array.length_toList]
  obtain ⟨W1, hW1⟩ : ∃ W1, W1 = w.setRow b us1 := ⟨_, rfl⟩
  have happ : ∀ ty, (Builtin.append_ #[87, 87] ty #[.slice (some ⟨b, 0, none⟩) n cap, .slice (some av) 1 vc]).run Tryd.prog w = .ok (.slice (some ⟨b, 0, none⟩) (n + 1) cap) W1 := fun ty => by
    have hfc := run_firstCells_some (P := Tryd.prog) w i0.size 1 av 1 vc vs (by rw [hA.len, hs0]) hA.cells
    have hst := run_storeRow (P := Tryd.prog) vs (n * 4) 0 w us hr (thawed0 _) (by rw [Array.length_toList] at hfit; simpa using hfit) hA.one
    simp only [Nat.add_zero] at hst
    rw [hs0] at hfc
    rw [hW1, hus1]
    simp [Builtin.append_, run_underlying hts, sizeOf, typeInfo, hi0, hs0, Builtin.lenOf, hcap, hfc, Addr.add_lit, hst]
  have hr1 : W1.heap[b]? = some (.cells us1 e0 (0, 0)) := by rw [hW1]; exact setRow_heap w b us us1 e0 (0, 0) hr
  have hpost : Aside ((∀ B : Bd, B.mine b → BelowB B w W1) ∧ ∃ us', W1.heap[b]? = some (.cells us' e0 (0, 0)) ∧ us'.size = us.size ∧ More us us' vs n n) := by
    refine ⟨fun B hB => by rw [hW1]; exact Th.below_setRow hB us1, us1, hr1, hsz1, ⟨fun x hx => ?_, fun t v hv => ?_, fun x hx => by omega⟩⟩
    · rw [hus1, List.getElem?_toArray, over_get hfit, if_pos hx, Array.getElem?_toList]
    · have ht := (List.getElem?_eq_some_iff.1 hv).1
      rw [hus1, List.getElem?_toArray, over_get hfit, if_neg (by omega), if_pos (by omega), show n * 4 + t - n * 4 = t by omega, hv]
  clear hr1 hW1 hus1 hfit hsz1 hr hA
  go_enter Tryd.func211, Tryd.ntmps211
  go_wp2_with (at_builtin; refine Lib.wpList_append_run _ rfl _ _ _ _ rfl _ _ rfl rfl _ _ (happ _) ?_)
  all_goals (go_ret; exact ⟨rfl, hpost⟩)
set_option maxHeartbeats 4000000 in
set_option maxRecDepth 100000 in
theorem walk_new {ei : TInfo} {d : TypeDesc} (E : TypeIs Tryd.prog 92 ei i0 d z) (hsz : ei.size = 4) (hby : 0 < ei.bytes) (ad : Option Addr) (n cap : Nat) (had : (ad = none ∧ n = 0 ∧ cap = 0) ∨ ∃ b, ad = some ⟨b, 0, none⟩) (olds : List Value) (w : World)
    (hold : ∀ w' : World, w'.heap = w.heap → (Builtin.firstCells ei.size n (.slice ad n cap)).run Tryd.prog w' = .ok olds.toArray w') (hol : olds.length = n * 4) (hnc : n ≤ cap) (hg : ¬ n + 1 ≤ cap) (hb : (n + 1) * ei.bytes ≤ 140737488355328)
    (av : Addr) (vc : Nat) (vs : List Value) (hA : Arg w av vs) : Calls Tryd.prog 211 #[.slice ad n cap, .int .i64 n, .slice (some av) 1 vc] w fun e w' => ∃ G us', e = .returned (.slice (some ⟨w.heap.size, 0, none⟩) (n + 1) G) ∧
      Below w.heap.size w w' ∧ n + 1 ≤ G ∧ w'.heap[w.heap.size]? = some (.cells us' 92 (0, 0)) ∧ G * 4 ≤ us'.size ∧ More olds.toArray us' vs n n := by
  have hts : Tryd.prog.underlying 87 = some (.slice 92) := by kernel_rfl
  have mixed : Tryd.prog.follows .mixedOrders = true := rfl
  have hS : Th.Src Tryd.prog w 87 (.slice (some av) 1 vc) ei.size 1 vs := ⟨⟨_, hts, fun k h => by cases h⟩, fun w' => by simp [Builtin.lenOf], fun w' hw' => run_firstCells_some w' ei.size 1 av 1 vc vs (by rw [hA.len, hsz]) (fun j v hj => by rw [cell_same_heap hw']; exact hA.cells j v hj), by rw [hA.len, hsz], hA.one⟩
  have happ := fun ty => Th.run_append_new (ty := ty) E hts hS hold hg hb hby
  obtain ⟨G, hG⟩ : ∃ G, G = grownCap w (n + 1) cap 92 := ⟨_, rfl⟩
  have hGn : n + 1 ≤ G := by rw [hG]; exact grownCap_ge w _ _ _
  obtain ⟨us1, hus1⟩ : ∃ us1, us1 = olds.toArray ++ vs.toArray ++ Builtin.zeroCells z.cells (G - (n + 1)) := ⟨_, rfl⟩
  rw [← hG, ← hus1] at happ
  have hzsz : z.cells.size = 4 := by have := (z0s_LR (w := w) (g := ⟨fun _ _ => False, fun _ => none, fun _ => none⟩) E.zrel).len; have := E.zlen; simp at *; omega
  obtain ⟨W1, hW1⟩ : ∃ W1, W1 = w.drew.alloc (.cells us1 92) := ⟨_, rfl⟩
  rw [← hW1] at happ
  have hpost : Aside (∃ G' us', Ending.returned (.slice (some ⟨w.heap.size, 0, none⟩) (n + 1) G) = .returned (.slice (some ⟨w.heap.size, 0, none⟩) (n + 1) G') ∧ Below w.heap.size w W1 ∧ n + 1 ≤ G' ∧ W1.heap[w.heap.size]? = some (.cells us' 92 (0, 0)) ∧ G' * 4 ≤ us'.size ∧ More olds.toArray us' vs n n) := by
    refine ⟨G, us1, rfl, ?_, hGn, ?_, ?_, ⟨fun x hx => ?_, fun t v hv => ?_, fun x hx => by omega⟩⟩
    · rw [hW1]; exact ((Below.refl _ w).drew).alloc (Nat.le_refl _) _
    · rw [hW1]; exact alloc_new w.drew _
    · rw [hus1, Array.size_append, Array.size_append, size_zeroCells, hzsz, List.size_toArray, List.size_toArray, hol, hA.len]; omega
    · rw [hus1, Array.getElem?_append_left (by rw [Array.size_append, List.size_toArray, List.size_toArray]; omega), Array.getElem?_append_left (by rw [List.size_toArray]; omega)]
    · have ht := (List.getElem?_eq_some_iff.1 hv).1
      rw [hus1, Array.getElem?_append_left (by rw [Array.size_append, List.size_toArray, List.size_toArray]; omega), Array.getElem?_append_right (by rw [List.size_toArray]; omega), List.size_toArray, hol, show n * 4 + t - n * 4 = t by omega, List.getElem?_toArray, hv]
  clear hW1 hus1 hG hold hS
  rcases had with ⟨rfl, rfl, rfl⟩ | ⟨b, rfl⟩
  · clear hA
    go_enter Tryd.func211, Tryd.ntmps211
    go_wp2_with (at_builtin; refine Lib.wpList_append_run _ rfl _ _ _ _ rfl _ _ rfl rfl _ _ (happ _) ?_)
    all_goals (go_ret; exact hpost)
  · clear hA
    go_enter Tryd.func211, Tryd.ntmps211
    go_wp2_with (at_builtin; refine Lib.wpList_append_run _ rfl _ _ _ _ rfl _ _ rfl rfl _ _ (happ _) ?_)
    all_goals (go_ret; exact hpost)
set_option maxHeartbeats 4000000 in
set_option maxRecDepth 100000 in
theorem walk_shift (hi0 : Tryd.prog.info? 92 = some i0) (hs0 : i0.size = 4) (b n cap i : Nat) (us : Array Value) (e0 : TypeId) (w : World) (hr : w.heap[b]? = some (.cells us e0 (0, 0))) (hin : i < n) (hcap : n + 1 ≤ cap) (hus : cap * 4 ≤ us.size) (hn9 : n ≤ 1000000) (h1 : ∀ x v, x < n * 4 → us[x]? = some v → v.oneCell' = true)
    (av : Addr) (vc : Nat) (vs : List Value) (hA : Arg w av vs) (hne : av.block ≠ b) : Calls Tryd.prog 211 #[.slice (some ⟨b, 0, none⟩) n cap, .int .i64 i, .slice (some av) 1 vc] w fun e w' => e = .returned (.slice (some ⟨b, 0, none⟩) (n + 1) cap) ∧
      (∀ B : Bd, B.mine b → BelowB B w w') ∧ ∃ us', w'.heap[b]? = some (.cells us' e0 (0, 0)) ∧ us'.size = us.size ∧ More us us' vs i n := by
  have hts : Tryd.prog.underlying 87 = some (.slice 92) := by kernel_rfl
  have mixed : Tryd.prog.follows .mixedOrders = true := rfl
  have hnz : (n + 1) * 4 ≤ us.size := Nat.le_trans (Nat.mul_le_mul_right _ hcap) hus
  obtain ⟨tA, kA, hsA, hkA⟩ := arg_shape hA
  have hsB : w.shape? b = some (e0, us.size) := by unfold World.shape?; rw [hr]
  have hov : ∀ lb cb, (callFunc 226 #[.slice (some av) 1 vc, .slice (some ⟨b, (i + 1) * 4, none⟩) lb cb]).run Tryd.prog w = .ok (.value (.bool false)) w := fun lb cb => by
    rw [run_callFunc_extern Tryd.func226 (by kernel_rfl) (by kernel_rfl) (by kernel_rfl) (e := Extern.SlicesOverlaps.overlaps #[87, 87] #[4]) (by kernel_rfl),
      run_ovl w 87 4 92 hts 4 (fun w => by simp [sizeOf, typeInfo, hi0, hs0]) av ⟨b, (i + 1) * 4, none⟩ 1 vc lb cb hne tA e0 kA us.size hsA hsB hkA (by omega) (frozen_of_row w b _ us e0 hr) (frozen_of_row w b _ us e0 hr)]
    rfl
  obtain ⟨cs, hcs⟩ : ∃ cs : List Value, cs = (us.toList.drop (i * 4)).take ((n - i) * 4) := ⟨_, rfl⟩
  have hlen : cs.length = (n - i) * 4 := by rw [hcs, List.length_take, List.length_drop, Array.length_toList]; omega
  have hget : ∀ t u, cs[t]? = some u → t < (n - i) * 4 ∧ us[i * 4 + t]? = some u := fun t u h => by
    have ht := (List.getElem?_eq_some_iff.1 h).1
    rw [hlen] at ht
    rw [hcs, List.getElem?_take, if_pos ht, List.getElem?_drop, Array.getElem?_toList] at h
    exact ⟨ht, h⟩
  have h1c : ∀ u ∈ cs, u.oneCell' = true := fun u hu => by
    obtain ⟨t, ht, rfl⟩ := List.getElem_of_mem hu
    obtain ⟨q1, q2⟩ := hget t _ (List.getElem?_eq_getElem ht)
    exact h1 _ _ (by omega) q2
  have hfit : (i + 1) * 4 + cs.length ≤ us.toList.length := by rw [hlen, Array.length_toList]; omega
  obtain ⟨us1, hus1⟩ : ∃ us1, us1 = (over us.toList ((i + 1) * 4) cs).toArray := ⟨_, rfl⟩
  have hsz1 : us1.size = us.size := by rw [hus1, List.size_toArray, over_len hfit, Array.length_toList]
  obtain ⟨W1, hW1⟩ : ∃ W1, W1 = w.drew.setRow b us1 := ⟨_, rfl⟩
  have hr1 : W1.heap[b]? = some (.cells us1 e0 (0, 0)) := by rw [hW1]; exact setRow_heap w.drew b us us1 e0 (0, 0) hr
  have hcp1 : ∀ ty dc sc, (Builtin.copy_ #[87, 87] ty #[.slice (some ⟨b, (i + 1) * 4, none⟩) (n - i) dc, .slice (some ⟨b, i * 4, none⟩) (n + 1 - i) sc]).run Tryd.prog w.drew = .ok (goInt ((n - i : Nat) : Int)) W1 := fun ty dc sc => by
    have hm : Nat.min (n + 1 - i) (n - i) = n - i := by simp only [Nat.min_def]; split <;> omega
    have h := run_cpy (P := Tryd.prog) w.drew 87 ty 92 i0 hts hi0 hr (thawed0 _) ((i + 1) * 4) (n - i) dc ⟨b, i * 4, none⟩ (n + 1 - i) sc cs (by rw [hm, hs0]; exact hlen) (fun j v hj => by
      have hu := (hget j v hj).2
      rw [Addr.add_lit]
      show w.cell? ⟨b, i * 4 + j, none⟩ = some v
      simpa [World.cell?, hr] using hu) h1c (by have := hfit; rw [Array.length_toList] at this; omega)
    rw [hm] at h
    rw [h, hW1, hus1]
  have hfit2 : i * 4 + vs.length ≤ us1.toList.length := by rw [hA.len, Array.length_toList, hsz1]; omega
  obtain ⟨us2, hus2⟩ : ∃ us2, us2 = (over us1.toList (i * 4) vs).toArray := ⟨_, rfl⟩
  have hsz2 : us2.size = us.size := by rw [hus2, List.size_toArray, over_len hfit2, Array.length_toList, hsz1]
  obtain ⟨W2, hW2⟩ : ∃ W2, W2 = W1.setRow b us2 := ⟨_, rfl⟩
  have hr2 : W2.heap[b]? = some (.cells us2 e0 (0, 0)) := by rw [hW2]; exact setRow_heap W1 b us1 us2 e0 (0, 0) hr1
  have hcp2 : ∀ ty dc, (Builtin.copy_ #[87, 87] ty #[.slice (some ⟨b, i * 4, none⟩) (n + 1 - i) dc, .slice (some av) 1 vc]).run Tryd.prog W1 = .ok (goInt 1) W2 := fun ty dc => by
    have hm : Nat.min 1 (n + 1 - i) = 1 := by simp only [Nat.min_def]; split <;> omega
    have h := run_cpy (P := Tryd.prog) W1 87 ty 92 i0 hts hi0 hr1 (thawed0 _) (i * 4) (n + 1 - i) dc av 1 vc vs (by rw [hm, hs0]; exact hA.len) (fun j v hj => by
      have hu := hA.cells j v hj
      have hb : (av.add j).block ≠ b := by unfold Addr.add; split <;> exact hne
      rw [hW1]
      show (w.drew.setRow b us1).cell? _ = _
      simp only [World.cell?, setRow_other w.drew b _ us1 hb]
      exact hu) hA.one (by have := hfit2; rw [Array.length_toList] at this; omega)
    rw [hm] at h
    rw [h, hW2, hus2]
    simp
  have hpost : Aside ((∀ B : Bd, B.mine b → BelowB B w W2) ∧ ∃ us', W2.heap[b]? = some (.cells us' e0 (0, 0)) ∧ us'.size = us.size ∧ More us us' vs i n) := by
    refine ⟨fun B hB => ?_, us2, hr2, hsz2, ⟨fun x hx => ?_, fun t v hv => ?_, fun x hx => ?_⟩⟩
    · rw [hW2, hW1]
      exact ((BelowB.refl B w).drew.trans (Th.below_setRow hB us1)).trans (Th.below_setRow hB us2)
    · rw [hus2, List.getElem?_toArray, over_get hfit2, if_pos (by omega), Array.getElem?_toList, hus1, List.getElem?_toArray, over_get hfit, if_pos (by omega), Array.getElem?_toList]
    · have ht := (List.getElem?_eq_some_iff.1 hv).1
      rw [hus2, List.getElem?_toArray, over_get hfit2, if_neg (by omega), if_pos (by omega), show i * 4 + t - i * 4 = t by omega, hv]
    · rw [hus2, List.getElem?_toArray, over_get hfit2, if_neg (by omega), if_neg (by rw [hA.len]; omega), Array.getElem?_toList, hus1, List.getElem?_toArray, over_get hfit, if_neg (by omega), if_pos (by rw [hlen]; omega), show (i + 1) * 4 + x - (i + 1) * 4 = x by omega, hcs, List.getElem?_take, if_pos hx, List.getElem?_drop, Array.getElem?_toList]
  have q1 : ¬ ((i : Int) = (n : Int)) := by omega
  have q2 : ¬ (((n : Int) + 1) > (cap : Int)) := by omega
  have q3 : IntKind.i64.wrap ((n : Int) + 1) = (n : Int) + 1 := by rw [IntKind.wrap_i64]; omega
  have q4 : IntKind.i64.wrap ((i : Int) + 1) = (i : Int) + 1 := by rw [IntKind.wrap_i64]; omega
  have q5 : ((i : Int) + 1).toNat = i + 1 := by omega
  have q6 : ((n : Int) + 1).toNat = n + 1 := by omega
  have q7 : ¬ (cap = i + 1) := by omega
  have q8 : ¬ (cap = i) := by omega
  have q9 : (0 : Int) ≤ (i : Int) + 1 := by omega
  have q10 : (0 : Int) ≤ (n : Int) + 1 := by omega
  have q11 : (n : Int) + 1 ≤ (cap : Int) := by omega
  have q12 : (i : Int) + 1 ≤ (n : Int) + 1 := by omega
  have q13 : (i : Int) ≤ (n : Int) + 1 := by omega
  clear hr1 hr2 hW1 hW2 hus1 hus2 hfit hfit2 hsz1 hsz2 hlen hget hcs h1c hr h1 hsB hsA hA
  go_enter Tryd.func211, Tryd.ntmps211
  go_wp2_with (simp only [hov])
  go_region_law_o (refine step_copy_run rfl _ _ 87 87 rfl _ _ (by simp [Act.eval, Act.put]) (by simp [Act.eval, Act.put]) (hcp1 _ _ _) ?_)
  go_wp2_with (at_builtin; refine wpList_cpy_run _ rfl _ _ 87 87 rfl _ _ rfl rfl _ _ (hcp2 _ _) ?_)
  go_ret
  exact ⟨rfl, hpost⟩
set_option maxHeartbeats 4000000 in
set_option maxRecDepth 100000 in
theorem walk_grow {ei : TInfo} {d : TypeDesc} (E : TypeIs Tryd.prog 92 ei i0 d z) (hsz : ei.size = 4) (b n cap i : Nat) (us : Array Value) (e0 : TypeId) (fr : Nat × Nat) (w : World) (hr : w.heap[b]? = some (.cells us e0 fr)) (hin : i < n) (hnc : n ≤ cap) (hcap : ¬ n + 1 ≤ cap) (hus : cap * 4 ≤ us.size) (hn9 : n ≤ 1000000) (hb : (n + 1) * ei.bytes ≤ 140737488355328) (h1 : ∀ x v, x < n * 4 → us[x]? = some v → v.oneCell' = true)
    (av : Addr) (vc : Nat) (vs : List Value) (hA : Arg w av vs) : Calls Tryd.prog 211 #[.slice (some ⟨b, 0, none⟩) n cap, .int .i64 i, .slice (some av) 1 vc] w fun e w' => ∃ G us', e = .returned (.slice (some ⟨w.heap.size, 0, none⟩) (n + 1) G) ∧
      Below w.heap.size w w' ∧ n + 1 ≤ G ∧ w'.heap[w.heap.size]? = some (.cells us' 92 (0, 0)) ∧ G * 4 ≤ us'.size ∧ More us us' vs i n := by
  have hts : Tryd.prog.underlying 87 = some (.slice 92) := by kernel_rfl
  have hti : Tryd.prog.underlying 3 = some (.int .i64) := by kernel_rfl
  have mixed : Tryd.prog.follows .mixedOrders = true := rfl
  have hs0 : i0.size = 4 := by rw [E.size, hsz]
  have hi0 := E.info
  have hbw : b < w.heap.size := (Array.getElem?_eq_some_iff.1 hr).1
  have hnz : n * 4 ≤ us.size := Nat.le_trans (Nat.mul_le_mul_right _ hnc) hus
  have hzsz : z.cells.size = 4 := by have := (z0s_LR (w := w) (g := ⟨fun _ _ => False, fun _ => none, fun _ => none⟩) E.zrel).len; have := E.zlen; simp at *; omega
  have hkk : (n : Int) + 1 - (i : Int) = ((n + 1 - i : Nat) : Int) := by omega
  have hik : i + (n + 1 - i) = n + 1 := by omega
  have hol : (us.toList.take (i * 4)).length = i * 4 := by rw [List.length_take, Array.length_toList]; omega
  have hold : (Builtin.firstCells i0.size i (.slice (some ⟨b, 0, none⟩) i cap)).run Tryd.prog w.drew = .ok (us.toList.take (i * 4)).toArray w.drew := by
    rw [hs0]
    exact run_firstCells_some w.drew 4 i ⟨b, 0, none⟩ i cap _ hol (fun j v hj => by
      rw [Addr.add_lit]
      rw [List.getElem?_take] at hj
      split at hj
      · show w.cell? ⟨b, 0 + j, none⟩ = some v
        simpa [World.cell?, hr] using hj
      · cases hj)
  obtain ⟨G, hG⟩ : ∃ G, G = grownCap w (n + 1) cap 92 := ⟨_, rfl⟩
  have hGn : n + 1 ≤ G := by rw [hG]; exact grownCap_ge w _ _ _
  obtain ⟨us0, hus0⟩ : ∃ us0, us0 = (us.toList.take (i * 4)).toArray ++ Builtin.zeroCells z.cells (n + 1 - i) ++ Builtin.zeroCells z.cells (G - (n + 1)) := ⟨_, rfl⟩
  have hsz0 : us0.size = G * 4 := by rw [hus0, Array.size_append, Array.size_append, size_zeroCells, size_zeroCells, hzsz, List.size_toArray, hol]; omega
  obtain ⟨W0, hW0⟩ : ∃ W0, W0 = w.drew.alloc (.cells us0 92) := ⟨_, rfl⟩
  have hrz : ∀ ty, (Builtin.append_ #[87, 3] ty #[.slice (some ⟨b, 0, none⟩) i cap, .int .i64 ((n : Int) + 1 - (i : Int))]).run Tryd.prog w = .ok (.slice (some ⟨w.heap.size, 0, none⟩) (n + 1) G) W0 := fun ty => by
    have h := Lib.run_append_grow_zeros w 87 3 ty 92 i0 z .i64 .i64 hts hti hi0 E.zero (some ⟨b, 0, none⟩) i cap (us.toList.take (i * 4)) hold (n + 1 - i) (by omega) (by omega) (by omega) (by omega)
      (by rw [E.bytes]; have : (n + 1 - i) * ei.bytes ≤ (n + 1) * ei.bytes := Nat.mul_le_mul_right _ (by omega)
          omega) (by rw [E.bytes, hik]; exact growslice_fits (by omega) hb)
    rw [hik, ← hG, ← hus0, ← hW0] at h
    rw [hkk]
    exact h
  have hB0 : Below w.heap.size w W0 := by rw [hW0]; exact ((Below.refl _ w).drew).alloc (Nat.le_refl _) _
  have hr0 : W0.heap[w.heap.size]? = some (.cells us0 92 (0, 0)) := by rw [hW0]; exact alloc_new w.drew _
  have hfit1 : i * 4 + vs.length ≤ us0.toList.length := by rw [hA.len, Array.length_toList, hsz0]; omega
  obtain ⟨us1, hus1⟩ : ∃ us1, us1 = (over us0.toList (i * 4) vs).toArray := ⟨_, rfl⟩
  have hsz1 : us1.size = G * 4 := by rw [hus1, List.size_toArray, over_len hfit1, Array.length_toList, hsz0]
  obtain ⟨W1, hW1⟩ : ∃ W1, W1 = W0.setRow w.heap.size us1 := ⟨_, rfl⟩
  have hr1 : W1.heap[w.heap.size]? = some (.cells us1 92 (0, 0)) := by rw [hW1]; exact setRow_heap W0 _ us0 us1 92 (0, 0) hr0
  have hcp1 : ∀ ty dc, (Builtin.copy_ #[87, 87] ty #[.slice (some ⟨w.heap.size, i * 4, none⟩) (n + 1 - i) dc, .slice (some av) 1 vc]).run Tryd.prog W0 = .ok (goInt 1) W1 := fun ty dc => by
    have hm : Nat.min 1 (n + 1 - i) = 1 := by simp only [Nat.min_def]; split <;> omega
    have h := run_cpy (P := Tryd.prog) W0 87 ty 92 i0 hts hi0 hr0 (thawed0 _) (i * 4) (n + 1 - i) dc av 1 vc vs (by rw [hm, hs0]; exact hA.len) (fun j v hj => by
      have hu := hA.cells j v hj
      have hb : (av.add j).block < w.heap.size := by unfold Addr.add; split <;> exact hA.lt
      rw [← hu]
      simp only [World.cell?, hB0.block _ hb]) hA.one (by have := hfit1; rw [Array.length_toList] at this; omega)
    rw [hm] at h
    rw [h, hW1, hus1]
    simp
  obtain ⟨cs, hcs⟩ : ∃ cs : List Value, cs = (us.toList.drop (i * 4)).take ((n - i) * 4) := ⟨_, rfl⟩
  have hlen : cs.length = (n - i) * 4 := by rw [hcs, List.length_take, List.length_drop, Array.length_toList]; omega
  have hget : ∀ t u, cs[t]? = some u → t < (n - i) * 4 ∧ us[i * 4 + t]? = some u := fun t u h => by
    have ht := (List.getElem?_eq_some_iff.1 h).1
    rw [hlen] at ht
    rw [hcs, List.getElem?_take, if_pos ht, List.getElem?_drop, Array.getElem?_toList] at h
    exact ⟨ht, h⟩
  have h1c : ∀ u ∈ cs, u.oneCell' = true := fun u hu => by
    obtain ⟨t, ht, rfl⟩ := List.getElem_of_mem hu
    obtain ⟨q1, q2⟩ := hget t _ (List.getElem?_eq_getElem ht)
    exact h1 _ _ (by omega) q2
  have hfit2 : (i + 1) * 4 + cs.length ≤ us1.toList.length := by rw [hlen, Array.length_toList, hsz1]; omega
  obtain ⟨us2, hus2⟩ : ∃ us2, us2 = (over us1.toList ((i + 1) * 4) cs).toArray := ⟨_, rfl⟩
  have hsz2 : us2.size = G * 4 := by rw [hus2, List.size_toArray, over_len hfit2, Array.length_toList, hsz1]
  obtain ⟨W2, hW2⟩ : ∃ W2, W2 = W1.drew.setRow w.heap.size us2 := ⟨_, rfl⟩
  have hr2 : W2.heap[w.heap.size]? = some (.cells us2 92 (0, 0)) := by rw [hW2]; exact setRow_heap W1.drew _ us1 us2 92 (0, 0) hr1
  have hob : W1.heap[b]? = some (.cells us e0 fr) := by rw [hW1, setRow_other W0 _ b us1 (by omega), hB0.block b hbw]; exact hr
  have hcp2 : ∀ ty dc sc, (Builtin.copy_ #[87, 87] ty #[.slice (some ⟨w.heap.size, (i + 1) * 4, none⟩) (n - i) dc, .slice (some ⟨b, i * 4, none⟩) (n - i) sc]).run Tryd.prog W1.drew = .ok (goInt ((n - i : Nat) : Int)) W2 := fun ty dc sc => by
    have hm : Nat.min (n - i) (n - i) = n - i := Nat.min_self _
    have h := run_cpy (P := Tryd.prog) W1.drew 87 ty 92 i0 hts hi0 hr1 (thawed0 _) ((i + 1) * 4) (n - i) dc ⟨b, i * 4, none⟩ (n - i) sc cs (by rw [hm, hs0]; exact hlen) (fun j v hj => by
      have hu := (hget j v hj).2
      rw [Addr.add_lit]
      show W1.cell? ⟨b, i * 4 + j, none⟩ = some v
      simpa [World.cell?, hob] using hu) h1c (by have := hfit2; rw [Array.length_toList] at this; omega)
    rw [hm] at h
    rw [h, hW2, hus2]
  have hpost : Aside (∃ G' us', Ending.returned (.slice (some ⟨w.heap.size, 0, none⟩) (n + 1) G) = .returned (.slice (some ⟨w.heap.size, 0, none⟩) (n + 1) G') ∧ Below w.heap.size w W2 ∧ n + 1 ≤ G' ∧ W2.heap[w.heap.size]? = some (.cells us' 92 (0, 0)) ∧ G' * 4 ≤ us'.size ∧ More us us' vs i n) := by
    refine ⟨G, us2, rfl, ?_, hGn, hr2, by omega, ⟨fun x hx => ?_, fun t v hv => ?_, fun x hx => ?_⟩⟩
    · rw [hW2, hW1]
      have b1 : Below w.heap.size W0 (W0.setRow w.heap.size us1) := ⟨rfl, rfl, rfl, by simp [World.setRow], fun k hk => setRow_other W0 w.heap.size k us1 (by omega)⟩
      have b2 : Below w.heap.size (W0.setRow w.heap.size us1) ((W0.setRow w.heap.size us1).drew.setRow w.heap.size us2) := ⟨rfl, rfl, rfl, by simp [World.setRow], fun k hk => setRow_other _ w.heap.size k us2 (by omega)⟩
      exact (hB0.trans b1).trans b2
    · rw [hus2, List.getElem?_toArray, over_get hfit2, if_pos (by omega), Array.getElem?_toList, hus1, List.getElem?_toArray, over_get hfit1, if_pos (by omega), Array.getElem?_toList, hus0, Array.getElem?_append_left (by rw [Array.size_append, List.size_toArray, hol]; omega), Array.getElem?_append_left (by rw [List.size_toArray, hol]; omega), List.getElem?_toArray, List.getElem?_take, if_pos hx, Array.getElem?_toList]
    · have ht := (List.getElem?_eq_some_iff.1 hv).1
      have hvl := hA.len
      rw [hus2, List.getElem?_toArray, over_get hfit2, if_pos (by omega), Array.getElem?_toList, hus1, List.getElem?_toArray, over_get hfit1, if_neg (by omega), if_pos (by omega), show i * 4 + t - i * 4 = t by omega, hv]
    · rw [hus2, List.getElem?_toArray, over_get hfit2, if_neg (by omega), if_pos (by rw [hlen]; omega), show (i + 1) * 4 + x - (i + 1) * 4 = x by omega, hcs, List.getElem?_take, if_pos hx, List.getElem?_drop, Array.getElem?_toList]
  have q1 : ¬ ((i : Int) = (n : Int)) := by omega
  have q2 : ((n : Int) + 1) > (cap : Int) := by omega
  have q2b : (cap : Int) < (n : Int) + 1 := by omega
  have q3 : IntKind.i64.wrap ((n : Int) + 1) = (n : Int) + 1 := by rw [IntKind.wrap_i64]; omega
  have q3b : IntKind.i64.wrap ((n : Int) + 1 - (i : Int)) = (n : Int) + 1 - (i : Int) := by rw [IntKind.wrap_i64]; omega
  have q4 : IntKind.i64.wrap ((i : Int) + 1) = (i : Int) + 1 := by rw [IntKind.wrap_i64]; omega
  have q5 : ((i : Int) + 1).toNat = i + 1 := by omega
  have q7 : ¬ (G = i + 1) := by omega
  have q8 : ¬ (G = i) := by omega
  have q8b : ¬ (cap = i) := by omega
  have q9 : (0 : Int) ≤ (i : Int) + 1 := by omega
  have q12 : (i : Int) + 1 ≤ (n : Int) + 1 := by omega
  have q13 : (i : Int) ≤ (n : Int) + 1 := by omega
  have q14 : i ≤ cap := by omega
  have q15 : i ≤ G := by omega
  have q16 : i + 1 ≤ G := by omega
  have q17 : i ≤ n := by omega
  clear hr1 hr2 hr0 hW0 hW1 hW2 hus0 hus1 hus2 hfit1 hfit2 hsz0 hsz1 hsz2 hlen hget hcs h1c hr h1 hA hob hB0 hol hold hG hkk hik
  go_enter Tryd.func211, Tryd.ntmps211
  go_wp2_with (first | (at_builtin; refine Lib.wpList_append_run _ rfl _ _ _ _ rfl _ _ rfl rfl _ _ (hrz _) ?_) | (at_builtin; refine wpList_cpy_run _ rfl _ _ 87 87 rfl _ _ rfl rfl _ _ (hcp1 _ _) ?_))
  go_region_law_o (refine step_copy_run rfl _ _ 87 87 rfl _ _ (by simp [Act.eval, Act.put]) (by simp [Act.eval, Act.put]) (hcp2 _ _ _) ?_)
  go_wp2
  go_ret
  exact hpost
end
theorem rowOf_more {w : World} {pr : Nat → Nat → Prop} {T : Ty} (hT : T.size = 4) {l : List T.den} {us us' : Array Value} {vs : List Value} {x : T.den} {i : Nat} (hi : i ≤ l.length) (h : RowOf w pr T l us) (hv : vs.length = 4) (hx : TR w pr T x vs) (m : More us us' vs i l.length) :
    RowOf w pr T (l.take i ++ [x] ++ l.drop i) us' := by
  intro t y hy
  have hl1 : (l.take i).length = i := by rw [List.length_take]; omega
  rw [hT]
  rcases Nat.lt_trichotomy t i with c | c | c
  · have hy' : l[t]? = some y := by
      rw [List.append_assoc, List.getElem?_append_left (by omega), List.getElem?_take, if_pos c] at hy
      exact hy
    obtain ⟨us1, v1, v2, v3⟩ := h t y hy'
    rw [hT] at v1 v2
    exact ⟨us1, v1, fun a v ha => by
      have ha' := (List.getElem?_eq_some_iff.1 ha).1
      rw [m.pre _ (by omega)]; exact v2 a v ha, v3⟩
  · subst c
    have hy' : y = x := by
      rw [List.append_assoc, List.getElem?_append_right (by omega), hl1, Nat.sub_self] at hy
      cases hy; rfl
    subst hy'
    exact ⟨vs, hv, fun a v ha => m.at_ a v ha, hx⟩
  · have hy' : l[t - 1]? = some y := by
      rw [List.append_assoc, List.getElem?_append_right (by omega), hl1] at hy
      obtain ⟨q, hq⟩ : ∃ q, t - i = q + 1 := ⟨t - i - 1, by omega⟩
      rw [hq, List.singleton_append, List.getElem?_cons_succ, List.getElem?_drop, show i + q = t - 1 by omega] at hy
      exact hy
    have ht := (List.getElem?_eq_some_iff.1 hy').1
    obtain ⟨us1, v1, v2, v3⟩ := h (t - 1) y hy'
    rw [hT] at v1 v2
    exact ⟨us1, v1, fun a v ha => by
      have ha' := (List.getElem?_eq_some_iff.1 ha).1
      have := m.post ((t - 1 - i) * 4 + a) (by omega)
      rw [show (i + 1) * 4 + ((t - 1 - i) * 4 + a) = t * 4 + a by omega, show i * 4 + ((t - 1 - i) * 4 + a) = (t - 1) * 4 + a by omega] at this
      rw [this]; exact v2 a v ha, v3⟩
theorem rowOf_take {w : World} {pr : Nat → Nat → Prop} {T : Ty} (hT : T.size = 4) {l : List T.den} {us : Array Value} (h : RowOf w pr T l us) : RowOf w pr T l (us.toList.take (l.length * 4)).toArray := by
  intro t y hy
  have ht := (List.getElem?_eq_some_iff.1 hy).1
  obtain ⟨us1, v1, v2, v3⟩ := h t y hy
  rw [hT] at v1 v2 ⊢
  exact ⟨us1, v1, fun a v ha => by
    have ha' := (List.getElem?_eq_some_iff.1 ha).1
    rw [List.getElem?_toArray, List.getElem?_take, if_pos (by omega), Array.getElem?_toList]; exact v2 a v ha, v3⟩
theorem calls {ei : TInfo} {d : TypeDesc} {i0 : TypeInfo} {z : Value} (E : TypeIs Tryd.prog 92 ei i0 d z) (hsz : ei.size = 4) (hT8 : ei.ty ≠ .int .u8) (hby0 : 0 < ei.bytes) (hby : ei.bytes ≤ 1000) (l : List ei.ty.den) (i : Int) (x : ei.ty.den) (hi : 0 ≤ i) (hil : i ≤ l.length) (hl : l.length ≤ 1000000) :
    CallOK Tryd.prog 211 [.own ei.ty l, .int .i64 i, .sl ei.ty [x]] (.back (.own ei.ty (l.take i.toNat ++ [x] ++ l.drop i.toNat)) [.lent []]) := by
  refine .inr (.inr ⟨_, _, _, [], rfl, rfl, ⟨_, Tryd.func211, rfl, rfl⟩, fun w pr u0 us b0 hlt hgl hown ha => ?_⟩)
  obtain ⟨u1, u2, rfl⟩ : ∃ u1 u2, us = [u1, u2] := by
    have := ha.len
    match us, this with
    | [u1, u2], _ => exact ⟨u1, u2, rfl⟩
  obtain ⟨p1, p2, _⟩ := ha
  have e1 : u1 = .int .i64 i := by
    rcases p1 with h | ⟨cs, us, h, _⟩
    · exact h
    · cases h
  subst e1
  have hTR : TR w pr (.slice ei.ty) [x] [u2] := by
    rcases p2 with h | ⟨cs, us, h, _⟩
    · exact h
    · cases h
  obtain ⟨ad, vc, e2, hvcap, hel⟩ := hTR
  cases e2
  have hT : ei.ty.size = 4 := by rw [E.tysz, hsz]
  obtain ⟨av, vs, rfl, hvl, hvc, hvx⟩ := hel 0 x rfl
  rw [hT] at hvl
  have hvc' : ∀ t v, vs[t]? = some v → Cell w pr (av.add t) v := fun t v h => by have := hvc t v h; rwa [Nat.zero_mul, Nat.zero_add] at this
  have hv0 : Cell w pr (av.add 0) vs[0] := hvc' 0 vs[0] (List.getElem?_eq_getElem (by rw [hvl]; decide))
  have hab : (av.add 0).block = av.block := by unfold Addr.add; split <;> rfl
  have hA : Arg w av vs := ⟨fun t v h => (hvc' t v h).1, hvl, hvx.one, by have := hlt _ _ hv0.2; rwa [hab] at this⟩
  obtain ⟨m, rfl⟩ : ∃ m : Nat, i = m := ⟨i.toNat, by omega⟩
  have hil : m ≤ l.length := by omega
  have hbig : (l.length + 1) * ei.bytes ≤ 140737488355328 := Nat.le_trans (Nat.mul_le_mul (show l.length + 1 ≤ 1000001 by omega) hby) (by decide)
  simp only [Int.toNat_natCast]
  have hnl : (l.take m ++ [x] ++ l.drop m).length = l.length + 1 := by simp only [List.length_append, List.length_take, List.length_drop, List.length_singleton]; omega
  have pkB : ∀ {w' : World}, Below w.heap.size w w' → PrKeeps w pr w' pr := fun hB k o p => ⟨p, cell_heap (hB.block k (hlt k o p)) o⟩
  -- a new row
  have fresh : ∀ {us : Array Value} {e : Ending} {w' : World}, RowOf w pr ei.ty l us → (∃ G us', e = .returned (.slice (some ⟨w.heap.size, 0, none⟩) (l.length + 1) G) ∧ Below w.heap.size w w' ∧ l.length + 1 ≤ G ∧ w'.heap[w.heap.size]? = some (.cells us' 92 (0, 0)) ∧ G * 4 ≤ us'.size ∧ More us us' vs m l.length) →
      ∃ ru pr', e = .returned ru ∧ BelowB (bdE w.heap.size pr b0) w w' ∧ (∀ k o, ¬ (bdE w.heap.size pr b0).mine k → (pr' k o ↔ pr k o)) ∧ (∀ k o, pr' k o → k < w'.heap.size) ∧ RetE (bdE w.heap.size pr b0) w' pr' u0 b0 (.own ei.ty (l.take m ++ [x] ++ l.drop m)) [] ru := by
    rintro us e w' hrow ⟨G, us', rfl, hB, hG, hr, hsz', hM⟩
    have hs' : w.heap.size < w'.heap.size := (Array.getElem?_eq_some_iff.1 hr).1
    have hno : ∀ o, ¬ pr w.heap.size o := fun o p => by have := hlt _ _ p; omega
    refine ⟨_, pr, rfl, BelowB.of hB, fun _ _ _ => Iff.rfl, fun k o p => Nat.lt_of_lt_of_le (hlt k o p) hB.size, some w.heap.size, ⟨.slice (some ⟨w.heap.size, 0, none⟩) (l.length + 1) G, some w.heap.size, ei.ty.size⟩, ⟨rfl, .inr ⟨w.heap.size, G, by rw [hnl], rfl, ?_⟩⟩, rfl, rfl, fun k hk => by cases hk; exact hs'⟩
    exact ⟨.inl (Nat.le_refl _), by rw [hnl]; exact hG, ⟨us', 92, (0, 0), hr, thawT0 _ _ _, by rw [hT]; exact hsz', (rowOf_more hT hil hrow hvl hvx hM).keeps (pkB hB)⟩, fun o p => absurd p (hno o), (fun h => by cases h), fun _ => hno⟩
  obtain ⟨tg, ⟨hez, hrow⟩, rfl, rfl, hbl⟩ := hown
  rcases hrow with ⟨hv, hb, rfl⟩ | ⟨k, cap, hv, hb, R⟩
  · have h0 : m = 0 := by simpa using hil
    subst h0
    rw [hv]
    refine (walk_new E hsz hby0 none 0 0 (.inl ⟨rfl, rfl, rfl⟩) [] w (fun w' _ => by simp [Builtin.firstCells]) rfl (Nat.le_refl _) (by omega) hbig av vc vs hA).mono fun e w' h => fresh (us := #[]) (fun j y hy => by simp at hy) h
  obtain ⟨us, e0, fr, r1, r2, r3, r4⟩ := R.row
  have hfr : fr = (0, 0) := r2.2 rfl hT8
  subst hfr
  rw [hT] at r3
  have hkw : k < w.heap.size := (Array.getElem?_eq_some_iff.1 r1).1
  have hnz : l.length * 4 ≤ us.size := Nat.le_trans (Nat.mul_le_mul_right _ R.len) r3
  have hone : ∀ y v, y < l.length * 4 → us[y]? = some v → v.oneCell' = true := fun y v hy hyv => by
    have hp : 0 < 4 := by decide
    have hq : y / 4 < l.length := by omega
    obtain ⟨vs, v1, v2, v3⟩ := r4 (y / 4) l[y / 4] (List.getElem?_eq_getElem hq)
    rw [hT] at v1 v2
    have hr : y % 4 < vs.length := by rw [v1]; exact Nat.mod_lt _ hp
    have := v2 (y % 4) vs[y % 4] (List.getElem?_eq_getElem hr)
    rw [show y / 4 * 4 + y % 4 = y by omega, hyv] at this
    cases this
    exact v3.one _ (List.getElem_mem _)
  -- in place
  have same : ∀ {e : Ending} {w' : World}, (e = .returned (.slice (some ⟨k, 0, none⟩) (l.length + 1) cap) ∧ (∀ B : Bd, B.mine k → BelowB B w w') ∧ ∃ us', w'.heap[k]? = some (.cells us' e0 (0, 0)) ∧ us'.size = us.size ∧ More us us' vs m l.length) → l.length + 1 ≤ cap →
      ∃ ru pr', e = .returned ru ∧ BelowB (bdE w.heap.size pr tg.blk) w w' ∧ (∀ k o, ¬ (bdE w.heap.size pr tg.blk).mine k → (pr' k o ↔ pr k o)) ∧ (∀ k o, pr' k o → k < w'.heap.size) ∧ RetE (bdE w.heap.size pr tg.blk) w' pr' tg.val tg.blk (.own ei.ty (l.take m ++ [x] ++ l.drop m)) [] ru := by
    rintro e w' ⟨rfl, hB, us', q1, q2, hM⟩ hroom
    have hBw := hB (bdE w.heap.size pr tg.blk) (.inr hb)
    have hkp : PrKeeps w pr w' pr := fun k' o p => ⟨p, cell_heap (hBw.block k' (fun hm => by
      rcases hm with h | h
      · have := hlt k' o p
        have h : w.heap.size ≤ k' := h
        omega
      · rw [hb] at h
        cases h
        exact R.prno rfl o p)) o⟩
    refine ⟨_, pr, rfl, hBw, fun _ _ _ => Iff.rfl, fun k' o p => Nat.lt_of_lt_of_le (hlt k' o p) hBw.size, some k, ⟨.slice (some ⟨k, 0, none⟩) (l.length + 1) cap, some k, ei.ty.size⟩, ⟨rfl, .inr ⟨k, cap, by rw [hnl], rfl, ?_⟩⟩, rfl, rfl, fun k' hk' => by cases hk'; exact Nat.lt_of_lt_of_le hkw hBw.size⟩
    exact ⟨.inr hb, by rw [hnl]; exact hroom, ⟨us', e0, (0, 0), q1, thawT0 _ _ _, by rw [q2, hT]; exact r3, (rowOf_more hT hil r4 hvl hvx hM).keeps hkp⟩, fun o p => absurd p (R.prno rfl o), (fun h => by cases h), R.prno⟩
  rw [hv]
  have hol : (us.toList.take (l.length * 4)).length = l.length * 4 := by rw [List.length_take, Nat.min_eq_left (by simpa using hnz)]
  by_cases hm : m = l.length
  · by_cases hroom : l.length + 1 ≤ cap
    · subst hm
      refine (walk_fit E.info (by rw [E.size, hsz]) k l.length cap us e0 w r1 hroom r3 av vc vs hA).mono fun e w' h => ?_
      have := same h hroom
      rwa [hv] at this
    · subst hm
      refine (walk_new E hsz hby0 (some ⟨k, 0, none⟩) l.length cap (.inr ⟨k, rfl⟩) (us.toList.take (l.length * 4)) w (fun w' hw' => ?_) hol R.len hroom hbig av vc vs hA).mono fun e w' h => ?_
      · rw [hsz]
        exact run_firstCells_some w' 4 l.length ⟨k, 0, none⟩ l.length cap _ hol (fun j v hj => by
          rw [Addr.add_lit, cell_same_heap hw']
          rw [List.getElem?_take] at hj
          split at hj
          · show w.cell? ⟨k, 0 + j, none⟩ = some v
            simpa [World.cell?, r1] using hj
          · cases hj)
      · have := fresh (rowOf_take hT r4) h
        rwa [hv] at this
  · have hlt' : m < l.length := by omega
    by_cases hroom : l.length + 1 ≤ cap
    · have hne : av.block ≠ k := fun h => by
        have := hv0.2
        rw [hab, h] at this
        exact R.prno rfl _ this
      refine (walk_shift E.info (by rw [E.size, hsz]) k l.length cap m us e0 w r1 hlt' hroom r3 hl hone av vc vs hA hne).mono fun e w' h => ?_
      have := same h hroom
      rwa [hv] at this
    · refine (walk_grow E hsz k l.length cap m us e0 (0, 0) w r1 hlt' R.len hroom r3 hl hbig hone av vc vs hA).mono fun e w' h => ?_
      have := fresh r4 h
      rwa [hv] at this
end Go.Proofs.YtjgnpmdbkgeakaaDoor.Ins211
end
section
set_option linter.unusedVariables false
set_option linter.unusedSimpArgs false
namespace Go.Proofs.YtjgnpmdbkgeakaaDoor.G
open Go Go.Proofs.YtjgnpmdbkgeakaaDoor.Th
end Go.Proofs.YtjgnpmdbkgeakaaDoor.G
end
