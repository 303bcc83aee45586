/- functions -/
import Derived.Test.YtjgnpmdbkgeakaaDoorThU
import Derived.Test.YtjgnpmdbkgeakaaDoorSigns
import Derived.Test.YtjgnpmdbkgeakaaDoorSum
import Derived.Test.YtjgnpmdbkgeakaaDoorProg
import Derived.KernelRfl
set_option linter.unusedVariables false
set_option linter.unusedSimpArgs false
namespace Go.Proofs.YtjgnpmdbkgeakaaDoor.G
open Go Go.Proofs.YtjgnpmdbkgeakaaDoor.Th
def til : List (Nat × TInfo) := [
  (3, ⟨.int .i64, 1, 8, (.int .i64), [.int .i64 0], [], [], true, false, [], []⟩),
  (4, ⟨.bool, 1, 1, .bool, [.bool false], [], [], true, false, [], []⟩),
  (5, ⟨.int .u8, 1, 1, (.int .u8), [.int .u8 0], [], [], true, false, [], []⟩),
  (9, ⟨.str, 1, 16, .str, [.str []], [], [], true, false, [], [(229, 8)]⟩),
  (22, ⟨.int .u64, 1, 8, (.int .u64), [.int .u64 0], [], [], true, false, [], []⟩),
  (23, ⟨.int .u32, 1, 4, (.int .u32), [.int .u32 0], [], [], true, false, [], []⟩),
  (25, ⟨.struct, 6, 72, (.st (.cons (.int .i64) (.cons .str (.cons (.int .u64) (.cons (.int .u32) (.cons .str (.cons .str .nil))))))), [.int .i64 0, .str [], .int .u64 0, .int .u32 0, .str [], .str []], [(0, 3), (1, 9), (2, 22), (3, 23), (4, 9), (5, 9)], [1, 1, 1, 1, 1, 1], true, true, [], []⟩),
  (27, ⟨.struct, 2, 24, (.st (.cons (.int .u32) (.cons .str .nil))), [.int .u32 0, .str []], [(0, 23), (1, 9)], [1, 1], true, true, [], []⟩),
  (37, ⟨.slice 160, 1, 24, (.slice (.st (.cons (.int .i64) (.cons .str .nil)))), [.nilsl], [], [], true, false, [], []⟩),
  (39, ⟨.struct, 2, 40, (.st (.cons .str (.cons (.slice (.st (.cons (.int .i64) (.cons .str .nil)))) .nil))), [.str [], .nilsl], [(0, 9), (1, 37)], [1, 1], true, false, [], []⟩),
  (41, ⟨.int .i64, 1, 8, (.int .i64), [.int .i64 0], [], [], true, false, [], []⟩),
  (54, ⟨.struct, 8, 88, (.st (.cons (.st (.cons (.int .u32) (.cons .str .nil))) (.cons (.int .i64) (.cons .str (.cons (.int .u64) (.cons .str (.cons (.int .i64) (.cons (.int .i64) .nil)))))))), [.int .u32 0, .str [], .int .i64 0, .str [], .int .u64 0, .str [], .int .i64 0, .int .i64 0], [(0, 27), (2, 3), (3, 9), (4, 22), (5, 9), (6, 3), (7, 3)], [2, 1, 1, 1, 1, 1, 1], true, true, [], []⟩),
  (56, ⟨.struct, 7, 80, (.st (.cons (.int .i64) (.cons (.st (.cons (.int .i64) (.cons .str (.cons (.int .u64) (.cons (.int .u32) (.cons .str (.cons .str .nil))))))) .nil))), [.int .i64 0, .int .i64 0, .str [], .int .u64 0, .int .u32 0, .str [], .str []], [(0, 3), (1, 25)], [1, 6], true, true, [], []⟩),
  (58, ⟨.slice 25, 1, 24, (.slice (.st (.cons (.int .i64) (.cons .str (.cons (.int .u64) (.cons (.int .u32) (.cons .str (.cons .str .nil)))))))), [.nilsl], [], [], true, false, [], []⟩),
  (60, ⟨.struct, 12, 152, (.st (.cons (.st (.cons (.st (.cons (.int .u32) (.cons .str .nil))) (.cons (.int .i64) (.cons .str (.cons (.int .u64) (.cons .str (.cons (.int .i64) (.cons (.int .i64) .nil)))))))) (.cons (.slice (.st (.cons (.int .i64) (.cons .str (.cons (.int .u64) (.cons (.int .u32) (.cons .str (.cons .str .nil)))))))) (.cons (.slice (.st (.cons (.int .i64) (.cons .str (.cons (.int .u64) (.cons (.int .u32) (.cons .str (.cons .str .nil)))))))) (.cons (.int .i64) (.cons .bool .nil)))))), [.int .u32 0, .str [], .int .i64 0, .str [], .int .u64 0, .str [], .int .i64 0, .int .i64 0, .nilsl, .nilsl, .int .i64 0, .bool false], [(0, 54), (8, 58), (9, 58), (10, 3), (11, 4)], [8, 1, 1, 1, 1], true, false, [], []⟩),
  (69, ⟨.slice 56, 1, 24, (.slice (.st (.cons (.int .i64) (.cons (.st (.cons (.int .i64) (.cons .str (.cons (.int .u64) (.cons (.int .u32) (.cons .str (.cons .str .nil))))))) .nil)))), [.nilsl], [], [], true, false, [], []⟩),
  (110, ⟨.slice 5, 1, 24, (.slice (.int .u8)), [.nilsl], [], [], true, false, [], []⟩),
  (160, ⟨.struct, 2, 24, (.st (.cons (.int .i64) (.cons .str .nil))), [.int .i64 0, .str []], [(0, 3), (1, 9)], [1, 1], true, true, [], []⟩),
  (161, ⟨.slice 9, 1, 24, (.slice .str), [.nilsl], [], [], true, false, [], []⟩),
  (169, ⟨.slice 3, 1, 24, (.slice (.int .i64)), [.nilsl], [], [], true, false, [], []⟩),
  (175, ⟨.struct, 20, 240, (.st (.cons (.st (.cons (.st (.cons (.st (.cons (.int .u32) (.cons .str .nil))) (.cons (.int .i64) (.cons .str (.cons (.int .u64) (.cons .str (.cons (.int .i64) (.cons (.int .i64) .nil)))))))) (.cons (.slice (.st (.cons (.int .i64) (.cons .str (.cons (.int .u64) (.cons (.int .u32) (.cons .str (.cons .str .nil)))))))) (.cons (.slice (.st (.cons (.int .i64) (.cons .str (.cons (.int .u64) (.cons (.int .u32) (.cons .str (.cons .str .nil)))))))) (.cons (.int .i64) (.cons .bool .nil)))))) (.cons (.st (.cons (.int .i64) (.cons (.st (.cons (.int .i64) (.cons .str (.cons (.int .u64) (.cons (.int .u32) (.cons .str (.cons .str .nil))))))) .nil))) (.cons (.int .i64) .nil)))), [.int .u32 0, .str [], .int .i64 0, .str [], .int .u64 0, .str [], .int .i64 0, .int .i64 0, .nilsl, .nilsl, .int .i64 0, .bool false, .int .i64 0, .int .i64 0, .str [], .int .u64 0, .int .u32 0, .str [], .str [], .int .i64 0], [(0, 60), (12, 56), (19, 3)], [12, 7, 1], true, false, [], []⟩),
  (222, ⟨.struct, 3, 24, (.st (.cons (.int .i64) (.cons (.int .i64) (.cons (.int .i64) .nil)))), [.int .i64 0, .int .i64 0, .int .i64 0], [(0, 3), (1, 3), (2, 3)], [1, 1, 1], true, true, [], []⟩),
  (266, ⟨.slice 222, 1, 24, (.slice (.st (.cons (.int .i64) (.cons (.int .i64) (.cons (.int .i64) .nil))))), [.nilsl], [], [], true, false, [], []⟩),
  (268, ⟨.struct, 2, 16, (.st (.cons (.int .i64) (.cons (.int .i64) .nil))), [.int .i64 0, .int .i64 0], [(0, 3), (1, 3)], [1, 1], true, true, [("paydesk/field.ahead", 245), ("paydesk/field.sized", 246)], []⟩),
  (270, ⟨.struct, 1, 8, (.st (.cons (.int .i64) .nil)), [.int .i64 0], [(0, 3)], [1], true, true, [("paydesk/field.ahead", 247), ("paydesk/field.sized", 248)], []⟩)
]
noncomputable def TI : TEnv := tiOf til
theorem hT : TIok Tryd.prog TI := TIok.of (by kernel_rfl)
theorem hm : Tryd.prog.follows .mixedOrders = true := rfl
noncomputable def O_0 (_ : Nat) : Orc := fun _ _ _ _ => none
theorem ok_O_0 (k : Nat) : OrcOK (O_0 k) (CallOK Tryd.prog) := orc_none
/-! 175: paydesk/field.Def -/
noncomputable def c175 : Code := Tryd.f175.body.getD .skip
noncomputable def mi175 : Msk := ⟨[(.tmp 0, .val (.int .i64))], []⟩
noncomputable def mo175 : Msk := ⟨[(.res 2, .val (.st (.cons (.int .i64) (.cons (.int .i64) (.cons (.int .i64) .nil))))), (.tmp 3, .val .bool)], []⟩
noncomputable def L175_2 (k : Nat) : LOrc := fun _ _ _ _ => none
noncomputable def b175_2 : Code := (findLoop 2 c175).getD .skip
noncomputable def m175_2 : Msk := ⟨[(.tmp 0, .val (.int .i64)), (.tmp 2, .ptr 2 0), (.tmp 21, .row false (.st (.cons (.int .i64) (.cons (.int .i64) (.cons (.int .i64) .nil))))), (.tmp 22, .val (.int .i64)), (.tmp 23, .val (.int .i64)), (.cell 2 0, .val (.int .i64)), (.cell 2 1, .val (.int .i64)), (.cell 2 2, .val (.int .i64))], [(2, 3)]⟩
noncomputable def x175_2 : List (X × Msk) := [(.exit 0, ⟨[(.tmp 2, .ptr 2 0), (.cell 2 0, .val (.int .i64)), (.cell 2 1, .val (.int .i64)), (.cell 2 2, .val (.int .i64))], [(2, 3)]⟩), (.ret, ⟨[(.tmp 2, .ptr 2 0), (.tmp 3, .val .bool), (.cell 2 0, .val (.int .i64)), (.cell 2 1, .val (.int .i64)), (.cell 2 2, .val (.int .i64))], [(2, 3)]⟩)]
noncomputable def F175_2 (k : Nat) : Nat → m175_2.den → Option (denE x175_2)
  | 0, _ => none
  | j + 1, v => round TI (O_0 k) (L175_2 k) b175_2 m175_2 x175_2 (F175_2 k j) v
theorem lk175_2_ (k : Nat) : LinksOK Tryd.prog 34 (L175_2 k) b175_2 := (And.intro True.intro (And.intro (And.intro True.intro True.intro) (And.intro (And.intro True.intro (And.intro True.intro (And.intro (And.intro True.intro True.intro) True.intro))) True.intro)))
noncomputable def L175 (k : Nat) : LOrc := fun R lk s K => match lk with
  | .loop r => bif Nat.beq r 2 then link m175_2 x175_2 (F175_2 k k) s K else none
  | .label l => none
theorem lk_L175_2 (k : Nat) : LoopOK Tryd.prog 34 (L175 k) b175_2 := loopOK_of hm hT (ok_O_0 k) (fun _ _ _ h => h) rfl (lk175_2_ k) rfl rfl (F := F175_2 k) (fun _ => rfl) (fun _ _ => rfl) (n := k) fun _ _ _ => rfl
noncomputable def F175 (k : Nat) (v : mi175.den) : Option mo175.den := runF TI (O_0 k) (L175 k) c175 mi175 mo175 v
theorem lk175 (k : Nat) : LinksOK Tryd.prog 34 (L175 k) c175 := (And.intro True.intro (And.intro (And.intro True.intro (lk_L175_2 k)) (And.intro True.intro True.intro)))
theorem fn175 (k : Nat) (args : List AV) (x : mi175.den) (r : mo175.den) (h1 : args.length = mi175.items.length) (h2 : mi175.dec (Th.start args) = some x) (h3 : F175 k x = some r) : CallOK Tryd.prog 175 args (ansOf (outL mo175.items r)) :=
  call_of hm hT (ok_O_0 k) (fn := Tryd.f175) (c := c175) Tryd.func175 rfl rfl rfl (lk175 k) rfl (by decide) rfl h1 h2 h3
noncomputable def O175 (k : Nat) : Orc := fun R f args K => bif Nat.beq f 175 then callF mi175 mo175 (F175 k) args K else O_0 k R f args K
theorem ok_O175 (k : Nat) : OrcOK (O175 k) (CallOK Tryd.prog) := orc_add (fn175 k) (ok_O_0 k)

/-! 176: paydesk/field.formOf -/
noncomputable def c176 : Code := Tryd.f176.body.getD .skip
noncomputable def mi176 : Msk := ⟨[(.tmp 0, .val (.st (.cons (.int .i64) (.cons (.int .i64) (.cons (.int .i64) .nil)))))], []⟩
noncomputable def mo176 : List Msk := [⟨[(.tmp 2, .val (.ifc 268 (.st (.cons (.int .i64) (.cons (.int .i64) .nil)))))], []⟩, ⟨[(.tmp 2, .val (.ifc 270 (.st (.cons (.int .i64) .nil))))], []⟩]
noncomputable def L176 (k : Nat) : LOrc := fun _ _ _ _ => none
noncomputable def F176 (k : Nat) (v : mi176.den) : Option (denA mo176) := runA TI (O175 k) (L176 k) c176 mi176 mo176 v
theorem lk176 (k : Nat) : LinksOK Tryd.prog 22 (L176 k) c176 := (And.intro True.intro (And.intro (And.intro True.intro (And.intro (And.intro True.intro (And.intro True.intro True.intro)) (And.intro (And.intro True.intro True.intro) (And.intro True.intro (And.intro (And.intro True.intro True.intro) True.intro))))) (And.intro True.intro True.intro)))
theorem fn176 (k : Nat) (args : List AV) (x : mi176.den) (r : (denA mo176)) (h1 : args.length = mi176.items.length) (h2 : mi176.dec (Th.start args) = some x) (h3 : F176 k x = some r) : CallOK Tryd.prog 176 args (valA mo176 r) :=
  call_ofA hm hT (ok_O175 k) (fn := Tryd.f176) (c := c176) Tryd.func176 rfl rfl rfl (lk176 k) rfl (by decide) rfl h1 h2 h3
noncomputable def O176 (k : Nat) : Orc := fun R f args K => bif Nat.beq f 176 then callA mi176 mo176 (F176 k) args K else O175 k R f args K
theorem ok_O176 (k : Nat) : OrcOK (O176 k) (CallOK Tryd.prog) := orc_addA (fn176 k) (ok_O175 k)

/-! 246: (paydesk/field.loose).sized -/
noncomputable def c246 : Code := Tryd.f246.body.getD .skip
noncomputable def mi246 : Msk := ⟨[(.tmp 0, .val (.st (.cons (.int .i64) (.cons (.int .i64) .nil)))), (.tmp 1, .val (.int .i64))], []⟩
noncomputable def mo246 : Msk := ⟨[(.tmp 4, .val .bool)], []⟩
noncomputable def L246 (k : Nat) : LOrc := fun _ _ _ _ => none
noncomputable def F246 (k : Nat) (v : mi246.den) : Option mo246.den := runF TI (O176 k) (L246 k) c246 mi246 mo246 v
theorem lk246 (k : Nat) : LinksOK Tryd.prog 13 (L246 k) c246 := (And.intro True.intro (And.intro True.intro True.intro))
theorem fn246 (k : Nat) (args : List AV) (x : mi246.den) (r : mo246.den) (h1 : args.length = mi246.items.length) (h2 : mi246.dec (Th.start args) = some x) (h3 : F246 k x = some r) : CallOK Tryd.prog 246 args (ansOf (outL mo246.items r)) :=
  call_of hm hT (ok_O176 k) (fn := Tryd.f246) (c := c246) Tryd.func246 rfl rfl rfl (lk246 k) rfl (by decide) rfl h1 h2 h3
noncomputable def O246 (k : Nat) : Orc := fun R f args K => bif Nat.beq f 246 then callF mi246 mo246 (F246 k) args K else O176 k R f args K
theorem ok_O246 (k : Nat) : OrcOK (O246 k) (CallOK Tryd.prog) := orc_add (fn246 k) (ok_O176 k)

/-! 248: (paydesk/field.fixed).sized -/
noncomputable def c248 : Code := Tryd.f248.body.getD .skip
noncomputable def mi248 : Msk := ⟨[(.tmp 0, .val (.st (.cons (.int .i64) .nil))), (.tmp 1, .val (.int .i64))], []⟩
noncomputable def mo248 : Msk := ⟨[(.tmp 4, .val .bool)], []⟩
noncomputable def L248 (k : Nat) : LOrc := fun _ _ _ _ => none
noncomputable def F248 (k : Nat) (v : mi248.den) : Option mo248.den := runF TI (O246 k) (L248 k) c248 mi248 mo248 v
theorem lk248 (k : Nat) : LinksOK Tryd.prog 9 (L248 k) c248 := (And.intro True.intro (And.intro True.intro True.intro))
theorem fn248 (k : Nat) (args : List AV) (x : mi248.den) (r : mo248.den) (h1 : args.length = mi248.items.length) (h2 : mi248.dec (Th.start args) = some x) (h3 : F248 k x = some r) : CallOK Tryd.prog 248 args (ansOf (outL mo248.items r)) :=
  call_of hm hT (ok_O246 k) (fn := Tryd.f248) (c := c248) Tryd.func248 rfl rfl rfl (lk248 k) rfl (by decide) rfl h1 h2 h3
noncomputable def O248 (k : Nat) : Orc := fun R f args K => bif Nat.beq f 248 then callF mi248 mo248 (F248 k) args K else O246 k R f args K
theorem ok_O248 (k : Nat) : OrcOK (O248 k) (CallOK Tryd.prog) := orc_add (fn248 k) (ok_O246 k)

/-! 169: paydesk/digit.Is -/
noncomputable def c169 : Code := Tryd.f169.body.getD .skip
noncomputable def mi169 : Msk := ⟨[(.tmp 0, .val .str)], []⟩
noncomputable def mo169 : Msk := ⟨[(.tmp 2, .val .bool)], []⟩
noncomputable def L169_g0 (k : Nat) : LOrc := fun _ _ _ _ => none
noncomputable def b169_g0 : Code := (findScope 0 c169).getD .skip
noncomputable def l169_g0 : List (X × Msk) := [(.goto 0, ⟨[(.tmp 0, .val .str), (.tmp 3, .val (.int .i64))], []⟩)]
noncomputable def x169_g0 : List (X × Msk) := [(.ret, ⟨[(.tmp 2, .val .bool)], []⟩)]
noncomputable def F169_g0 (k : Nat) : Nat → denE l169_g0 → Option (denE x169_g0)
  | 0, _ => none
  | j + 1, v => pass TI (O248 k) (L169_g0 k) b169_g0 l169_g0 x169_g0 (F169_g0 k j) v
theorem lk169_g0_ (k : Nat) : LinksOK Tryd.prog 22 (L169_g0 k) b169_g0 := (And.intro True.intro (And.intro True.intro (And.intro (And.intro True.intro (And.intro (And.intro True.intro True.intro) True.intro)) (And.intro (And.intro True.intro (And.intro (And.intro True.intro True.intro) True.intro)) (And.intro True.intro True.intro)))))
noncomputable def L169 (k : Nat) : LOrc := fun R lk s K => match lk with
  | .loop r => none
  | .label l => (match findLabel b169_g0 l with | some _ => linkJ l169_g0 x169_g0 (F169_g0 k k) l s K | none => none)
theorem lk_L169_g0 (k : Nat) : JumpsOK Tryd.prog 22 (L169 k) b169_g0 := jumpsOK_of hm hT (ok_O248 k) (fun _ _ _ h => h) rfl (lk169_g0_ k) rfl rfl (F := F169_g0 k) (fun _ => rfl) (fun _ _ => rfl) (n := k) fun R l s K rest hf => by
  show (match findLabel b169_g0 l with | some _ => linkJ l169_g0 x169_g0 (F169_g0 k k) l s K | none => none) = _
  rw [hf]
noncomputable def F169 (k : Nat) (v : mi169.den) : Option mo169.den := runF TI (O248 k) (L169 k) c169 mi169 mo169 v
theorem lk169 (k : Nat) : LinksOK Tryd.prog 22 (L169 k) c169 := (And.intro True.intro (And.intro (lk_L169_g0 k) (And.intro True.intro (And.intro True.intro (And.intro (And.intro True.intro (And.intro (And.intro True.intro True.intro) True.intro)) (And.intro (And.intro True.intro (And.intro (And.intro True.intro True.intro) True.intro)) (And.intro True.intro True.intro)))))))
theorem fn169 (k : Nat) (args : List AV) (x : mi169.den) (r : mo169.den) (h1 : args.length = mi169.items.length) (h2 : mi169.dec (Th.start args) = some x) (h3 : F169 k x = some r) : CallOK Tryd.prog 169 args (ansOf (outL mo169.items r)) :=
  call_of hm hT (ok_O248 k) (fn := Tryd.f169) (c := c169) Tryd.func169 rfl rfl rfl (lk169 k) rfl (by decide) rfl h1 h2 h3
noncomputable def O169 (k : Nat) : Orc := fun R f args K => bif Nat.beq f 169 then callF mi169 mo169 (F169 k) args K else O248 k R f args K
theorem ok_O169 (k : Nat) : OrcOK (O169 k) (CallOK Tryd.prog) := orc_add (fn169 k) (ok_O248 k)

/-! 177: paydesk/field.signs (walked by hand) -/
noncomputable def F177 (k : Nat) (v : (Int × Int × Int × Unit) × List UInt8 × Unit) : Option (Bool × Unit) := sel (decide (v.2.1.length ≤ 9223372036854775807)) (ocall (α := Bool × Unit) (F169 k ((v.2.1, ()) : List UInt8 × Unit)) fun r => some (Signs.signsOf v.1.2.1 r.1 v.2.1, ())) none
noncomputable def O177 (k : Nat) : Orc := fun R f args K => bif Nat.beq f 177 then (match args with | [.agg [.int .i64 a, .int .i64 b, .int .i64 c], .str s] => ocall (F177 k ((a, b, c, ()), s, ())) fun r => K (.bool r.1) | _ => none) else O169 k R f args K
theorem ok_O177 (k : Nat) : OrcOK (O177 k) (CallOK Tryd.prog) := by
  intro R f args K r h
  unfold O177 at h
  cases hb : Nat.beq f 177 with
  | false => rw [hb] at h; exact ok_O169 k R f args K r h
  | true =>
    rw [hb] at h
    rw [Nat.eq_of_beq_eq_true hb]
    simp only [cond_true] at h
    split at h
    · rename_i a b c s
      obtain ⟨y, hy, h⟩ := obind_some h
      unfold F177 at hy
      by_cases hl : s.length ≤ 9223372036854775807
      · rw [sel_pos hl] at hy
        obtain ⟨d, hd, hy⟩ := obind_some hy
        cases hy
        exact ⟨_, Signs.fn177 a b c s hl d.1 (fn169 k [.str s] ((s, ()) : List UInt8 × Unit) d rfl rfl hd), h⟩
      · rw [sel_neg hl] at hy; cases hy
    · cases h

/-! 117: paydesk/field.Right -/
noncomputable def c117 : Code := Tryd.f117.body.getD .skip
noncomputable def mi117 : Msk := ⟨[(.tmp 0, .val (.int .i64)), (.tmp 1, .val .str)], []⟩
noncomputable def mo117 : Msk := ⟨[(.tmp 4, .val .bool)], []⟩
noncomputable def L117 (k : Nat) : LOrc := fun _ _ _ _ => none
noncomputable def F117 (k : Nat) (v : mi117.den) : Option mo117.den := runF TI (O177 k) (L117 k) c117 mi117 mo117 v
theorem lk117 (k : Nat) : LinksOK Tryd.prog 25 (L117 k) c117 := (And.intro True.intro (And.intro True.intro (And.intro True.intro True.intro)))
theorem fn117 (k : Nat) (args : List AV) (x : mi117.den) (r : mo117.den) (h1 : args.length = mi117.items.length) (h2 : mi117.dec (Th.start args) = some x) (h3 : F117 k x = some r) : CallOK Tryd.prog 117 args (ansOf (outL mo117.items r)) :=
  call_of hm hT (ok_O177 k) (fn := Tryd.f117) (c := c117) Tryd.func117 rfl rfl rfl (lk117 k) rfl (by decide) rfl h1 h2 h3
noncomputable def O117 (k : Nat) : Orc := fun R f args K => bif Nat.beq f 117 then callF mi117 mo117 (F117 k) args K else O177 k R f args K
theorem ok_O117 (k : Nat) : OrcOK (O117 k) (CallOK Tryd.prog) := orc_add (fn117 k) (ok_O177 k)

/-! 245: (paydesk/field.loose).ahead -/
noncomputable def c245 : Code := Tryd.f245.body.getD .skip
noncomputable def mi245 : Msk := ⟨[(.tmp 0, .val (.st (.cons (.int .i64) (.cons (.int .i64) .nil))))], []⟩
noncomputable def mo245 : Msk := ⟨[(.tmp 2, .val (.int .i64))], []⟩
noncomputable def L245 (k : Nat) : LOrc := fun _ _ _ _ => none
noncomputable def F245 (k : Nat) (v : mi245.den) : Option mo245.den := runF TI (O117 k) (L245 k) c245 mi245 mo245 v
theorem lk245 (k : Nat) : LinksOK Tryd.prog 5 (L245 k) c245 := (And.intro True.intro (And.intro True.intro True.intro))
theorem fn245 (k : Nat) (args : List AV) (x : mi245.den) (r : mo245.den) (h1 : args.length = mi245.items.length) (h2 : mi245.dec (Th.start args) = some x) (h3 : F245 k x = some r) : CallOK Tryd.prog 245 args (ansOf (outL mo245.items r)) :=
  call_of hm hT (ok_O117 k) (fn := Tryd.f245) (c := c245) Tryd.func245 rfl rfl rfl (lk245 k) rfl (by decide) rfl h1 h2 h3
noncomputable def O245 (k : Nat) : Orc := fun R f args K => bif Nat.beq f 245 then callF mi245 mo245 (F245 k) args K else O117 k R f args K
theorem ok_O245 (k : Nat) : OrcOK (O245 k) (CallOK Tryd.prog) := orc_add (fn245 k) (ok_O117 k)

/-! 247: (paydesk/field.fixed).ahead -/
noncomputable def c247 : Code := Tryd.f247.body.getD .skip
noncomputable def mi247 : Msk := ⟨[(.tmp 0, .val (.st (.cons (.int .i64) .nil)))], []⟩
noncomputable def mo247 : Msk := ⟨[(.tmp 2, .val (.int .i64))], []⟩
noncomputable def L247 (k : Nat) : LOrc := fun _ _ _ _ => none
noncomputable def F247 (k : Nat) (v : mi247.den) : Option mo247.den := runF TI (O245 k) (L247 k) c247 mi247 mo247 v
theorem lk247 (k : Nat) : LinksOK Tryd.prog 3 (L247 k) c247 := (And.intro True.intro (And.intro True.intro True.intro))
theorem fn247 (k : Nat) (args : List AV) (x : mi247.den) (r : mo247.den) (h1 : args.length = mi247.items.length) (h2 : mi247.dec (Th.start args) = some x) (h3 : F247 k x = some r) : CallOK Tryd.prog 247 args (ansOf (outL mo247.items r)) :=
  call_of hm hT (ok_O245 k) (fn := Tryd.f247) (c := c247) Tryd.func247 rfl rfl rfl (lk247 k) rfl (by decide) rfl h1 h2 h3
noncomputable def O247 (k : Nat) : Orc := fun R f args K => bif Nat.beq f 247 then callF mi247 mo247 (F247 k) args K else O245 k R f args K
theorem ok_O247 (k : Nat) : OrcOK (O247 k) (CallOK Tryd.prog) := orc_add (fn247 k) (ok_O245 k)

/-! 105: paydesk/digit.Put -/
noncomputable def c105 : Code := Tryd.f105.body.getD .skip
noncomputable def mi105 : Msk := ⟨[(.tmp 0, .val (.int .u64)), (.tmp 1, .val (.int .i64))], []⟩
noncomputable def mo105 : Msk := ⟨[(.tmp 4, .val .str), (.tmp 5, .val (.int .i64))], []⟩
noncomputable def L105_5 (k : Nat) : LOrc := fun _ _ _ _ => none
noncomputable def b105_5 : Code := (findLoop 5 c105).getD .skip
noncomputable def m105_5 : Msk := ⟨[(.tmp 0, .val (.int .u64)), (.tmp 6, .row false (.int .u8)), (.tmp 7, .val (.int .i64))], []⟩
noncomputable def x105_5 : List (X × Msk) := [(.exit 0, ⟨[(.tmp 0, .val (.int .u64)), (.tmp 6, .row false (.int .u8))], []⟩)]
noncomputable def F105_5 (k : Nat) : Nat → m105_5.den → Option (denE x105_5)
  | 0, _ => none
  | j + 1, v => round TI (O247 k) (L105_5 k) b105_5 m105_5 x105_5 (F105_5 k j) v
theorem lk105_5_ (k : Nat) : LinksOK Tryd.prog 35 (L105_5 k) b105_5 := (And.intro (And.intro True.intro (And.intro True.intro True.intro)) (And.intro (And.intro True.intro True.intro) True.intro))
noncomputable def L105 (k : Nat) : LOrc := fun R lk s K => match lk with
  | .loop r => bif Nat.beq r 5 then link m105_5 x105_5 (F105_5 k k) s K else none
  | .label l => none
theorem lk_L105_5 (k : Nat) : LoopOK Tryd.prog 35 (L105 k) b105_5 := loopOK_of hm hT (ok_O247 k) (fun _ _ _ h => h) rfl (lk105_5_ k) rfl rfl (F := F105_5 k) (fun _ => rfl) (fun _ _ => rfl) (n := k) fun _ _ _ => rfl
noncomputable def F105 (k : Nat) (v : mi105.den) : Option mo105.den := runF TI (O247 k) (L105 k) c105 mi105 mo105 v
theorem lk105 (k : Nat) : LinksOK Tryd.prog 35 (L105 k) c105 := (And.intro True.intro (And.intro (And.intro True.intro (And.intro (And.intro True.intro True.intro) True.intro)) (And.intro True.intro (And.intro (And.intro True.intro (lk_L105_5 k)) (And.intro (And.intro True.intro (And.intro (And.intro True.intro True.intro) True.intro)) (And.intro True.intro True.intro))))))
theorem fn105 (k : Nat) (args : List AV) (x : mi105.den) (r : mo105.den) (h1 : args.length = mi105.items.length) (h2 : mi105.dec (Th.start args) = some x) (h3 : F105 k x = some r) : CallOK Tryd.prog 105 args (ansOf (outL mo105.items r)) :=
  call_of hm hT (ok_O247 k) (fn := Tryd.f105) (c := c105) Tryd.func105 rfl rfl rfl (lk105 k) rfl (by decide) rfl h1 h2 h3
noncomputable def O105 (k : Nat) : Orc := fun R f args K => bif Nat.beq f 105 then callF mi105 mo105 (F105 k) args K else O247 k R f args K
theorem ok_O105 (k : Nat) : OrcOK (O105 k) (CallOK Tryd.prog) := orc_add (fn105 k) (ok_O247 k)

/-! 139: paydesk/field.Write -/
noncomputable def c139 : Code := Tryd.f139.body.getD .skip
noncomputable def mi139 : Msk := ⟨[(.tmp 0, .val (.int .i64)), (.tmp 1, .val .str)], []⟩
noncomputable def mo139 : Msk := ⟨[(.tmp 4, .row false (.int .u8)), (.tmp 5, .val (.int .i64))], []⟩
noncomputable def L139 (k : Nat) : LOrc := fun _ _ _ _ => none
noncomputable def F139 (k : Nat) (v : mi139.den) : Option mo139.den := runF TI (O105 k) (L139 k) c139 mi139 mo139 v
theorem lk139 (k : Nat) : LinksOK Tryd.prog 42 (L139 k) c139 := (And.intro True.intro (And.intro True.intro (And.intro (And.intro True.intro (And.intro (And.intro True.intro True.intro) (And.intro True.intro (And.intro (And.intro True.intro True.intro) True.intro)))) (And.intro (And.intro True.intro (And.intro True.intro (And.intro (And.intro True.intro True.intro) True.intro))) (And.intro True.intro True.intro)))))
theorem fn139 (k : Nat) (args : List AV) (x : mi139.den) (r : mo139.den) (h1 : args.length = mi139.items.length) (h2 : mi139.dec (Th.start args) = some x) (h3 : F139 k x = some r) : CallOK Tryd.prog 139 args (ansOf (outL mo139.items r)) :=
  call_of hm hT (ok_O105 k) (fn := Tryd.f139) (c := c139) Tryd.func139 rfl rfl rfl (lk139 k) rfl (by decide) rfl h1 h2 h3
noncomputable def O139 (k : Nat) : Orc := fun R f args K => bif Nat.beq f 139 then callF mi139 mo139 (F139 k) args K else O105 k R f args K
theorem ok_O139 (k : Nat) : OrcOK (O139 k) (CallOK Tryd.prog) := orc_add (fn139 k) (ok_O105 k)

/-! 172: paydesk/digit.Get -/
noncomputable def c172 : Code := Tryd.f172.body.getD .skip
noncomputable def mi172 : Msk := ⟨[(.tmp 0, .val .str)], []⟩
noncomputable def mo172 : Msk := ⟨[(.tmp 2, .val (.int .u64)), (.tmp 3, .val (.int .i64))], []⟩
noncomputable def L172_9 (k : Nat) : LOrc := fun _ _ _ _ => none
noncomputable def b172_9 : Code := (findLoop 9 c172).getD .skip
noncomputable def m172_9 : Msk := ⟨[(.tmp 4, .val (.int .u64)), (.tmp 19, .row false (.int .u8)), (.tmp 20, .val (.int .i64)), (.tmp 21, .val (.int .i64))], []⟩
noncomputable def x172_9 : List (X × Msk) := [(.exit 1, ⟨[(.tmp 4, .val (.int .u64))], []⟩)]
noncomputable def F172_9 (k : Nat) : Nat → m172_9.den → Option (denE x172_9)
  | 0, _ => none
  | j + 1, v => round TI (O139 k) (L172_9 k) b172_9 m172_9 x172_9 (F172_9 k j) v
theorem lk172_9_ (k : Nat) : LinksOK Tryd.prog 33 (L172_9 k) b172_9 := (And.intro True.intro (And.intro (And.intro True.intro True.intro) (And.intro (And.intro True.intro True.intro) True.intro)))
noncomputable def L172 (k : Nat) : LOrc := fun R lk s K => match lk with
  | .loop r => bif Nat.beq r 9 then link m172_9 x172_9 (F172_9 k k) s K else none
  | .label l => none
theorem lk_L172_9 (k : Nat) : LoopOK Tryd.prog 33 (L172 k) b172_9 := loopOK_of hm hT (ok_O139 k) (fun _ _ _ h => h) rfl (lk172_9_ k) rfl rfl (F := F172_9 k) (fun _ => rfl) (fun _ _ => rfl) (n := k) fun _ _ _ => rfl
noncomputable def F172 (k : Nat) (v : mi172.den) : Option mo172.den := runF TI (O139 k) (L172 k) c172 mi172 mo172 v
theorem lk172 (k : Nat) : LinksOK Tryd.prog 33 (L172 k) c172 := (And.intro True.intro (And.intro (And.intro True.intro (And.intro (And.intro True.intro True.intro) (And.intro True.intro (And.intro (And.intro True.intro True.intro) (And.intro True.intro (And.intro (And.intro True.intro True.intro) True.intro)))))) (And.intro True.intro (And.intro (And.intro True.intro (lk_L172_9 k)) (And.intro True.intro True.intro)))))
theorem fn172 (k : Nat) (args : List AV) (x : mi172.den) (r : mo172.den) (h1 : args.length = mi172.items.length) (h2 : mi172.dec (Th.start args) = some x) (h3 : F172 k x = some r) : CallOK Tryd.prog 172 args (ansOf (outL mo172.items r)) :=
  call_of hm hT (ok_O139 k) (fn := Tryd.f172) (c := c172) Tryd.func172 rfl rfl rfl (lk172 k) rfl (by decide) rfl h1 h2 h3
noncomputable def O172 (k : Nat) : Orc := fun R f args K => bif Nat.beq f 172 then callF mi172 mo172 (F172 k) args K else O139 k R f args K
theorem ok_O172 (k : Nat) : OrcOK (O172 k) (CallOK Tryd.prog) := orc_add (fn172 k) (ok_O139 k)

/-! 195: paydesk/field.length -/
noncomputable def c195 : Code := Tryd.f195.body.getD .skip
noncomputable def mi195 : Msk := ⟨[(.tmp 0, .val (.st (.cons (.int .i64) (.cons (.int .i64) (.cons (.int .i64) .nil))))), (.tmp 1, .val (.slice (.int .u8)))], []⟩
noncomputable def mo195 : Msk := ⟨[(.tmp 4, .val (.int .i64)), (.tmp 5, .val (.int .i64))], []⟩
noncomputable def L195 (k : Nat) : LOrc := fun _ _ _ _ => none
noncomputable def F195 (k : Nat) (v : mi195.den) : Option mo195.den := runF TI (O172 k) (L195 k) c195 mi195 mo195 v
theorem lk195 (k : Nat) : LinksOK Tryd.prog 41 (L195 k) c195 := (And.intro True.intro (And.intro True.intro (And.intro (And.intro True.intro (And.intro (And.intro True.intro True.intro) True.intro)) (And.intro (And.intro True.intro (And.intro (And.intro True.intro True.intro) True.intro)) (And.intro True.intro (And.intro (And.intro (And.intro True.intro (And.intro True.intro True.intro)) (And.intro (And.intro True.intro True.intro) (And.intro True.intro (And.intro (And.intro True.intro True.intro) True.intro)))) (And.intro True.intro True.intro)))))))
theorem fn195 (k : Nat) (args : List AV) (x : mi195.den) (r : mo195.den) (h1 : args.length = mi195.items.length) (h2 : mi195.dec (Th.start args) = some x) (h3 : F195 k x = some r) : CallOK Tryd.prog 195 args (ansOf (outL mo195.items r)) :=
  call_of hm hT (ok_O172 k) (fn := Tryd.f195) (c := c195) Tryd.func195 rfl rfl rfl (lk195 k) rfl (by decide) rfl h1 h2 h3
noncomputable def O195 (k : Nat) : Orc := fun R f args K => bif Nat.beq f 195 then callF mi195 mo195 (F195 k) args K else O172 k R f args K
theorem ok_O195 (k : Nat) : OrcOK (O195 k) (CallOK Tryd.prog) := orc_add (fn195 k) (ok_O172 k)

/-! 144: paydesk/field.Read -/
noncomputable def c144 : Code := Tryd.f144.body.getD .skip
noncomputable def mi144 : Msk := ⟨[(.tmp 0, .val (.int .i64)), (.tmp 1, .val (.slice (.int .u8)))], []⟩
noncomputable def mo144 : Msk := ⟨[(.tmp 4, .val .str), (.tmp 5, .val (.int .i64)), (.tmp 6, .val (.int .i64))], []⟩
noncomputable def L144 (k : Nat) : LOrc := fun _ _ _ _ => none
noncomputable def F144 (k : Nat) (v : mi144.den) : Option mo144.den := runF TI (O195 k) (L144 k) c144 mi144 mo144 v
theorem lk144 (k : Nat) : LinksOK Tryd.prog 51 (L144 k) c144 := (And.intro True.intro (And.intro True.intro (And.intro (And.intro True.intro (And.intro (And.intro True.intro True.intro) True.intro)) (And.intro True.intro (And.intro (And.intro True.intro (And.intro (And.intro True.intro True.intro) True.intro)) (And.intro True.intro (And.intro True.intro (And.intro (And.intro True.intro (And.intro (And.intro True.intro True.intro) True.intro)) (And.intro True.intro (And.intro (And.intro True.intro (And.intro (And.intro True.intro True.intro) True.intro)) (And.intro True.intro True.intro)))))))))))
theorem fn144 (k : Nat) (args : List AV) (x : mi144.den) (r : mo144.den) (h1 : args.length = mi144.items.length) (h2 : mi144.dec (Th.start args) = some x) (h3 : F144 k x = some r) : CallOK Tryd.prog 144 args (ansOf (outL mo144.items r)) :=
  call_of hm hT (ok_O195 k) (fn := Tryd.f144) (c := c144) Tryd.func144 rfl rfl rfl (lk144 k) rfl (by decide) rfl h1 h2 h3
noncomputable def O144 (k : Nat) : Orc := fun R f args K => bif Nat.beq f 144 then callF mi144 mo144 (F144 k) args K else O195 k R f args K
theorem ok_O144 (k : Nat) : OrcOK (O144 k) (CallOK Tryd.prog) := orc_add (fn144 k) (ok_O195 k)

/-! 202: paydesk/paydeskref03.Fields -/
noncomputable def c202 : Code := Tryd.f202.body.getD .skip
noncomputable def mi202 : Msk := ⟨[], []⟩
noncomputable def mo202 : Msk := ⟨[(.tmp 0, .row false (.int .i64))], []⟩
noncomputable def L202 (k : Nat) : LOrc := fun _ _ _ _ => none
noncomputable def F202 (k : Nat) (v : mi202.den) : Option mo202.den := runF TI (O144 k) (L202 k) c202 mi202 mo202 v
theorem lk202 (k : Nat) : LinksOK Tryd.prog 2 (L202 k) c202 := (And.intro True.intro (And.intro True.intro True.intro))
theorem fn202 (k : Nat) (args : List AV) (x : mi202.den) (r : mo202.den) (h1 : args.length = mi202.items.length) (h2 : mi202.dec (Th.start args) = some x) (h3 : F202 k x = some r) : CallOK Tryd.prog 202 args (ansOf (outL mo202.items r)) :=
  call_of hm hT (ok_O144 k) (fn := Tryd.f202) (c := c202) Tryd.func202 rfl rfl rfl (lk202 k) rfl (by decide) rfl h1 h2 h3
noncomputable def O202 (k : Nat) : Orc := fun R f args K => bif Nat.beq f 202 then callF mi202 mo202 (F202 k) args K else O144 k R f args K
theorem ok_O202 (k : Nat) : OrcOK (O202 k) (CallOK Tryd.prog) := orc_add (fn202 k) (ok_O144 k)

/-! 164: paydesk/paydeskref03.Def -/
noncomputable def c164 : Code := Tryd.f164.body.getD .skip
noncomputable def mi164 : Msk := ⟨[(.tmp 0, .val (.int .i64))], []⟩
noncomputable def mo164 : Msk := ⟨[(.res 2, .val (.st (.cons (.int .i64) (.cons (.int .i64) (.cons (.int .i64) .nil))))), (.tmp 3, .val .bool)], []⟩
noncomputable def L164_3 (k : Nat) : LOrc := fun _ _ _ _ => none
noncomputable def b164_3 : Code := (findLoop 3 c164).getD .skip
noncomputable def m164_3 : Msk := ⟨[(.tmp 0, .val (.int .i64)), (.tmp 2, .ptr 2 0), (.tmp 4, .row false (.int .i64)), (.tmp 5, .val (.int .i64)), (.cell 2 0, .val (.int .i64)), (.cell 2 1, .val (.int .i64)), (.cell 2 2, .val (.int .i64))], [(2, 3)]⟩
noncomputable def x164_3 : List (X × Msk) := [(.exit 0, ⟨[(.tmp 2, .ptr 2 0), (.cell 2 0, .val (.int .i64)), (.cell 2 1, .val (.int .i64)), (.cell 2 2, .val (.int .i64))], [(2, 3)]⟩), (.ret, ⟨[(.tmp 2, .ptr 2 0), (.tmp 3, .val .bool), (.cell 2 0, .val (.int .i64)), (.cell 2 1, .val (.int .i64)), (.cell 2 2, .val (.int .i64))], [(2, 3)]⟩)]
noncomputable def F164_3 (k : Nat) : Nat → m164_3.den → Option (denE x164_3)
  | 0, _ => none
  | j + 1, v => round TI (O202 k) (L164_3 k) b164_3 m164_3 x164_3 (F164_3 k j) v
theorem lk164_3_ (k : Nat) : LinksOK Tryd.prog 35 (L164_3 k) b164_3 := (And.intro (And.intro True.intro (And.intro True.intro True.intro)) (And.intro (And.intro True.intro (And.intro (And.intro True.intro True.intro) True.intro)) True.intro))
noncomputable def L164 (k : Nat) : LOrc := fun R lk s K => match lk with
  | .loop r => bif Nat.beq r 3 then link m164_3 x164_3 (F164_3 k k) s K else none
  | .label l => none
theorem lk_L164_3 (k : Nat) : LoopOK Tryd.prog 35 (L164 k) b164_3 := loopOK_of hm hT (ok_O202 k) (fun _ _ _ h => h) rfl (lk164_3_ k) rfl rfl (F := F164_3 k) (fun _ => rfl) (fun _ _ => rfl) (n := k) fun _ _ _ => rfl
noncomputable def F164 (k : Nat) (v : mi164.den) : Option mo164.den := runF TI (O202 k) (L164 k) c164 mi164 mo164 v
theorem lk164 (k : Nat) : LinksOK Tryd.prog 35 (L164 k) c164 := (And.intro True.intro (And.intro True.intro (And.intro (And.intro True.intro (lk_L164_3 k)) (And.intro True.intro True.intro))))
theorem fn164 (k : Nat) (args : List AV) (x : mi164.den) (r : mo164.den) (h1 : args.length = mi164.items.length) (h2 : mi164.dec (Th.start args) = some x) (h3 : F164 k x = some r) : CallOK Tryd.prog 164 args (ansOf (outL mo164.items r)) :=
  call_of hm hT (ok_O202 k) (fn := Tryd.f164) (c := c164) Tryd.func164 rfl rfl rfl (lk164 k) rfl (by decide) rfl h1 h2 h3
noncomputable def O164 (k : Nat) : Orc := fun R f args K => bif Nat.beq f 164 then callF mi164 mo164 (F164 k) args K else O202 k R f args K
theorem ok_O164 (k : Nat) : OrcOK (O164 k) (CallOK Tryd.prog) := orc_add (fn164 k) (ok_O202 k)

/-! 221: paydesk/paydeskref03.Ahead -/
noncomputable def c221 : Code := Tryd.f221.body.getD .skip
noncomputable def mi221 : Msk := ⟨[(.tmp 0, .val (.int .i64))], []⟩
noncomputable def mo221 : Msk := ⟨[(.tmp 2, .val (.int .i64))], []⟩
noncomputable def L221 (k : Nat) : LOrc := fun _ _ _ _ => none
noncomputable def F221 (k : Nat) (v : mi221.den) : Option mo221.den := runF TI (O164 k) (L221 k) c221 mi221 mo221 v
theorem lk221 (k : Nat) : LinksOK Tryd.prog 7 (L221 k) c221 := (And.intro True.intro (And.intro (And.intro True.intro (And.intro (And.intro True.intro True.intro) True.intro)) (And.intro (And.intro True.intro (And.intro (And.intro True.intro True.intro) True.intro)) (And.intro True.intro True.intro))))
theorem fn221 (k : Nat) (args : List AV) (x : mi221.den) (r : mo221.den) (h1 : args.length = mi221.items.length) (h2 : mi221.dec (Th.start args) = some x) (h3 : F221 k x = some r) : CallOK Tryd.prog 221 args (ansOf (outL mo221.items r)) :=
  call_of hm hT (ok_O164 k) (fn := Tryd.f221) (c := c221) Tryd.func221 rfl rfl rfl (lk221 k) rfl (by decide) rfl h1 h2 h3
noncomputable def O221 (k : Nat) : Orc := fun R f args K => bif Nat.beq f 221 then callF mi221 mo221 (F221 k) args K else O164 k R f args K
theorem ok_O221 (k : Nat) : OrcOK (O221 k) (CallOK Tryd.prog) := orc_add (fn221 k) (ok_O164 k)

/-! 171: paydesk/paydeskref01.Is -/
noncomputable def c171 : Code := Tryd.f171.body.getD .skip
noncomputable def mi171 : Msk := ⟨[(.tmp 0, .val .str)], []⟩
noncomputable def mo171 : Msk := ⟨[(.tmp 2, .val .bool)], []⟩
noncomputable def L171_2 (k : Nat) : LOrc := fun _ _ _ _ => none
noncomputable def b171_2 : Code := (findLoop 2 c171).getD .skip
noncomputable def m171_2 : Msk := ⟨[(.tmp 0, .val .str), (.tmp 3, .val (.int .i64))], []⟩
noncomputable def x171_2 : List (X × Msk) := [(.exit 0, ⟨[(.tmp 0, .val .str)], []⟩), (.ret, ⟨[(.tmp 2, .val .bool)], []⟩)]
noncomputable def F171_2 (k : Nat) : Nat → m171_2.den → Option (denE x171_2)
  | 0, _ => none
  | j + 1, v => round TI (O221 k) (L171_2 k) b171_2 m171_2 x171_2 (F171_2 k j) v
theorem lk171_2_ (k : Nat) : LinksOK Tryd.prog 23 (L171_2 k) b171_2 := (And.intro (And.intro True.intro (And.intro True.intro True.intro)) (And.intro (And.intro True.intro (And.intro (And.intro True.intro True.intro) True.intro)) True.intro))
noncomputable def L171 (k : Nat) : LOrc := fun R lk s K => match lk with
  | .loop r => bif Nat.beq r 2 then link m171_2 x171_2 (F171_2 k k) s K else none
  | .label l => none
theorem lk_L171_2 (k : Nat) : LoopOK Tryd.prog 23 (L171 k) b171_2 := loopOK_of hm hT (ok_O221 k) (fun _ _ _ h => h) rfl (lk171_2_ k) rfl rfl (F := F171_2 k) (fun _ => rfl) (fun _ _ => rfl) (n := k) fun _ _ _ => rfl
noncomputable def F171 (k : Nat) (v : mi171.den) : Option mo171.den := runF TI (O221 k) (L171 k) c171 mi171 mo171 v
theorem lk171 (k : Nat) : LinksOK Tryd.prog 23 (L171 k) c171 := (And.intro True.intro (And.intro (And.intro True.intro (lk_L171_2 k)) (And.intro True.intro True.intro)))
theorem fn171 (k : Nat) (args : List AV) (x : mi171.den) (r : mo171.den) (h1 : args.length = mi171.items.length) (h2 : mi171.dec (Th.start args) = some x) (h3 : F171 k x = some r) : CallOK Tryd.prog 171 args (ansOf (outL mo171.items r)) :=
  call_of hm hT (ok_O221 k) (fn := Tryd.f171) (c := c171) Tryd.func171 rfl rfl rfl (lk171 k) rfl (by decide) rfl h1 h2 h3
noncomputable def O171 (k : Nat) : Orc := fun R f args K => bif Nat.beq f 171 then callF mi171 mo171 (F171 k) args K else O221 k R f args K
theorem ok_O171 (k : Nat) : OrcOK (O171 k) (CallOK Tryd.prog) := orc_add (fn171 k) (ok_O221 k)

/-! 120: paydesk/paydeskref01.Get -/
noncomputable def c120 : Code := Tryd.f120.body.getD .skip
noncomputable def mi120 : Msk := ⟨[(.tmp 0, .val .str)], []⟩
noncomputable def mo120 : Msk := ⟨[(.tmp 2, .val (.int .u64)), (.tmp 3, .val (.int .i64))], []⟩
noncomputable def L120_9 (k : Nat) : LOrc := fun _ _ _ _ => none
noncomputable def b120_9 : Code := (findLoop 9 c120).getD .skip
noncomputable def m120_9 : Msk := ⟨[(.tmp 0, .val .str), (.tmp 4, .val (.int .u64)), (.tmp 5, .val (.int .i64))], []⟩
noncomputable def x120_9 : List (X × Msk) := [(.exit 0, ⟨[(.tmp 4, .val (.int .u64))], []⟩)]
noncomputable def F120_9 (k : Nat) : Nat → m120_9.den → Option (denE x120_9)
  | 0, _ => none
  | j + 1, v => round TI (O171 k) (L120_9 k) b120_9 m120_9 x120_9 (F120_9 k j) v
theorem lk120_9_ (k : Nat) : LinksOK Tryd.prog 30 (L120_9 k) b120_9 := (And.intro (And.intro True.intro (And.intro True.intro True.intro)) (And.intro True.intro True.intro))
noncomputable def L120 (k : Nat) : LOrc := fun R lk s K => match lk with
  | .loop r => bif Nat.beq r 9 then link m120_9 x120_9 (F120_9 k k) s K else none
  | .label l => none
theorem lk_L120_9 (k : Nat) : LoopOK Tryd.prog 30 (L120 k) b120_9 := loopOK_of hm hT (ok_O171 k) (fun _ _ _ h => h) rfl (lk120_9_ k) rfl rfl (F := F120_9 k) (fun _ => rfl) (fun _ _ => rfl) (n := k) fun _ _ _ => rfl
noncomputable def F120 (k : Nat) (v : mi120.den) : Option mo120.den := runF TI (O171 k) (L120 k) c120 mi120 mo120 v
theorem lk120 (k : Nat) : LinksOK Tryd.prog 30 (L120 k) c120 := (And.intro True.intro (And.intro (And.intro True.intro (And.intro (And.intro True.intro True.intro) True.intro)) (And.intro (And.intro True.intro (And.intro (And.intro True.intro True.intro) True.intro)) (And.intro (And.intro True.intro (And.intro (And.intro True.intro True.intro) True.intro)) (And.intro True.intro (And.intro (And.intro True.intro (lk_L120_9 k)) (And.intro True.intro True.intro)))))))
theorem fn120 (k : Nat) (args : List AV) (x : mi120.den) (r : mo120.den) (h1 : args.length = mi120.items.length) (h2 : mi120.dec (Th.start args) = some x) (h3 : F120 k x = some r) : CallOK Tryd.prog 120 args (ansOf (outL mo120.items r)) :=
  call_of hm hT (ok_O171 k) (fn := Tryd.f120) (c := c120) Tryd.func120 rfl rfl rfl (lk120 k) rfl (by decide) rfl h1 h2 h3
noncomputable def O120 (k : Nat) : Orc := fun R f args K => bif Nat.beq f 120 then callF mi120 mo120 (F120 k) args K else O171 k R f args K
theorem ok_O120 (k : Nat) : OrcOK (O120 k) (CallOK Tryd.prog) := orc_add (fn120 k) (ok_O171 k)

/-! 165: paydesk/paydeskref03.Signs -/
noncomputable def c165 : Code := Tryd.f165.body.getD .skip
noncomputable def mi165 : Msk := ⟨[(.tmp 0, .val (.int .i64)), (.tmp 1, .val .str)], []⟩
noncomputable def mo165 : Msk := ⟨[(.tmp 4, .val .bool)], []⟩
noncomputable def L165_2 (k : Nat) : LOrc := fun _ _ _ _ => none
noncomputable def b165_2 : Code := (findLoop 2 c165).getD .skip
noncomputable def m165_2 : Msk := ⟨[(.tmp 0, .val (.int .i64)), (.tmp 1, .val .str), (.tmp 5, .val (.int .i64))], []⟩
noncomputable def x165_2 : List (X × Msk) := [(.exit 0, ⟨[], []⟩), (.ret, ⟨[(.tmp 4, .val .bool)], []⟩)]
noncomputable def F165_2 (k : Nat) : Nat → m165_2.den → Option (denE x165_2)
  | 0, _ => none
  | j + 1, v => round TI (O120 k) (L165_2 k) b165_2 m165_2 x165_2 (F165_2 k j) v
theorem lk165_2_ (k : Nat) : LinksOK Tryd.prog 32 (L165_2 k) b165_2 := (And.intro (And.intro True.intro (And.intro True.intro True.intro)) (And.intro (And.intro True.intro (And.intro (And.intro True.intro (And.intro True.intro True.intro)) (And.intro True.intro (And.intro (And.intro True.intro True.intro) True.intro)))) True.intro))
noncomputable def L165 (k : Nat) : LOrc := fun R lk s K => match lk with
  | .loop r => bif Nat.beq r 2 then link m165_2 x165_2 (F165_2 k k) s K else none
  | .label l => none
theorem lk_L165_2 (k : Nat) : LoopOK Tryd.prog 32 (L165 k) b165_2 := loopOK_of hm hT (ok_O120 k) (fun _ _ _ h => h) rfl (lk165_2_ k) rfl rfl (F := F165_2 k) (fun _ => rfl) (fun _ _ => rfl) (n := k) fun _ _ _ => rfl
noncomputable def F165 (k : Nat) (v : mi165.den) : Option mo165.den := runF TI (O120 k) (L165 k) c165 mi165 mo165 v
theorem lk165 (k : Nat) : LinksOK Tryd.prog 32 (L165 k) c165 := (And.intro True.intro (And.intro (And.intro True.intro (lk_L165_2 k)) (And.intro True.intro True.intro)))
theorem fn165 (k : Nat) (args : List AV) (x : mi165.den) (r : mo165.den) (h1 : args.length = mi165.items.length) (h2 : mi165.dec (Th.start args) = some x) (h3 : F165 k x = some r) : CallOK Tryd.prog 165 args (ansOf (outL mo165.items r)) :=
  call_of hm hT (ok_O120 k) (fn := Tryd.f165) (c := c165) Tryd.func165 rfl rfl rfl (lk165 k) rfl (by decide) rfl h1 h2 h3
noncomputable def O165 (k : Nat) : Orc := fun R f args K => bif Nat.beq f 165 then callF mi165 mo165 (F165 k) args K else O120 k R f args K
theorem ok_O165 (k : Nat) : OrcOK (O165 k) (CallOK Tryd.prog) := orc_add (fn165 k) (ok_O120 k)

/-! 198: paydesk/paydeskref03.Read -/
noncomputable def c198 : Code := Tryd.f198.body.getD .skip
noncomputable def mi198 : Msk := ⟨[(.tmp 0, .val (.int .i64)), (.tmp 1, .val (.slice (.int .u8)))], []⟩
noncomputable def mo198 : Msk := ⟨[(.tmp 4, .val .str), (.tmp 5, .val (.int .i64)), (.tmp 6, .val (.int .i64))], []⟩
noncomputable def L198 (k : Nat) : LOrc := fun _ _ _ _ => none
noncomputable def F198 (k : Nat) (v : mi198.den) : Option mo198.den := runF TI (O165 k) (L198 k) c198 mi198 mo198 v
theorem lk198 (k : Nat) : LinksOK Tryd.prog 74 (L198 k) c198 := (And.intro True.intro (And.intro True.intro (And.intro (And.intro True.intro (And.intro (And.intro True.intro True.intro) True.intro)) (And.intro True.intro (And.intro True.intro (And.intro (And.intro True.intro (And.intro (And.intro (And.intro True.intro (And.intro (And.intro True.intro True.intro) True.intro)) (And.intro True.intro (And.intro (And.intro True.intro (And.intro (And.intro True.intro True.intro) True.intro)) (And.intro True.intro (And.intro True.intro (And.intro (And.intro True.intro True.intro) True.intro)))))) True.intro)) (And.intro (And.intro True.intro (And.intro (And.intro True.intro True.intro) True.intro)) (And.intro True.intro (And.intro (And.intro True.intro (And.intro (And.intro True.intro True.intro) True.intro)) (And.intro True.intro True.intro))))))))))
theorem fn198 (k : Nat) (args : List AV) (x : mi198.den) (r : mo198.den) (h1 : args.length = mi198.items.length) (h2 : mi198.dec (Th.start args) = some x) (h3 : F198 k x = some r) : CallOK Tryd.prog 198 args (ansOf (outL mo198.items r)) :=
  call_of hm hT (ok_O165 k) (fn := Tryd.f198) (c := c198) Tryd.func198 rfl rfl rfl (lk198 k) rfl (by decide) rfl h1 h2 h3
noncomputable def O198 (k : Nat) : Orc := fun R f args K => bif Nat.beq f 198 then callF mi198 mo198 (F198 k) args K else O165 k R f args K
theorem ok_O198 (k : Nat) : OrcOK (O198 k) (CallOK Tryd.prog) := orc_add (fn198 k) (ok_O165 k)

/-! 166: cmp.isNaN[uint32] -/
noncomputable def c166 : Code := Tryd.f166.body.getD .skip
noncomputable def mi166 : Msk := ⟨[(.tmp 0, .val (.int .u32))], []⟩
noncomputable def mo166 : Msk := ⟨[(.tmp 2, .val .bool)], []⟩
noncomputable def L166 (k : Nat) : LOrc := fun _ _ _ _ => none
noncomputable def F166 (k : Nat) (v : mi166.den) : Option mo166.den := runF TI (O198 k) (L166 k) c166 mi166 mo166 v
theorem lk166 (k : Nat) : LinksOK Tryd.prog 6 (L166 k) c166 := (And.intro True.intro (And.intro True.intro True.intro))
theorem fn166 (k : Nat) (args : List AV) (x : mi166.den) (r : mo166.den) (h1 : args.length = mi166.items.length) (h2 : mi166.dec (Th.start args) = some x) (h3 : F166 k x = some r) : CallOK Tryd.prog 166 args (ansOf (outL mo166.items r)) :=
  call_of hm hT (ok_O198 k) (fn := Tryd.f166) (c := c166) Tryd.func166 rfl rfl rfl (lk166 k) rfl (by decide) rfl h1 h2 h3
noncomputable def O166 (k : Nat) : Orc := fun R f args K => bif Nat.beq f 166 then callF mi166 mo166 (F166 k) args K else O198 k R f args K
theorem ok_O166 (k : Nat) : OrcOK (O166 k) (CallOK Tryd.prog) := orc_add (fn166 k) (ok_O198 k)

/-! 103: cmp.Compare[uint32] -/
noncomputable def c103 : Code := Tryd.f103.body.getD .skip
noncomputable def mi103 : Msk := ⟨[(.tmp 0, .val (.int .u32)), (.tmp 1, .val (.int .u32))], []⟩
noncomputable def mo103 : Msk := ⟨[(.tmp 4, .val (.int .i64))], []⟩
noncomputable def L103 (k : Nat) : LOrc := fun _ _ _ _ => none
noncomputable def F103 (k : Nat) (v : mi103.den) : Option mo103.den := runF TI (O166 k) (L103 k) c103 mi103 mo103 v
theorem lk103 (k : Nat) : LinksOK Tryd.prog 20 (L103 k) c103 := (And.intro True.intro (And.intro True.intro (And.intro True.intro (And.intro (And.intro True.intro (And.intro (And.intro (And.intro True.intro (And.intro (And.intro True.intro True.intro) True.intro)) (And.intro True.intro True.intro)) True.intro)) (And.intro (And.intro True.intro (And.intro (And.intro True.intro True.intro) True.intro)) (And.intro (And.intro True.intro (And.intro (And.intro True.intro True.intro) True.intro)) (And.intro (And.intro True.intro (And.intro (And.intro True.intro True.intro) True.intro)) (And.intro True.intro True.intro))))))))
theorem fn103 (k : Nat) (args : List AV) (x : mi103.den) (r : mo103.den) (h1 : args.length = mi103.items.length) (h2 : mi103.dec (Th.start args) = some x) (h3 : F103 k x = some r) : CallOK Tryd.prog 103 args (ansOf (outL mo103.items r)) :=
  call_of hm hT (ok_O166 k) (fn := Tryd.f103) (c := c103) Tryd.func103 rfl rfl rfl (lk103 k) rfl (by decide) rfl h1 h2 h3
noncomputable def O103 (k : Nat) : Orc := fun R f args K => bif Nat.beq f 103 then callF mi103 mo103 (F103 k) args K else O166 k R f args K
theorem ok_O103 (k : Nat) : OrcOK (O103 k) (CallOK Tryd.prog) := orc_add (fn103 k) (ok_O166 k)

/-! 167: cmp.isNaN[string] -/
noncomputable def c167 : Code := Tryd.f167.body.getD .skip
noncomputable def mi167 : Msk := ⟨[(.tmp 0, .val .str)], []⟩
noncomputable def mo167 : Msk := ⟨[(.tmp 2, .val .bool)], []⟩
noncomputable def L167 (k : Nat) : LOrc := fun _ _ _ _ => none
noncomputable def F167 (k : Nat) (v : mi167.den) : Option mo167.den := runF TI (O103 k) (L167 k) c167 mi167 mo167 v
theorem lk167 (k : Nat) : LinksOK Tryd.prog 6 (L167 k) c167 := (And.intro True.intro (And.intro True.intro True.intro))
theorem fn167 (k : Nat) (args : List AV) (x : mi167.den) (r : mo167.den) (h1 : args.length = mi167.items.length) (h2 : mi167.dec (Th.start args) = some x) (h3 : F167 k x = some r) : CallOK Tryd.prog 167 args (ansOf (outL mo167.items r)) :=
  call_of hm hT (ok_O103 k) (fn := Tryd.f167) (c := c167) Tryd.func167 rfl rfl rfl (lk167 k) rfl (by decide) rfl h1 h2 h3
noncomputable def O167 (k : Nat) : Orc := fun R f args K => bif Nat.beq f 167 then callF mi167 mo167 (F167 k) args K else O103 k R f args K
theorem ok_O167 (k : Nat) : OrcOK (O167 k) (CallOK Tryd.prog) := orc_add (fn167 k) (ok_O103 k)

/-! 104: cmp.Compare[string] -/
noncomputable def c104 : Code := Tryd.f104.body.getD .skip
noncomputable def mi104 : Msk := ⟨[(.tmp 0, .val .str), (.tmp 1, .val .str)], []⟩
noncomputable def mo104 : Msk := ⟨[(.tmp 4, .val (.int .i64))], []⟩
noncomputable def L104 (k : Nat) : LOrc := fun _ _ _ _ => none
noncomputable def F104 (k : Nat) (v : mi104.den) : Option mo104.den := runF TI (O167 k) (L104 k) c104 mi104 mo104 v
theorem lk104 (k : Nat) : LinksOK Tryd.prog 20 (L104 k) c104 := (And.intro True.intro (And.intro True.intro (And.intro True.intro (And.intro (And.intro True.intro (And.intro (And.intro (And.intro True.intro (And.intro (And.intro True.intro True.intro) True.intro)) (And.intro True.intro True.intro)) True.intro)) (And.intro (And.intro True.intro (And.intro (And.intro True.intro True.intro) True.intro)) (And.intro (And.intro True.intro (And.intro (And.intro True.intro True.intro) True.intro)) (And.intro (And.intro True.intro (And.intro (And.intro True.intro True.intro) True.intro)) (And.intro True.intro True.intro))))))))
theorem fn104 (k : Nat) (args : List AV) (x : mi104.den) (r : mo104.den) (h1 : args.length = mi104.items.length) (h2 : mi104.dec (Th.start args) = some x) (h3 : F104 k x = some r) : CallOK Tryd.prog 104 args (ansOf (outL mo104.items r)) :=
  call_of hm hT (ok_O167 k) (fn := Tryd.f104) (c := c104) Tryd.func104 rfl rfl rfl (lk104 k) rfl (by decide) rfl h1 h2 h3
noncomputable def O104 (k : Nat) : Orc := fun R f args K => bif Nat.beq f 104 then callF mi104 mo104 (F104 k) args K else O167 k R f args K
theorem ok_O104 (k : Nat) : OrcOK (O104 k) (CallOK Tryd.prog) := orc_add (fn104 k) (ok_O167 k)

/-! 102: cmp.Or[int] -/
noncomputable def c102 : Code := Tryd.f102.body.getD .skip
noncomputable def mi102 : Msk := ⟨[(.tmp 0, .val (.slice (.int .i64)))], []⟩
noncomputable def mo102 : Msk := ⟨[(.tmp 2, .val (.int .i64))], []⟩
noncomputable def L102_3 (k : Nat) : LOrc := fun _ _ _ _ => none
noncomputable def b102_3 : Code := (findLoop 3 c102).getD .skip
noncomputable def m102_3 : Msk := ⟨[(.tmp 3, .val (.int .i64)), (.tmp 6, .val (.slice (.int .i64))), (.tmp 7, .val (.int .i64)), (.tmp 8, .val (.int .i64))], []⟩
noncomputable def x102_3 : List (X × Msk) := [(.exit 0, ⟨[(.tmp 3, .val (.int .i64))], []⟩), (.ret, ⟨[(.tmp 2, .val (.int .i64))], []⟩)]
noncomputable def F102_3 (k : Nat) : Nat → m102_3.den → Option (denE x102_3)
  | 0, _ => none
  | j + 1, v => round TI (O104 k) (L102_3 k) b102_3 m102_3 x102_3 (F102_3 k j) v
theorem lk102_3_ (k : Nat) : LinksOK Tryd.prog 18 (L102_3 k) b102_3 := (And.intro True.intro (And.intro (And.intro True.intro True.intro) (And.intro (And.intro True.intro (And.intro True.intro (And.intro (And.intro True.intro True.intro) True.intro))) True.intro)))
noncomputable def L102 (k : Nat) : LOrc := fun R lk s K => match lk with
  | .loop r => bif Nat.beq r 3 then link m102_3 x102_3 (F102_3 k k) s K else none
  | .label l => none
theorem lk_L102_3 (k : Nat) : LoopOK Tryd.prog 18 (L102 k) b102_3 := loopOK_of hm hT (ok_O104 k) (fun _ _ _ h => h) rfl (lk102_3_ k) rfl rfl (F := F102_3 k) (fun _ => rfl) (fun _ _ => rfl) (n := k) fun _ _ _ => rfl
noncomputable def F102 (k : Nat) (v : mi102.den) : Option mo102.den := runF TI (O104 k) (L102 k) c102 mi102 mo102 v
theorem lk102 (k : Nat) : LinksOK Tryd.prog 18 (L102 k) c102 := (And.intro True.intro (And.intro True.intro (And.intro (And.intro True.intro (lk_L102_3 k)) (And.intro True.intro True.intro))))
theorem fn102 (k : Nat) (args : List AV) (x : mi102.den) (r : mo102.den) (h1 : args.length = mi102.items.length) (h2 : mi102.dec (Th.start args) = some x) (h3 : F102 k x = some r) : CallOK Tryd.prog 102 args (ansOf (outL mo102.items r)) :=
  call_of hm hT (ok_O104 k) (fn := Tryd.f102) (c := c102) Tryd.func102 rfl rfl rfl (lk102 k) rfl (by decide) rfl h1 h2 h3
noncomputable def O102 (k : Nat) : Orc := fun R f args K => bif Nat.beq f 102 then callF mi102 mo102 (F102 k) args K else O104 k R f args K
theorem ok_O102 (k : Nat) : OrcOK (O102 k) (CallOK Tryd.prog) := orc_add (fn102 k) (ok_O104 k)

/-! 29: paydesk/key.Order -/
noncomputable def c29 : Code := Tryd.f29.body.getD .skip
noncomputable def mi29 : Msk := ⟨[(.tmp 0, .val (.st (.cons (.int .u32) (.cons .str .nil)))), (.tmp 1, .val (.st (.cons (.int .u32) (.cons .str .nil))))], []⟩
noncomputable def mo29 : Msk := ⟨[(.tmp 4, .val (.int .i64))], []⟩
noncomputable def L29 (k : Nat) : LOrc := fun _ _ _ _ => none
noncomputable def F29 (k : Nat) (v : mi29.den) : Option mo29.den := runF TI (O102 k) (L29 k) c29 mi29 mo29 v
theorem lk29 (k : Nat) : LinksOK Tryd.prog 17 (L29 k) c29 := (And.intro True.intro (And.intro True.intro True.intro))
theorem fn29 (k : Nat) (args : List AV) (x : mi29.den) (r : mo29.den) (h1 : args.length = mi29.items.length) (h2 : mi29.dec (Th.start args) = some x) (h3 : F29 k x = some r) : CallOK Tryd.prog 29 args (ansOf (outL mo29.items r)) :=
  call_of hm hT (ok_O102 k) (fn := Tryd.f29) (c := c29) Tryd.func29 rfl rfl rfl (lk29 k) rfl (by decide) rfl h1 h2 h3
noncomputable def O29 (k : Nat) : Orc := fun R f args K => bif Nat.beq f 29 then callF mi29 mo29 (F29 k) args K else O102 k R f args K
theorem ok_O29 (k : Nat) : OrcOK (O29 k) (CallOK Tryd.prog) := orc_add (fn29 k) (ok_O102 k)

/-! 42: paydesk/deal.Asks -/
noncomputable def c42 : Code := Tryd.f42.body.getD .skip
noncomputable def mi42 : Msk := ⟨[(.tmp 0, .val (.int .i64))], []⟩
noncomputable def mo42 : Msk := ⟨[(.tmp 2, .val .bool)], []⟩
noncomputable def L42 (k : Nat) : LOrc := fun _ _ _ _ => none
noncomputable def F42 (k : Nat) (v : mi42.den) : Option mo42.den := runF TI (O29 k) (L42 k) c42 mi42 mo42 v
theorem lk42 (k : Nat) : LinksOK Tryd.prog 9 (L42 k) c42 := (And.intro True.intro (And.intro (And.intro True.intro (And.intro (And.intro True.intro (And.intro True.intro (And.intro True.intro (And.intro True.intro (And.intro True.intro (And.intro True.intro True.intro)))))) (And.intro (And.intro True.intro True.intro) True.intro))) (And.intro True.intro True.intro)))
theorem fn42 (k : Nat) (args : List AV) (x : mi42.den) (r : mo42.den) (h1 : args.length = mi42.items.length) (h2 : mi42.dec (Th.start args) = some x) (h3 : F42 k x = some r) : CallOK Tryd.prog 42 args (ansOf (outL mo42.items r)) :=
  call_of hm hT (ok_O29 k) (fn := Tryd.f42) (c := c42) Tryd.func42 rfl rfl rfl (lk42 k) rfl (by decide) rfl h1 h2 h3
noncomputable def O42 (k : Nat) : Orc := fun R f args K => bif Nat.beq f 42 then callF mi42 mo42 (F42 k) args K else O29 k R f args K
theorem ok_O42 (k : Nat) : OrcOK (O42 k) (CallOK Tryd.prog) := orc_add (fn42 k) (ok_O29 k)

/-! 170: paydesk/digit.sum (walked by hand) -/
noncomputable def F170 (k : Nat) (v : List UInt8 × Bool × Unit) : Option (Int × Unit) := sel (decide (v.1.length ≤ 9223372036854775807)) (some ((Sum.sumOf (Sum.backs (toBytes v.1)) v.2.1).1, ())) none
noncomputable def O170 (k : Nat) : Orc := fun R f args K => bif Nat.beq f 170 then (match args with | [.str b, .bool t] => ocall (F170 k (b, t, ())) fun r => K (.int .i64 r.1) | _ => none) else O42 k R f args K
theorem ok_O170 (k : Nat) : OrcOK (O170 k) (CallOK Tryd.prog) := by
  intro R f args K r h
  unfold O170 at h
  cases hb : Nat.beq f 170 with
  | false => rw [hb] at h; exact ok_O42 k R f args K r h
  | true =>
    rw [hb] at h
    rw [Nat.eq_of_beq_eq_true hb]
    simp only [cond_true] at h
    split at h
    · rename_i b t
      unfold F170 at h
      by_cases hl : b.length ≤ 9223372036854775807
      · rw [sel_pos hl] at h
        exact ⟨_, Sum.fn170 b hl t, h⟩
      · rw [sel_neg hl] at h; cases h
    · cases h

/-! 107: paydesk/digit.Fine -/
noncomputable def c107 : Code := Tryd.f107.body.getD .skip
noncomputable def mi107 : Msk := ⟨[(.tmp 0, .val .str)], []⟩
noncomputable def mo107 : Msk := ⟨[(.tmp 2, .val .bool)], []⟩
noncomputable def L107 (k : Nat) : LOrc := fun _ _ _ _ => none
noncomputable def F107 (k : Nat) (v : mi107.den) : Option mo107.den := runF TI (O170 k) (L107 k) c107 mi107 mo107 v
theorem lk107 (k : Nat) : LinksOK Tryd.prog 11 (L107 k) c107 := (And.intro True.intro (And.intro True.intro True.intro))
theorem fn107 (k : Nat) (args : List AV) (x : mi107.den) (r : mo107.den) (h1 : args.length = mi107.items.length) (h2 : mi107.dec (Th.start args) = some x) (h3 : F107 k x = some r) : CallOK Tryd.prog 107 args (ansOf (outL mo107.items r)) :=
  call_of hm hT (ok_O170 k) (fn := Tryd.f107) (c := c107) Tryd.func107 rfl rfl rfl (lk107 k) rfl (by decide) rfl h1 h2 h3
noncomputable def O107 (k : Nat) : Orc := fun R f args K => bif Nat.beq f 107 then callF mi107 mo107 (F107 k) args K else O170 k R f args K
theorem ok_O107 (k : Nat) : OrcOK (O107 k) (CallOK Tryd.prog) := orc_add (fn107 k) (ok_O170 k)

/-! 108: paydesk/deal.typeOf -/
noncomputable def c108 : Code := Tryd.f108.body.getD .skip
noncomputable def mi108 : Msk := ⟨[(.tmp 0, .val (.int .i64))], []⟩
noncomputable def mo108 : Msk := ⟨[(.tmp 2, .val .str)], []⟩
noncomputable def L108 (k : Nat) : LOrc := fun _ _ _ _ => none
noncomputable def F108 (k : Nat) (v : mi108.den) : Option mo108.den := runF TI (O107 k) (L108 k) c108 mi108 mo108 v
theorem lk108 (k : Nat) : LinksOK Tryd.prog 12 (L108 k) c108 := (And.intro True.intro (And.intro (And.intro True.intro (And.intro (And.intro True.intro True.intro) True.intro)) (And.intro True.intro True.intro)))
theorem fn108 (k : Nat) (args : List AV) (x : mi108.den) (r : mo108.den) (h1 : args.length = mi108.items.length) (h2 : mi108.dec (Th.start args) = some x) (h3 : F108 k x = some r) : CallOK Tryd.prog 108 args (ansOf (outL mo108.items r)) :=
  call_of hm hT (ok_O107 k) (fn := Tryd.f108) (c := c108) Tryd.func108 rfl rfl rfl (lk108 k) rfl (by decide) rfl h1 h2 h3
noncomputable def O108 (k : Nat) : Orc := fun R f args K => bif Nat.beq f 108 then callF mi108 mo108 (F108 k) args K else O107 k R f args K
theorem ok_O108 (k : Nat) : OrcOK (O108 k) (CallOK Tryd.prog) := orc_add (fn108 k) (ok_O107 k)

/-! 109: paydesk/deal.items -/
noncomputable def c109 : Code := Tryd.f109.body.getD .skip
noncomputable def mi109 : Msk := ⟨[(.tmp 0, .val (.st (.cons (.int .i64) (.cons .str (.cons (.int .u64) (.cons (.int .u32) (.cons .str (.cons .str .nil))))))))], []⟩
noncomputable def mo109 : Msk := ⟨[(.tmp 2, .row false (.st (.cons (.int .i64) (.cons .str .nil))))], []⟩
noncomputable def L109 (k : Nat) : LOrc := fun _ _ _ _ => none
noncomputable def F109 (k : Nat) (v : mi109.den) : Option mo109.den := runF TI (O108 k) (L109 k) c109 mi109 mo109 v
theorem lk109 (k : Nat) : LinksOK Tryd.prog 57 (L109 k) c109 := (And.intro True.intro (And.intro True.intro (And.intro True.intro (And.intro (And.intro True.intro (And.intro (And.intro True.intro True.intro) True.intro)) (And.intro True.intro (And.intro True.intro (And.intro (And.intro True.intro (And.intro True.intro True.intro)) (And.intro True.intro True.intro))))))))
theorem fn109 (k : Nat) (args : List AV) (x : mi109.den) (r : mo109.den) (h1 : args.length = mi109.items.length) (h2 : mi109.dec (Th.start args) = some x) (h3 : F109 k x = some r) : CallOK Tryd.prog 109 args (ansOf (outL mo109.items r)) :=
  call_of hm hT (ok_O108 k) (fn := Tryd.f109) (c := c109) Tryd.func109 rfl rfl rfl (lk109 k) rfl (by decide) rfl h1 h2 h3
noncomputable def O109 (k : Nat) : Orc := fun R f args K => bif Nat.beq f 109 then callF mi109 mo109 (F109 k) args K else O108 k R f args K
theorem ok_O109 (k : Nat) : OrcOK (O109 k) (CallOK Tryd.prog) := orc_add (fn109 k) (ok_O108 k)

/-! 121: paydesk/message.known -/
noncomputable def c121 : Code := Tryd.f121.body.getD .skip
noncomputable def mi121 : Msk := ⟨[(.tmp 0, .val .str)], []⟩
noncomputable def mo121 : Msk := ⟨[(.tmp 2, .val .bool)], []⟩
noncomputable def L121 (k : Nat) : LOrc := fun _ _ _ _ => none
noncomputable def F121 (k : Nat) (v : mi121.den) : Option mo121.den := runF TI (O109 k) (L121 k) c121 mi121 mo121 v
theorem lk121 (k : Nat) : LinksOK Tryd.prog 12 (L121 k) c121 := (And.intro True.intro (And.intro (And.intro True.intro (And.intro (And.intro True.intro (And.intro True.intro (And.intro True.intro (And.intro True.intro (And.intro True.intro (And.intro True.intro (And.intro True.intro (And.intro True.intro (And.intro True.intro (And.intro True.intro (And.intro True.intro (And.intro True.intro True.intro)))))))))))) (And.intro (And.intro True.intro True.intro) True.intro))) (And.intro True.intro True.intro)))
theorem fn121 (k : Nat) (args : List AV) (x : mi121.den) (r : mo121.den) (h1 : args.length = mi121.items.length) (h2 : mi121.dec (Th.start args) = some x) (h3 : F121 k x = some r) : CallOK Tryd.prog 121 args (ansOf (outL mo121.items r)) :=
  call_of hm hT (ok_O109 k) (fn := Tryd.f121) (c := c121) Tryd.func121 rfl rfl rfl (lk121 k) rfl (by decide) rfl h1 h2 h3
noncomputable def O121 (k : Nat) : Orc := fun R f args K => bif Nat.beq f 121 then callF mi121 mo121 (F121 k) args K else O109 k R f args K
theorem ok_O121 (k : Nat) : OrcOK (O121 k) (CallOK Tryd.prog) := orc_add (fn121 k) (ok_O109 k)

/-! 44: paydesk/message.Right -/
noncomputable def c44 : Code := Tryd.f44.body.getD .skip
noncomputable def mi44 : Msk := ⟨[(.tmp 0, .val (.st (.cons .str (.cons (.slice (.st (.cons (.int .i64) (.cons .str .nil)))) .nil))))], []⟩
noncomputable def mo44 : Msk := ⟨[(.tmp 2, .val .bool)], []⟩
noncomputable def L44_3 (k : Nat) : LOrc := fun _ _ _ _ => none
noncomputable def b44_3 : Code := (findLoop 3 c44).getD .skip
noncomputable def m44_3 : Msk := ⟨[(.tmp 1, .ptr 1 0), (.tmp 3, .val (.int .i64)), (.tmp 7, .val (.slice (.st (.cons (.int .i64) (.cons .str .nil))))), (.tmp 8, .val (.int .i64)), (.tmp 9, .val (.int .i64)), (.cell 1 0, .val .str), (.cell 1 1, .val (.slice (.st (.cons (.int .i64) (.cons .str .nil)))))], [(1, 2)]⟩
noncomputable def x44_3 : List (X × Msk) := [(.exit 0, ⟨[(.tmp 1, .ptr 1 0), (.cell 1 0, .val .str), (.cell 1 1, .val (.slice (.st (.cons (.int .i64) (.cons .str .nil)))))], [(1, 2)]⟩), (.ret, ⟨[(.tmp 2, .val .bool)], []⟩)]
noncomputable def F44_3 (k : Nat) : Nat → m44_3.den → Option (denE x44_3)
  | 0, _ => none
  | j + 1, v => round TI (O121 k) (L44_3 k) b44_3 m44_3 x44_3 (F44_3 k j) v
theorem lk44_3_ (k : Nat) : LinksOK Tryd.prog 37 (L44_3 k) b44_3 := (And.intro True.intro (And.intro (And.intro True.intro True.intro) (And.intro (And.intro True.intro (And.intro (And.intro True.intro (And.intro (And.intro True.intro True.intro) True.intro)) True.intro)) True.intro)))
noncomputable def L44 (k : Nat) : LOrc := fun R lk s K => match lk with
  | .loop r => bif Nat.beq r 3 then link m44_3 x44_3 (F44_3 k k) s K else none
  | .label l => none
theorem lk_L44_3 (k : Nat) : LoopOK Tryd.prog 37 (L44 k) b44_3 := loopOK_of hm hT (ok_O121 k) (fun _ _ _ h => h) rfl (lk44_3_ k) rfl rfl (F := F44_3 k) (fun _ => rfl) (fun _ _ => rfl) (n := k) fun _ _ _ => rfl
noncomputable def F44 (k : Nat) (v : mi44.den) : Option mo44.den := runF TI (O121 k) (L44 k) c44 mi44 mo44 v
theorem lk44 (k : Nat) : LinksOK Tryd.prog 37 (L44 k) c44 := (And.intro True.intro (And.intro True.intro (And.intro (And.intro True.intro (lk_L44_3 k)) (And.intro True.intro True.intro))))
theorem fn44 (k : Nat) (args : List AV) (x : mi44.den) (r : mo44.den) (h1 : args.length = mi44.items.length) (h2 : mi44.dec (Th.start args) = some x) (h3 : F44 k x = some r) : CallOK Tryd.prog 44 args (ansOf (outL mo44.items r)) :=
  call_of hm hT (ok_O121 k) (fn := Tryd.f44) (c := c44) Tryd.func44 rfl rfl rfl (lk44 k) rfl (by decide) rfl h1 h2 h3
noncomputable def O44 (k : Nat) : Orc := fun R f args K => bif Nat.beq f 44 then callF mi44 mo44 (F44 k) args K else O121 k R f args K
theorem ok_O44 (k : Nat) : OrcOK (O44 k) (CallOK Tryd.prog) := orc_add (fn44 k) (ok_O121 k)

/-! 33: paydesk/deal.Right -/
noncomputable def c33 : Code := Tryd.f33.body.getD .skip
noncomputable def mi33 : Msk := ⟨[(.tmp 0, .val (.st (.cons (.int .i64) (.cons .str (.cons (.int .u64) (.cons (.int .u32) (.cons .str (.cons .str .nil))))))))], []⟩
noncomputable def mo33 : Msk := ⟨[(.tmp 2, .val .bool)], []⟩
noncomputable def L33 (k : Nat) : LOrc := fun _ _ _ _ => none
noncomputable def F33 (k : Nat) (v : mi33.den) : Option mo33.den := runF TI (O44 k) (L33 k) c33 mi33 mo33 v
theorem lk33 (k : Nat) : LinksOK Tryd.prog 30 (L33 k) c33 := (And.intro True.intro (And.intro (And.intro True.intro (And.intro (And.intro True.intro (And.intro (And.intro True.intro True.intro) True.intro)) (And.intro True.intro (And.intro (And.intro True.intro True.intro) True.intro)))) (And.intro True.intro True.intro)))
theorem fn33 (k : Nat) (args : List AV) (x : mi33.den) (r : mo33.den) (h1 : args.length = mi33.items.length) (h2 : mi33.dec (Th.start args) = some x) (h3 : F33 k x = some r) : CallOK Tryd.prog 33 args (ansOf (outL mo33.items r)) :=
  call_of hm hT (ok_O44 k) (fn := Tryd.f33) (c := c33) Tryd.func33 rfl rfl rfl (lk33 k) rfl (by decide) rfl h1 h2 h3
noncomputable def O33 (k : Nat) : Orc := fun R f args K => bif Nat.beq f 33 then callF mi33 mo33 (F33 k) args K else O44 k R f args K
theorem ok_O33 (k : Nat) : OrcOK (O33 k) (CallOK Tryd.prog) := orc_add (fn33 k) (ok_O44 k)

/-! 27: paydesk/key.Right -/
noncomputable def c27 : Code := Tryd.f27.body.getD .skip
noncomputable def mi27 : Msk := ⟨[(.tmp 0, .val (.st (.cons (.int .u32) (.cons .str .nil))))], []⟩
noncomputable def mo27 : Msk := ⟨[(.tmp 2, .val .bool)], []⟩
noncomputable def L27 (k : Nat) : LOrc := fun _ _ _ _ => none
noncomputable def F27 (k : Nat) (v : mi27.den) : Option mo27.den := runF TI (O33 k) (L27 k) c27 mi27 mo27 v
theorem lk27 (k : Nat) : LinksOK Tryd.prog 9 (L27 k) c27 := (And.intro True.intro (And.intro True.intro True.intro))
theorem fn27 (k : Nat) (args : List AV) (x : mi27.den) (r : mo27.den) (h1 : args.length = mi27.items.length) (h2 : mi27.dec (Th.start args) = some x) (h3 : F27 k x = some r) : CallOK Tryd.prog 27 args (ansOf (outL mo27.items r)) :=
  call_of hm hT (ok_O33 k) (fn := Tryd.f27) (c := c27) Tryd.func27 rfl rfl rfl (lk27 k) rfl (by decide) rfl h1 h2 h3
noncomputable def O27 (k : Nat) : Orc := fun R f args K => bif Nat.beq f 27 then callF mi27 mo27 (F27 k) args K else O33 k R f args K
theorem ok_O27 (k : Nat) : OrcOK (O27 k) (CallOK Tryd.prog) := orc_add (fn27 k) (ok_O33 k)

/-! 31: paydesk/key.Shard -/
noncomputable def c31 : Code := Tryd.f31.body.getD .skip
noncomputable def mi31 : Msk := ⟨[(.tmp 0, .val (.st (.cons (.int .u32) (.cons .str .nil)))), (.tmp 1, .val (.int .i64))], []⟩
noncomputable def mo31 : Msk := ⟨[(.tmp 4, .val (.int .i64))], []⟩
noncomputable def L31_6 (k : Nat) : LOrc := fun _ _ _ _ => none
noncomputable def b31_6 : Code := (findLoop 6 c31).getD .skip
noncomputable def m31_6 : Msk := ⟨[(.tmp 1, .val (.int .i64)), (.tmp 7, .val (.int .u32)), (.tmp 32, .row false (.int .u8)), (.tmp 33, .val (.int .i64)), (.tmp 34, .val (.int .i64))], []⟩
noncomputable def x31_6 : List (X × Msk) := [(.exit 0, ⟨[(.tmp 1, .val (.int .i64)), (.tmp 7, .val (.int .u32))], []⟩)]
noncomputable def F31_6 (k : Nat) : Nat → m31_6.den → Option (denE x31_6)
  | 0, _ => none
  | j + 1, v => round TI (O27 k) (L31_6 k) b31_6 m31_6 x31_6 (F31_6 k j) v
theorem lk31_6_ (k : Nat) : LinksOK Tryd.prog 49 (L31_6 k) b31_6 := (And.intro True.intro (And.intro (And.intro True.intro True.intro) (And.intro (And.intro True.intro True.intro) True.intro)))
noncomputable def L31 (k : Nat) : LOrc := fun R lk s K => match lk with
  | .loop r => bif Nat.beq r 6 then link m31_6 x31_6 (F31_6 k k) s K else none
  | .label l => none
theorem lk_L31_6 (k : Nat) : LoopOK Tryd.prog 49 (L31 k) b31_6 := loopOK_of hm hT (ok_O27 k) (fun _ _ _ h => h) rfl (lk31_6_ k) rfl rfl (F := F31_6 k) (fun _ => rfl) (fun _ _ => rfl) (n := k) fun _ _ _ => rfl
noncomputable def F31 (k : Nat) (v : mi31.den) : Option mo31.den := runF TI (O27 k) (L31 k) c31 mi31 mo31 v
theorem lk31 (k : Nat) : LinksOK Tryd.prog 49 (L31 k) c31 := (And.intro True.intro (And.intro (And.intro True.intro (And.intro (And.intro True.intro True.intro) True.intro)) (And.intro True.intro (And.intro True.intro (And.intro (And.intro True.intro (lk_L31_6 k)) (And.intro True.intro True.intro))))))
theorem fn31 (k : Nat) (args : List AV) (x : mi31.den) (r : mo31.den) (h1 : args.length = mi31.items.length) (h2 : mi31.dec (Th.start args) = some x) (h3 : F31 k x = some r) : CallOK Tryd.prog 31 args (ansOf (outL mo31.items r)) :=
  call_of hm hT (ok_O27 k) (fn := Tryd.f31) (c := c31) Tryd.func31 rfl rfl rfl (lk31 k) rfl (by decide) rfl h1 h2 h3
noncomputable def O31 (k : Nat) : Orc := fun R f args K => bif Nat.beq f 31 then callF mi31 mo31 (F31 k) args K else O27 k R f args K
theorem ok_O31 (k : Nat) : OrcOK (O31 k) (CallOK Tryd.prog) := orc_add (fn31 k) (ok_O27 k)

/-! 26: paydesk/key.Of -/
noncomputable def c26 : Code := Tryd.f26.body.getD .skip
noncomputable def mi26 : Msk := ⟨[(.tmp 0, .val (.st (.cons (.int .i64) (.cons .str (.cons (.int .u64) (.cons (.int .u32) (.cons .str (.cons .str .nil))))))))], []⟩
noncomputable def mo26 : Msk := ⟨[(.res 2, .val (.st (.cons (.int .u32) (.cons .str .nil))))], []⟩
noncomputable def L26 (k : Nat) : LOrc := fun _ _ _ _ => none
noncomputable def F26 (k : Nat) (v : mi26.den) : Option mo26.den := runF TI (O31 k) (L26 k) c26 mi26 mo26 v
theorem lk26 (k : Nat) : LinksOK Tryd.prog 8 (L26 k) c26 := (And.intro True.intro (And.intro True.intro True.intro))
theorem fn26 (k : Nat) (args : List AV) (x : mi26.den) (r : mo26.den) (h1 : args.length = mi26.items.length) (h2 : mi26.dec (Th.start args) = some x) (h3 : F26 k x = some r) : CallOK Tryd.prog 26 args (ansOf (outL mo26.items r)) :=
  call_of hm hT (ok_O31 k) (fn := Tryd.f26) (c := c26) Tryd.func26 rfl rfl rfl (lk26 k) rfl (by decide) rfl h1 h2 h3
noncomputable def O26 (k : Nat) : Orc := fun R f args K => bif Nat.beq f 26 then callF mi26 mo26 (F26 k) args K else O31 k R f args K
theorem ok_O26 (k : Nat) : OrcOK (O26 k) (CallOK Tryd.prog) := orc_add (fn26 k) (ok_O31 k)

/-! 23: paydesk/paydesklaw07.awake -/
noncomputable def c23 : Code := Tryd.f23.body.getD .skip
noncomputable def mi23 : Msk := ⟨[], []⟩
noncomputable def mo23 : Msk := ⟨[(.tmp 0, .val .bool)], []⟩
noncomputable def L23 (k : Nat) : LOrc := fun _ _ _ _ => none
noncomputable def F23 (k : Nat) (v : mi23.den) : Option mo23.den := runF TI (O26 k) (L23 k) c23 mi23 mo23 v
theorem lk23 (k : Nat) : LinksOK Tryd.prog 40 (L23 k) c23 := (And.intro True.intro (And.intro True.intro (And.intro True.intro True.intro)))
theorem fn23 (k : Nat) (args : List AV) (x : mi23.den) (r : mo23.den) (h1 : args.length = mi23.items.length) (h2 : mi23.dec (Th.start args) = some x) (h3 : F23 k x = some r) : CallOK Tryd.prog 23 args (ansOf (outL mo23.items r)) :=
  call_of hm hT (ok_O26 k) (fn := Tryd.f23) (c := c23) Tryd.func23 rfl rfl rfl (lk23 k) rfl (by decide) rfl h1 h2 h3
noncomputable def O23 (k : Nat) : Orc := fun R f args K => bif Nat.beq f 23 then callF mi23 mo23 (F23 k) args K else O26 k R f args K
theorem ok_O23 (k : Nat) : OrcOK (O23 k) (CallOK Tryd.prog) := orc_add (fn23 k) (ok_O26 k)

/-! 24: paydesk/paydeskref06.Short -/
noncomputable def c24 : Code := Tryd.f24.body.getD .skip
noncomputable def mi24 : Msk := ⟨[(.tmp 0, .val (.st (.cons (.int .i64) (.cons .str (.cons (.int .u64) (.cons (.int .u32) (.cons .str (.cons .str .nil))))))))], []⟩
noncomputable def mo24 : Msk := ⟨[(.tmp 2, .val .bool)], []⟩
noncomputable def L24 (k : Nat) : LOrc := fun _ _ _ _ => none
noncomputable def F24 (k : Nat) (v : mi24.den) : Option mo24.den := runF TI (O23 k) (L24 k) c24 mi24 mo24 v
theorem lk24 (k : Nat) : LinksOK Tryd.prog 19 (L24 k) c24 := (And.intro True.intro (And.intro True.intro True.intro))
theorem fn24 (k : Nat) (args : List AV) (x : mi24.den) (r : mo24.den) (h1 : args.length = mi24.items.length) (h2 : mi24.dec (Th.start args) = some x) (h3 : F24 k x = some r) : CallOK Tryd.prog 24 args (ansOf (outL mo24.items r)) :=
  call_of hm hT (ok_O23 k) (fn := Tryd.f24) (c := c24) Tryd.func24 rfl rfl rfl (lk24 k) rfl (by decide) rfl h1 h2 h3
noncomputable def O24 (k : Nat) : Orc := fun R f args K => bif Nat.beq f 24 then callF mi24 mo24 (F24 k) args K else O23 k R f args K
theorem ok_O24 (k : Nat) : OrcOK (O24 k) (CallOK Tryd.prog) := orc_add (fn24 k) (ok_O23 k)

/-! 25: paydesk/paydeskref07.Short -/
noncomputable def c25 : Code := Tryd.f25.body.getD .skip
noncomputable def mi25 : Msk := ⟨[(.tmp 0, .val (.st (.cons (.int .u32) (.cons .str .nil))))], []⟩
noncomputable def mo25 : Msk := ⟨[(.tmp 2, .val .bool)], []⟩
noncomputable def L25 (k : Nat) : LOrc := fun _ _ _ _ => none
noncomputable def F25 (k : Nat) (v : mi25.den) : Option mo25.den := runF TI (O24 k) (L25 k) c25 mi25 mo25 v
theorem lk25 (k : Nat) : LinksOK Tryd.prog 7 (L25 k) c25 := (And.intro True.intro (And.intro True.intro True.intro))
theorem fn25 (k : Nat) (args : List AV) (x : mi25.den) (r : mo25.den) (h1 : args.length = mi25.items.length) (h2 : mi25.dec (Th.start args) = some x) (h3 : F25 k x = some r) : CallOK Tryd.prog 25 args (ansOf (outL mo25.items r)) :=
  call_of hm hT (ok_O24 k) (fn := Tryd.f25) (c := c25) Tryd.func25 rfl rfl rfl (lk25 k) rfl (by decide) rfl h1 h2 h3
noncomputable def O25 (k : Nat) : Orc := fun R f args K => bif Nat.beq f 25 then callF mi25 mo25 (F25 k) args K else O24 k R f args K
theorem ok_O25 (k : Nat) : OrcOK (O25 k) (CallOK Tryd.prog) := orc_add (fn25 k) (ok_O24 k)

/-! 101: paydesk/paydeskref03.Right -/
noncomputable def c101 : Code := Tryd.f101.body.getD .skip
noncomputable def mi101 : Msk := ⟨[(.tmp 0, .val (.int .i64)), (.tmp 1, .val .str)], []⟩
noncomputable def mo101 : Msk := ⟨[(.tmp 4, .val .bool)], []⟩
noncomputable def L101 (k : Nat) : LOrc := fun _ _ _ _ => none
noncomputable def F101 (k : Nat) (v : mi101.den) : Option mo101.den := runF TI (O25 k) (L101 k) c101 mi101 mo101 v
theorem lk101 (k : Nat) : LinksOK Tryd.prog 42 (L101 k) c101 := (And.intro True.intro (And.intro True.intro (And.intro (And.intro True.intro (And.intro (And.intro True.intro True.intro) True.intro)) (And.intro True.intro True.intro))))
theorem fn101 (k : Nat) (args : List AV) (x : mi101.den) (r : mo101.den) (h1 : args.length = mi101.items.length) (h2 : mi101.dec (Th.start args) = some x) (h3 : F101 k x = some r) : CallOK Tryd.prog 101 args (ansOf (outL mo101.items r)) :=
  call_of hm hT (ok_O25 k) (fn := Tryd.f101) (c := c101) Tryd.func101 rfl rfl rfl (lk101 k) rfl (by decide) rfl h1 h2 h3
noncomputable def O101 (k : Nat) : Orc := fun R f args K => bif Nat.beq f 101 then callF mi101 mo101 (F101 k) args K else O25 k R f args K
theorem ok_O101 (k : Nat) : OrcOK (O101 k) (CallOK Tryd.prog) := orc_add (fn101 k) (ok_O25 k)

/-! 28: paydesk/paydeskref07.Right -/
noncomputable def c28 : Code := Tryd.f28.body.getD .skip
noncomputable def mi28 : Msk := ⟨[(.tmp 0, .val (.st (.cons (.int .u32) (.cons .str .nil))))], []⟩
noncomputable def mo28 : Msk := ⟨[(.tmp 2, .val .bool)], []⟩
noncomputable def L28 (k : Nat) : LOrc := fun _ _ _ _ => none
noncomputable def F28 (k : Nat) (v : mi28.den) : Option mo28.den := runF TI (O101 k) (L28 k) c28 mi28 mo28 v
theorem lk28 (k : Nat) : LinksOK Tryd.prog 11 (L28 k) c28 := (And.intro True.intro (And.intro True.intro True.intro))
theorem fn28 (k : Nat) (args : List AV) (x : mi28.den) (r : mo28.den) (h1 : args.length = mi28.items.length) (h2 : mi28.dec (Th.start args) = some x) (h3 : F28 k x = some r) : CallOK Tryd.prog 28 args (ansOf (outL mo28.items r)) :=
  call_of hm hT (ok_O101 k) (fn := Tryd.f28) (c := c28) Tryd.func28 rfl rfl rfl (lk28 k) rfl (by decide) rfl h1 h2 h3
noncomputable def O28 (k : Nat) : Orc := fun R f args K => bif Nat.beq f 28 then callF mi28 mo28 (F28 k) args K else O101 k R f args K
theorem ok_O28 (k : Nat) : OrcOK (O28 k) (CallOK Tryd.prog) := orc_add (fn28 k) (ok_O101 k)

/-! 30: paydesk/paydeskref07.Order -/
noncomputable def c30 : Code := Tryd.f30.body.getD .skip
noncomputable def mi30 : Msk := ⟨[(.tmp 0, .val (.st (.cons (.int .u32) (.cons .str .nil)))), (.tmp 1, .val (.st (.cons (.int .u32) (.cons .str .nil))))], []⟩
noncomputable def mo30 : Msk := ⟨[(.tmp 4, .val (.int .i64))], []⟩
noncomputable def L30 (k : Nat) : LOrc := fun _ _ _ _ => none
noncomputable def F30 (k : Nat) (v : mi30.den) : Option mo30.den := runF TI (O28 k) (L30 k) c30 mi30 mo30 v
theorem lk30 (k : Nat) : LinksOK Tryd.prog 27 (L30 k) c30 := (And.intro True.intro (And.intro (And.intro True.intro (And.intro (And.intro True.intro True.intro) True.intro)) (And.intro (And.intro True.intro (And.intro (And.intro True.intro True.intro) True.intro)) (And.intro True.intro True.intro))))
theorem fn30 (k : Nat) (args : List AV) (x : mi30.den) (r : mo30.den) (h1 : args.length = mi30.items.length) (h2 : mi30.dec (Th.start args) = some x) (h3 : F30 k x = some r) : CallOK Tryd.prog 30 args (ansOf (outL mo30.items r)) :=
  call_of hm hT (ok_O28 k) (fn := Tryd.f30) (c := c30) Tryd.func30 rfl rfl rfl (lk30 k) rfl (by decide) rfl h1 h2 h3
noncomputable def O30 (k : Nat) : Orc := fun R f args K => bif Nat.beq f 30 then callF mi30 mo30 (F30 k) args K else O28 k R f args K
theorem ok_O30 (k : Nat) : OrcOK (O30 k) (CallOK Tryd.prog) := orc_add (fn30 k) (ok_O28 k)

/-! 168: paydesk/paydeskref01.Put -/
noncomputable def c168 : Code := Tryd.f168.body.getD .skip
noncomputable def mi168 : Msk := ⟨[(.tmp 0, .val (.int .u64)), (.tmp 1, .val (.int .i64))], []⟩
noncomputable def mo168 : Msk := ⟨[(.tmp 4, .val .str), (.tmp 5, .val (.int .i64))], []⟩
noncomputable def L168_5 (k : Nat) : LOrc := fun _ _ _ _ => none
noncomputable def b168_5 : Code := (findLoop 5 c168).getD .skip
noncomputable def m168_5 : Msk := ⟨[(.tmp 0, .val (.int .u64)), (.tmp 1, .val (.int .i64)), (.tmp 6, .val .str), (.tmp 7, .val (.int .i64))], []⟩
noncomputable def x168_5 : List (X × Msk) := [(.exit 0, ⟨[(.tmp 0, .val (.int .u64)), (.tmp 6, .val .str)], []⟩)]
noncomputable def F168_5 (k : Nat) : Nat → m168_5.den → Option (denE x168_5)
  | 0, _ => none
  | j + 1, v => round TI (O30 k) (L168_5 k) b168_5 m168_5 x168_5 (F168_5 k j) v
theorem lk168_5_ (k : Nat) : LinksOK Tryd.prog 32 (L168_5 k) b168_5 := (And.intro (And.intro True.intro (And.intro True.intro True.intro)) (And.intro (And.intro True.intro True.intro) True.intro))
noncomputable def L168 (k : Nat) : LOrc := fun R lk s K => match lk with
  | .loop r => bif Nat.beq r 5 then link m168_5 x168_5 (F168_5 k k) s K else none
  | .label l => none
theorem lk_L168_5 (k : Nat) : LoopOK Tryd.prog 32 (L168 k) b168_5 := loopOK_of hm hT (ok_O30 k) (fun _ _ _ h => h) rfl (lk168_5_ k) rfl rfl (F := F168_5 k) (fun _ => rfl) (fun _ _ => rfl) (n := k) fun _ _ _ => rfl
noncomputable def F168 (k : Nat) (v : mi168.den) : Option mo168.den := runF TI (O30 k) (L168 k) c168 mi168 mo168 v
theorem lk168 (k : Nat) : LinksOK Tryd.prog 32 (L168 k) c168 := (And.intro True.intro (And.intro (And.intro True.intro (And.intro (And.intro True.intro True.intro) True.intro)) (And.intro True.intro (And.intro (And.intro True.intro (lk_L168_5 k)) (And.intro (And.intro True.intro (And.intro (And.intro True.intro True.intro) True.intro)) (And.intro True.intro True.intro))))))
theorem fn168 (k : Nat) (args : List AV) (x : mi168.den) (r : mo168.den) (h1 : args.length = mi168.items.length) (h2 : mi168.dec (Th.start args) = some x) (h3 : F168 k x = some r) : CallOK Tryd.prog 168 args (ansOf (outL mo168.items r)) :=
  call_of hm hT (ok_O30 k) (fn := Tryd.f168) (c := c168) Tryd.func168 rfl rfl rfl (lk168 k) rfl (by decide) rfl h1 h2 h3
noncomputable def O168 (k : Nat) : Orc := fun R f args K => bif Nat.beq f 168 then callF mi168 mo168 (F168 k) args K else O30 k R f args K
theorem ok_O168 (k : Nat) : OrcOK (O168 k) (CallOK Tryd.prog) := orc_add (fn168 k) (ok_O30 k)

/-! 106: paydesk/paydeskref01.Must -/
noncomputable def c106 : Code := Tryd.f106.body.getD .skip
noncomputable def mi106 : Msk := ⟨[(.tmp 0, .val (.int .u64)), (.tmp 1, .val (.int .i64))], []⟩
noncomputable def mo106 : Msk := ⟨[(.tmp 4, .val .str)], []⟩
noncomputable def L106 (k : Nat) : LOrc := fun _ _ _ _ => none
noncomputable def F106 (k : Nat) (v : mi106.den) : Option mo106.den := runF TI (O168 k) (L106 k) c106 mi106 mo106 v
theorem lk106 (k : Nat) : LinksOK Tryd.prog 14 (L106 k) c106 := (And.intro True.intro (And.intro True.intro (And.intro True.intro True.intro)))
theorem fn106 (k : Nat) (args : List AV) (x : mi106.den) (r : mo106.den) (h1 : args.length = mi106.items.length) (h2 : mi106.dec (Th.start args) = some x) (h3 : F106 k x = some r) : CallOK Tryd.prog 106 args (ansOf (outL mo106.items r)) :=
  call_of hm hT (ok_O168 k) (fn := Tryd.f106) (c := c106) Tryd.func106 rfl rfl rfl (lk106 k) rfl (by decide) rfl h1 h2 h3
noncomputable def O106 (k : Nat) : Orc := fun R f args K => bif Nat.beq f 106 then callF mi106 mo106 (F106 k) args K else O168 k R f args K
theorem ok_O106 (k : Nat) : OrcOK (O106 k) (CallOK Tryd.prog) := orc_add (fn106 k) (ok_O168 k)

/-! 32: paydesk/paydeskref07.Shard -/
noncomputable def c32 : Code := Tryd.f32.body.getD .skip
noncomputable def mi32 : Msk := ⟨[(.tmp 0, .val (.st (.cons (.int .u32) (.cons .str .nil)))), (.tmp 1, .val (.int .i64))], []⟩
noncomputable def mo32 : Msk := ⟨[(.tmp 4, .val (.int .i64))], []⟩
noncomputable def L32_6 (k : Nat) : LOrc := fun _ _ _ _ => none
noncomputable def b32_6 : Code := (findLoop 6 c32).getD .skip
noncomputable def m32_6 : Msk := ⟨[(.tmp 1, .val (.int .i64)), (.tmp 5, .val .str), (.tmp 6, .val (.int .u64)), (.tmp 7, .val (.int .i64))], []⟩
noncomputable def x32_6 : List (X × Msk) := [(.exit 0, ⟨[(.tmp 1, .val (.int .i64)), (.tmp 6, .val (.int .u64))], []⟩)]
noncomputable def F32_6 (k : Nat) : Nat → m32_6.den → Option (denE x32_6)
  | 0, _ => none
  | j + 1, v => round TI (O106 k) (L32_6 k) b32_6 m32_6 x32_6 (F32_6 k j) v
theorem lk32_6_ (k : Nat) : LinksOK Tryd.prog 45 (L32_6 k) b32_6 := (And.intro (And.intro True.intro (And.intro True.intro True.intro)) (And.intro True.intro True.intro))
noncomputable def L32 (k : Nat) : LOrc := fun R lk s K => match lk with
  | .loop r => bif Nat.beq r 6 then link m32_6 x32_6 (F32_6 k k) s K else none
  | .label l => none
theorem lk_L32_6 (k : Nat) : LoopOK Tryd.prog 45 (L32 k) b32_6 := loopOK_of hm hT (ok_O106 k) (fun _ _ _ h => h) rfl (lk32_6_ k) rfl rfl (F := F32_6 k) (fun _ => rfl) (fun _ _ => rfl) (n := k) fun _ _ _ => rfl
noncomputable def F32 (k : Nat) (v : mi32.den) : Option mo32.den := runF TI (O106 k) (L32 k) c32 mi32 mo32 v
theorem lk32 (k : Nat) : LinksOK Tryd.prog 45 (L32 k) c32 := (And.intro True.intro (And.intro (And.intro True.intro (And.intro (And.intro True.intro True.intro) True.intro)) (And.intro True.intro (And.intro True.intro (And.intro (And.intro True.intro (lk_L32_6 k)) (And.intro True.intro True.intro))))))
theorem fn32 (k : Nat) (args : List AV) (x : mi32.den) (r : mo32.den) (h1 : args.length = mi32.items.length) (h2 : mi32.dec (Th.start args) = some x) (h3 : F32 k x = some r) : CallOK Tryd.prog 32 args (ansOf (outL mo32.items r)) :=
  call_of hm hT (ok_O106 k) (fn := Tryd.f32) (c := c32) Tryd.func32 rfl rfl rfl (lk32 k) rfl (by decide) rfl h1 h2 h3
noncomputable def O32 (k : Nat) : Orc := fun R f args K => bif Nat.beq f 32 then callF mi32 mo32 (F32 k) args K else O106 k R f args K
theorem ok_O32 (k : Nat) : OrcOK (O32 k) (CallOK Tryd.prog) := orc_add (fn32 k) (ok_O106 k)

/-! 3: paydesk/paydesklaw07.KeyRight -/
noncomputable def c3 : Code := Tryd.f3.body.getD .skip
noncomputable def mi3 : Msk := ⟨[(.tmp 0, .val (.st (.cons (.int .i64) (.cons .str (.cons (.int .u64) (.cons (.int .u32) (.cons .str (.cons .str .nil)))))))), (.tmp 1, .val (.st (.cons (.int .u32) (.cons .str .nil)))), (.tmp 2, .val (.st (.cons (.int .u32) (.cons .str .nil)))), (.tmp 3, .val (.int .i64))], []⟩
noncomputable def mo3 : Msk := ⟨[(.tmp 8, .val .bool)], []⟩
noncomputable def L3 (k : Nat) : LOrc := fun _ _ _ _ => none
noncomputable def F3 (k : Nat) (v : mi3.den) : Option mo3.den := runF TI (O32 k) (L3 k) c3 mi3 mo3 v
theorem lk3 (k : Nat) : LinksOK Tryd.prog 57 (L3 k) c3 := (And.intro True.intro (And.intro (And.intro True.intro (And.intro (And.intro True.intro True.intro) True.intro)) (And.intro (And.intro True.intro (And.intro (And.intro True.intro True.intro) True.intro)) (And.intro True.intro True.intro))))
theorem fn3 (k : Nat) (args : List AV) (x : mi3.den) (r : mo3.den) (h1 : args.length = mi3.items.length) (h2 : mi3.dec (Th.start args) = some x) (h3 : F3 k x = some r) : CallOK Tryd.prog 3 args (ansOf (outL mo3.items r)) :=
  call_of hm hT (ok_O32 k) (fn := Tryd.f3) (c := c3) Tryd.func3 rfl rfl rfl (lk3 k) rfl (by decide) rfl h1 h2 h3
noncomputable def O3 (k : Nat) : Orc := fun R f args K => bif Nat.beq f 3 then callF mi3 mo3 (F3 k) args K else O32 k R f args K
theorem ok_O3 (k : Nat) : OrcOK (O3 k) (CallOK Tryd.prog) := orc_add (fn3 k) (ok_O32 k)

/-! 4: paydesk/paydesklaw07.KeyOrder -/
noncomputable def c4 : Code := Tryd.f4.body.getD .skip
noncomputable def mi4 : Msk := ⟨[(.tmp 0, .val (.st (.cons (.int .u32) (.cons .str .nil)))), (.tmp 1, .val (.st (.cons (.int .u32) (.cons .str .nil)))), (.tmp 2, .val (.st (.cons (.int .u32) (.cons .str .nil))))], []⟩
noncomputable def mo4 : Msk := ⟨[(.tmp 6, .val .bool)], []⟩
noncomputable def L4 (k : Nat) : LOrc := fun _ _ _ _ => none
noncomputable def F4 (k : Nat) (v : mi4.den) : Option mo4.den := runF TI (O3 k) (L4 k) c4 mi4 mo4 v
theorem lk4 (k : Nat) : LinksOK Tryd.prog 72 (L4 k) c4 := (And.intro True.intro (And.intro (And.intro True.intro (And.intro (And.intro True.intro True.intro) True.intro)) (And.intro (And.intro True.intro (And.intro (And.intro True.intro True.intro) True.intro)) (And.intro True.intro (And.intro True.intro True.intro)))))
theorem fn4 (k : Nat) (args : List AV) (x : mi4.den) (r : mo4.den) (h1 : args.length = mi4.items.length) (h2 : mi4.dec (Th.start args) = some x) (h3 : F4 k x = some r) : CallOK Tryd.prog 4 args (ansOf (outL mo4.items r)) :=
  call_of hm hT (ok_O3 k) (fn := Tryd.f4) (c := c4) Tryd.func4 rfl rfl rfl (lk4 k) rfl (by decide) rfl h1 h2 h3
noncomputable def O4 (k : Nat) : Orc := fun R f args K => bif Nat.beq f 4 then callF mi4 mo4 (F4 k) args K else O3 k R f args K
theorem ok_O4 (k : Nat) : OrcOK (O4 k) (CallOK Tryd.prog) := orc_add (fn4 k) (ok_O3 k)

/-! 5: paydesk/paydesklaw07.KeyShards -/
noncomputable def c5 : Code := Tryd.f5.body.getD .skip
noncomputable def mi5 : Msk := ⟨[(.tmp 0, .val (.st (.cons (.int .i64) (.cons .str (.cons (.int .u64) (.cons (.int .u32) (.cons .str (.cons .str .nil)))))))), (.tmp 1, .val (.int .u8)), (.tmp 2, .val (.int .u8))], []⟩
noncomputable def mo5 : Msk := ⟨[(.tmp 6, .val .bool)], []⟩
noncomputable def L5 (k : Nat) : LOrc := fun _ _ _ _ => none
noncomputable def F5 (k : Nat) (v : mi5.den) : Option mo5.den := runF TI (O4 k) (L5 k) c5 mi5 mo5 v
theorem lk5 (k : Nat) : LinksOK Tryd.prog 60 (L5 k) c5 := (And.intro True.intro (And.intro (And.intro True.intro (And.intro (And.intro True.intro True.intro) True.intro)) (And.intro (And.intro True.intro (And.intro (And.intro True.intro True.intro) True.intro)) (And.intro True.intro (And.intro True.intro (And.intro True.intro (And.intro True.intro (And.intro True.intro True.intro))))))))
theorem fn5 (k : Nat) (args : List AV) (x : mi5.den) (r : mo5.den) (h1 : args.length = mi5.items.length) (h2 : mi5.dec (Th.start args) = some x) (h3 : F5 k x = some r) : CallOK Tryd.prog 5 args (ansOf (outL mo5.items r)) :=
  call_of hm hT (ok_O4 k) (fn := Tryd.f5) (c := c5) Tryd.func5 rfl rfl rfl (lk5 k) rfl (by decide) rfl h1 h2 h3
noncomputable def O5 (k : Nat) : Orc := fun R f args K => bif Nat.beq f 5 then callF mi5 mo5 (F5 k) args K else O4 k R f args K
theorem ok_O5 (k : Nat) : OrcOK (O5 k) (CallOK Tryd.prog) := orc_add (fn5 k) (ok_O4 k)

/-! 37: paydesk/deal.Write -/
noncomputable def c37 : Code := Tryd.f37.body.getD .skip
noncomputable def mi37 : Msk := ⟨[(.tmp 0, .val (.st (.cons (.int .i64) (.cons .str (.cons (.int .u64) (.cons (.int .u32) (.cons .str (.cons .str .nil))))))))], []⟩
noncomputable def mo37 : Msk := ⟨[(.res 2, .val (.st (.cons .str (.cons (.slice (.st (.cons (.int .i64) (.cons .str .nil)))) .nil)))), (.tmp 3, .val (.int .i64))], []⟩
noncomputable def L37 (k : Nat) : LOrc := fun _ _ _ _ => none
noncomputable def F37 (k : Nat) (v : mi37.den) : Option mo37.den := runF TI (O5 k) (L37 k) c37 mi37 mo37 v
theorem lk37 (k : Nat) : LinksOK Tryd.prog 14 (L37 k) c37 := (And.intro True.intro (And.intro (And.intro True.intro (And.intro (And.intro True.intro True.intro) True.intro)) (And.intro True.intro True.intro)))
theorem fn37 (k : Nat) (args : List AV) (x : mi37.den) (r : mo37.den) (h1 : args.length = mi37.items.length) (h2 : mi37.dec (Th.start args) = some x) (h3 : F37 k x = some r) : CallOK Tryd.prog 37 args (ansOf (outL mo37.items r)) :=
  call_of hm hT (ok_O5 k) (fn := Tryd.f37) (c := c37) Tryd.func37 rfl rfl rfl (lk37 k) rfl (by decide) rfl h1 h2 h3
noncomputable def O37 (k : Nat) : Orc := fun R f args K => bif Nat.beq f 37 then callF mi37 mo37 (F37 k) args K else O5 k R f args K
theorem ok_O37 (k : Nat) : OrcOK (O37 k) (CallOK Tryd.prog) := orc_add (fn37 k) (ok_O5 k)

/-! 113: paydesk/deal.kindOf -/
noncomputable def c113 : Code := Tryd.f113.body.getD .skip
noncomputable def mi113 : Msk := ⟨[(.tmp 0, .val .str)], []⟩
noncomputable def mo113 : Msk := ⟨[(.tmp 2, .val (.int .i64))], []⟩
noncomputable def L113_2 (k : Nat) : LOrc := fun _ _ _ _ => none
noncomputable def b113_2 : Code := (findLoop 2 c113).getD .skip
noncomputable def m113_2 : Msk := ⟨[(.tmp 0, .val .str), (.tmp 3, .val (.int .i64))], []⟩
noncomputable def x113_2 : List (X × Msk) := [(.exit 0, ⟨[], []⟩), (.ret, ⟨[(.tmp 2, .val (.int .i64))], []⟩)]
noncomputable def F113_2 (k : Nat) : Nat → m113_2.den → Option (denE x113_2)
  | 0, _ => none
  | j + 1, v => round TI (O37 k) (L113_2 k) b113_2 m113_2 x113_2 (F113_2 k j) v
theorem lk113_2_ (k : Nat) : LinksOK Tryd.prog 13 (L113_2 k) b113_2 := (And.intro (And.intro True.intro (And.intro True.intro True.intro)) (And.intro (And.intro True.intro (And.intro (And.intro True.intro True.intro) True.intro)) True.intro))
noncomputable def L113 (k : Nat) : LOrc := fun R lk s K => match lk with
  | .loop r => bif Nat.beq r 2 then link m113_2 x113_2 (F113_2 k k) s K else none
  | .label l => none
theorem lk_L113_2 (k : Nat) : LoopOK Tryd.prog 13 (L113 k) b113_2 := loopOK_of hm hT (ok_O37 k) (fun _ _ _ h => h) rfl (lk113_2_ k) rfl rfl (F := F113_2 k) (fun _ => rfl) (fun _ _ => rfl) (n := k) fun _ _ _ => rfl
noncomputable def F113 (k : Nat) (v : mi113.den) : Option mo113.den := runF TI (O37 k) (L113 k) c113 mi113 mo113 v
theorem lk113 (k : Nat) : LinksOK Tryd.prog 13 (L113 k) c113 := (And.intro True.intro (And.intro (And.intro True.intro (lk_L113_2 k)) (And.intro True.intro True.intro)))
theorem fn113 (k : Nat) (args : List AV) (x : mi113.den) (r : mo113.den) (h1 : args.length = mi113.items.length) (h2 : mi113.dec (Th.start args) = some x) (h3 : F113 k x = some r) : CallOK Tryd.prog 113 args (ansOf (outL mo113.items r)) :=
  call_of hm hT (ok_O37 k) (fn := Tryd.f113) (c := c113) Tryd.func113 rfl rfl rfl (lk113 k) rfl (by decide) rfl h1 h2 h3
noncomputable def O113 (k : Nat) : Orc := fun R f args K => bif Nat.beq f 113 then callF mi113 mo113 (F113 k) args K else O37 k R f args K
theorem ok_O113 (k : Nat) : OrcOK (O113 k) (CallOK Tryd.prog) := orc_add (fn113 k) (ok_O37 k)

/-! 174: paydesk/message.Get$1 -/
noncomputable def c174 : Code := Tryd.f174.body.getD .skip
noncomputable def mi174 : Msk := ⟨[(.tmp 0, .val (.st (.cons (.int .i64) (.cons .str .nil)))), (.tmp 1, .val (.ref (.cons (.int .i64) .nil)))], []⟩
noncomputable def mo174 : Msk := ⟨[(.tmp 3, .val .bool)], []⟩
noncomputable def L174 (k : Nat) : LOrc := fun _ _ _ _ => none
noncomputable def F174 (k : Nat) (v : mi174.den) : Option mo174.den := runF TI (O113 k) (L174 k) c174 mi174 mo174 v
theorem lk174 (k : Nat) : LinksOK Tryd.prog 8 (L174 k) c174 := (And.intro True.intro (And.intro True.intro True.intro))
theorem fn174 (k : Nat) (args : List AV) (x : mi174.den) (r : mo174.den) (h1 : args.length = mi174.items.length) (h2 : mi174.dec (Th.start args) = some x) (h3 : F174 k x = some r) : CallOK Tryd.prog 174 args (ansOf (outL mo174.items r)) :=
  call_of hm hT (ok_O113 k) (fn := Tryd.f174) (c := c174) Tryd.func174 rfl rfl rfl (lk174 k) rfl (by decide) rfl h1 h2 h3
noncomputable def O174 (k : Nat) : Orc := fun R f args K => bif Nat.beq f 174 then callF mi174 mo174 (F174 k) args K else O113 k R f args K
theorem ok_O174 (k : Nat) : OrcOK (O174 k) (CallOK Tryd.prog) := orc_add (fn174 k) (ok_O113 k)

/-! 173: slices.IndexFunc[[]paydesk/api.Item,paydesk/api.Item] -/
noncomputable def c7000000 : Code := Tryd.f173.body.getD .skip
noncomputable def mi7000000 : Msk := ⟨[(.tmp 0, .val (.slice (.st (.cons (.int .i64) (.cons .str .nil))))), (.tmp 1, .val (.clo 174 (.cons (.ref (.cons (.int .i64) .nil)) .nil)))], []⟩
noncomputable def mo7000000 : Msk := ⟨[(.tmp 4, .val (.int .i64))], []⟩
noncomputable def L7000000_2 (k : Nat) : LOrc := fun _ _ _ _ => none
noncomputable def b7000000_2 : Code := (findLoop 2 c7000000).getD .skip
noncomputable def m7000000_2 : Msk := ⟨[(.tmp 0, .val (.slice (.st (.cons (.int .i64) (.cons .str .nil))))), (.tmp 1, .val (.clo 174 (.cons (.ref (.cons (.int .i64) .nil)) .nil))), (.tmp 7, .val (.int .i64)), (.tmp 8, .val (.int .i64))], []⟩
noncomputable def x7000000_2 : List (X × Msk) := [(.exit 0, ⟨[], []⟩), (.ret, ⟨[(.tmp 4, .val (.int .i64))], []⟩)]
noncomputable def F7000000_2 (k : Nat) : Nat → m7000000_2.den → Option (denE x7000000_2)
  | 0, _ => none
  | j + 1, v => round TI (O174 k) (L7000000_2 k) b7000000_2 m7000000_2 x7000000_2 (F7000000_2 k j) v
theorem lk7000000_2_ (k : Nat) : LinksOK Tryd.prog 19 (L7000000_2 k) b7000000_2 := (And.intro True.intro (And.intro (And.intro True.intro True.intro) (And.intro (And.intro True.intro (And.intro True.intro (And.intro (And.intro True.intro True.intro) True.intro))) True.intro)))
noncomputable def L7000000 (k : Nat) : LOrc := fun R lk s K => match lk with
  | .loop r => bif Nat.beq r 2 then link m7000000_2 x7000000_2 (F7000000_2 k k) s K else none
  | .label l => none
theorem lk_L7000000_2 (k : Nat) : LoopOK Tryd.prog 19 (L7000000 k) b7000000_2 := loopOK_of hm hT (ok_O174 k) (fun _ _ _ h => h) rfl (lk7000000_2_ k) rfl rfl (F := F7000000_2 k) (fun _ => rfl) (fun _ _ => rfl) (n := k) fun _ _ _ => rfl
noncomputable def F7000000 (k : Nat) (v : mi7000000.den) : Option mo7000000.den := runF TI (O174 k) (L7000000 k) c7000000 mi7000000 mo7000000 v
theorem lk7000000 (k : Nat) : LinksOK Tryd.prog 19 (L7000000 k) c7000000 := (And.intro True.intro (And.intro (And.intro True.intro (lk_L7000000_2 k)) (And.intro True.intro True.intro)))
theorem fn7000000 (k : Nat) (args : List AV) (x : mi7000000.den) (r : mo7000000.den) (h1 : args.length = mi7000000.items.length) (h2 : mi7000000.dec (Th.start args) = some x) (h3 : F7000000 k x = some r) : CallOK Tryd.prog 173 args (ansOf (outL mo7000000.items r)) :=
  call_of hm hT (ok_O174 k) (fn := Tryd.f173) (c := c7000000) Tryd.func173 rfl rfl rfl (lk7000000 k) rfl (by decide) rfl h1 h2 h3
noncomputable def O7000000 (k : Nat) : Orc := fun R f args K => bif (bif Nat.beq f 173 then isClo 1 174 args else false) then callF mi7000000 mo7000000 (F7000000 k) args K else O174 k R f args K
theorem ok_O7000000 (k : Nat) : OrcOK (O7000000 k) (CallOK Tryd.prog) := orc_addP (fn7000000 k) (ok_O174 k)

/-! 115: paydesk/message.Get -/
noncomputable def c115 : Code := Tryd.f115.body.getD .skip
noncomputable def mi115 : Msk := ⟨[(.tmp 0, .val (.st (.cons .str (.cons (.slice (.st (.cons (.int .i64) (.cons .str .nil)))) .nil)))), (.tmp 1, .val (.int .i64))], []⟩
noncomputable def mo115 : Msk := ⟨[(.tmp 4, .val .str), (.tmp 5, .val .bool)], []⟩
noncomputable def L115 (k : Nat) : LOrc := fun _ _ _ _ => none
noncomputable def F115 (k : Nat) (v : mi115.den) : Option mo115.den := runF TI (O7000000 k) (L115 k) c115 mi115 mo115 v
theorem lk115 (k : Nat) : LinksOK Tryd.prog 19 (L115 k) c115 := (And.intro True.intro (And.intro True.intro (And.intro (And.intro True.intro (And.intro (And.intro True.intro True.intro) True.intro)) (And.intro True.intro True.intro))))
theorem fn115 (k : Nat) (args : List AV) (x : mi115.den) (r : mo115.den) (h1 : args.length = mi115.items.length) (h2 : mi115.dec (Th.start args) = some x) (h3 : F115 k x = some r) : CallOK Tryd.prog 115 args (ansOf (outL mo115.items r)) :=
  call_of hm hT (ok_O7000000 k) (fn := Tryd.f115) (c := c115) Tryd.func115 rfl rfl rfl (lk115 k) rfl (by decide) rfl h1 h2 h3
noncomputable def O115 (k : Nat) : Orc := fun R f args K => bif Nat.beq f 115 then callF mi115 mo115 (F115 k) args K else O7000000 k R f args K
theorem ok_O115 (k : Nat) : OrcOK (O115 k) (CallOK Tryd.prog) := orc_add (fn115 k) (ok_O7000000 k)

/-! 114: paydesk/deal.number -/
noncomputable def c114 : Code := Tryd.f114.body.getD .skip
noncomputable def mi114 : Msk := ⟨[(.tmp 0, .val (.st (.cons .str (.cons (.slice (.st (.cons (.int .i64) (.cons .str .nil)))) .nil)))), (.tmp 1, .val (.int .i64))], []⟩
noncomputable def mo114 : Msk := ⟨[(.tmp 4, .val (.int .u64))], []⟩
noncomputable def L114 (k : Nat) : LOrc := fun _ _ _ _ => none
noncomputable def F114 (k : Nat) (v : mi114.den) : Option mo114.den := runF TI (O115 k) (L114 k) c114 mi114 mo114 v
theorem lk114 (k : Nat) : LinksOK Tryd.prog 21 (L114 k) c114 := (And.intro True.intro (And.intro True.intro (And.intro True.intro (And.intro True.intro True.intro))))
theorem fn114 (k : Nat) (args : List AV) (x : mi114.den) (r : mo114.den) (h1 : args.length = mi114.items.length) (h2 : mi114.dec (Th.start args) = some x) (h3 : F114 k x = some r) : CallOK Tryd.prog 114 args (ansOf (outL mo114.items r)) :=
  call_of hm hT (ok_O115 k) (fn := Tryd.f114) (c := c114) Tryd.func114 rfl rfl rfl (lk114 k) rfl (by decide) rfl h1 h2 h3
noncomputable def O114 (k : Nat) : Orc := fun R f args K => bif Nat.beq f 114 then callF mi114 mo114 (F114 k) args K else O115 k R f args K
theorem ok_O114 (k : Nat) : OrcOK (O114 k) (CallOK Tryd.prog) := orc_add (fn114 k) (ok_O115 k)

/-! 116: paydesk/deal.fits -/
noncomputable def c116 : Code := Tryd.f116.body.getD .skip
noncomputable def mi116 : Msk := ⟨[(.tmp 0, .val (.st (.cons .str (.cons (.slice (.st (.cons (.int .i64) (.cons .str .nil)))) .nil)))), (.tmp 1, .val (.st (.cons (.int .i64) (.cons .str (.cons (.int .u64) (.cons (.int .u32) (.cons .str (.cons .str .nil))))))))], []⟩
noncomputable def mo116 : Msk := ⟨[(.tmp 4, .val .bool)], []⟩
noncomputable def L116_5 (k : Nat) : LOrc := fun _ _ _ _ => none
noncomputable def b116_5 : Code := (findLoop 5 c116).getD .skip
noncomputable def m116_5 : Msk := ⟨[(.tmp 2, .ptr 2 0), (.tmp 16, .row false (.st (.cons (.int .i64) (.cons .str .nil)))), (.tmp 17, .val (.int .i64)), (.tmp 18, .val (.int .i64)), (.cell 2 0, .val .str), (.cell 2 1, .val (.slice (.st (.cons (.int .i64) (.cons .str .nil)))))], [(2, 2)]⟩
noncomputable def x116_5 : List (X × Msk) := [(.exit 0, ⟨[], []⟩), (.ret, ⟨[(.tmp 4, .val .bool)], []⟩)]
noncomputable def F116_5 (k : Nat) : Nat → m116_5.den → Option (denE x116_5)
  | 0, _ => none
  | j + 1, v => round TI (O114 k) (L116_5 k) b116_5 m116_5 x116_5 (F116_5 k j) v
theorem lk116_5_ (k : Nat) : LinksOK Tryd.prog 33 (L116_5 k) b116_5 := (And.intro True.intro (And.intro (And.intro True.intro True.intro) (And.intro (And.intro True.intro (And.intro True.intro (And.intro (And.intro True.intro True.intro) True.intro))) True.intro)))
noncomputable def L116 (k : Nat) : LOrc := fun R lk s K => match lk with
  | .loop r => bif Nat.beq r 5 then link m116_5 x116_5 (F116_5 k k) s K else none
  | .label l => none
theorem lk_L116_5 (k : Nat) : LoopOK Tryd.prog 33 (L116 k) b116_5 := loopOK_of hm hT (ok_O114 k) (fun _ _ _ h => h) rfl (lk116_5_ k) rfl rfl (F := F116_5 k) (fun _ => rfl) (fun _ _ => rfl) (n := k) fun _ _ _ => rfl
noncomputable def F116 (k : Nat) (v : mi116.den) : Option mo116.den := runF TI (O114 k) (L116 k) c116 mi116 mo116 v
theorem lk116 (k : Nat) : LinksOK Tryd.prog 33 (L116 k) c116 := (And.intro True.intro (And.intro True.intro (And.intro (And.intro True.intro (And.intro (And.intro True.intro True.intro) True.intro)) (And.intro (And.intro True.intro (lk_L116_5 k)) (And.intro True.intro True.intro)))))
theorem fn116 (k : Nat) (args : List AV) (x : mi116.den) (r : mo116.den) (h1 : args.length = mi116.items.length) (h2 : mi116.dec (Th.start args) = some x) (h3 : F116 k x = some r) : CallOK Tryd.prog 116 args (ansOf (outL mo116.items r)) :=
  call_of hm hT (ok_O114 k) (fn := Tryd.f116) (c := c116) Tryd.func116 rfl rfl rfl (lk116 k) rfl (by decide) rfl h1 h2 h3
noncomputable def O116 (k : Nat) : Orc := fun R f args K => bif Nat.beq f 116 then callF mi116 mo116 (F116 k) args K else O114 k R f args K
theorem ok_O116 (k : Nat) : OrcOK (O116 k) (CallOK Tryd.prog) := orc_add (fn116 k) (ok_O114 k)

/-! 40: paydesk/deal.Read -/
noncomputable def c40 : Code := Tryd.f40.body.getD .skip
noncomputable def mi40 : Msk := ⟨[(.tmp 0, .val (.st (.cons .str (.cons (.slice (.st (.cons (.int .i64) (.cons .str .nil)))) .nil))))], []⟩
noncomputable def mo40 : Msk := ⟨[(.res 2, .val (.st (.cons (.int .i64) (.cons .str (.cons (.int .u64) (.cons (.int .u32) (.cons .str (.cons .str .nil)))))))), (.tmp 3, .val (.int .i64))], []⟩
noncomputable def L40 (k : Nat) : LOrc := fun _ _ _ _ => none
noncomputable def F40 (k : Nat) (v : mi40.den) : Option mo40.den := runF TI (O116 k) (L40 k) c40 mi40 mo40 v
theorem lk40 (k : Nat) : LinksOK Tryd.prog 84 (L40 k) c40 := (And.intro True.intro (And.intro (And.intro True.intro (And.intro (And.intro True.intro True.intro) True.intro)) (And.intro True.intro (And.intro True.intro (And.intro True.intro (And.intro True.intro (And.intro True.intro (And.intro (And.intro (And.intro True.intro (And.intro True.intro True.intro)) (And.intro (And.intro True.intro True.intro) (And.intro True.intro (And.intro (And.intro True.intro True.intro) (And.intro True.intro (And.intro (And.intro True.intro True.intro) True.intro)))))) (And.intro True.intro True.intro)))))))))
theorem fn40 (k : Nat) (args : List AV) (x : mi40.den) (r : mo40.den) (h1 : args.length = mi40.items.length) (h2 : mi40.dec (Th.start args) = some x) (h3 : F40 k x = some r) : CallOK Tryd.prog 40 args (ansOf (outL mo40.items r)) :=
  call_of hm hT (ok_O116 k) (fn := Tryd.f40) (c := c40) Tryd.func40 rfl rfl rfl (lk40 k) rfl (by decide) rfl h1 h2 h3
noncomputable def O40 (k : Nat) : Orc := fun R f args K => bif Nat.beq f 40 then callF mi40 mo40 (F40 k) args K else O116 k R f args K
theorem ok_O40 (k : Nat) : OrcOK (O40 k) (CallOK Tryd.prog) := orc_add (fn40 k) (ok_O116 k)

/-! 34: paydesk/paydesklaw06.awake -/
noncomputable def c34 : Code := Tryd.f34.body.getD .skip
noncomputable def mi34 : Msk := ⟨[], []⟩
noncomputable def mo34 : Msk := ⟨[(.tmp 0, .val .bool)], []⟩
noncomputable def L34 (k : Nat) : LOrc := fun _ _ _ _ => none
noncomputable def F34 (k : Nat) (v : mi34.den) : Option mo34.den := runF TI (O40 k) (L34 k) c34 mi34 mo34 v
theorem lk34 (k : Nat) : LinksOK Tryd.prog 69 (L34 k) c34 := (And.intro True.intro (And.intro True.intro (And.intro True.intro (And.intro True.intro (And.intro True.intro (And.intro True.intro True.intro))))))
theorem fn34 (k : Nat) (args : List AV) (x : mi34.den) (r : mo34.den) (h1 : args.length = mi34.items.length) (h2 : mi34.dec (Th.start args) = some x) (h3 : F34 k x = some r) : CallOK Tryd.prog 34 args (ansOf (outL mo34.items r)) :=
  call_of hm hT (ok_O40 k) (fn := Tryd.f34) (c := c34) Tryd.func34 rfl rfl rfl (lk34 k) rfl (by decide) rfl h1 h2 h3
noncomputable def O34 (k : Nat) : Orc := fun R f args K => bif Nat.beq f 34 then callF mi34 mo34 (F34 k) args K else O40 k R f args K
theorem ok_O34 (k : Nat) : OrcOK (O34 k) (CallOK Tryd.prog) := orc_add (fn34 k) (ok_O40 k)

/-! 35: paydesk/paydeskref04.Short -/
noncomputable def c35 : Code := Tryd.f35.body.getD .skip
noncomputable def mi35 : Msk := ⟨[(.tmp 0, .val (.st (.cons .str (.cons (.slice (.st (.cons (.int .i64) (.cons .str .nil)))) .nil))))], []⟩
noncomputable def mo35 : Msk := ⟨[(.tmp 2, .val .bool)], []⟩
noncomputable def L35_2 (k : Nat) : LOrc := fun _ _ _ _ => none
noncomputable def b35_2 : Code := (findLoop 2 c35).getD .skip
noncomputable def m35_2 : Msk := ⟨[(.tmp 1, .ptr 1 0), (.tmp 3, .val (.int .i64)), (.cell 1 0, .val .str), (.cell 1 1, .val (.slice (.st (.cons (.int .i64) (.cons .str .nil)))))], [(1, 2)]⟩
noncomputable def x35_2 : List (X × Msk) := [(.exit 0, ⟨[(.tmp 1, .ptr 1 0), (.cell 1 0, .val .str), (.cell 1 1, .val (.slice (.st (.cons (.int .i64) (.cons .str .nil)))))], [(1, 2)]⟩), (.ret, ⟨[(.tmp 2, .val .bool)], []⟩)]
noncomputable def F35_2 (k : Nat) : Nat → m35_2.den → Option (denE x35_2)
  | 0, _ => none
  | j + 1, v => round TI (O34 k) (L35_2 k) b35_2 m35_2 x35_2 (F35_2 k j) v
theorem lk35_2_ (k : Nat) : LinksOK Tryd.prog 33 (L35_2 k) b35_2 := (And.intro (And.intro True.intro (And.intro True.intro True.intro)) (And.intro (And.intro True.intro (And.intro (And.intro True.intro True.intro) True.intro)) True.intro))
noncomputable def L35 (k : Nat) : LOrc := fun R lk s K => match lk with
  | .loop r => bif Nat.beq r 2 then link m35_2 x35_2 (F35_2 k k) s K else none
  | .label l => none
theorem lk_L35_2 (k : Nat) : LoopOK Tryd.prog 33 (L35 k) b35_2 := loopOK_of hm hT (ok_O34 k) (fun _ _ _ h => h) rfl (lk35_2_ k) rfl rfl (F := F35_2 k) (fun _ => rfl) (fun _ _ => rfl) (n := k) fun _ _ _ => rfl
noncomputable def F35 (k : Nat) (v : mi35.den) : Option mo35.den := runF TI (O34 k) (L35 k) c35 mi35 mo35 v
theorem lk35 (k : Nat) : LinksOK Tryd.prog 33 (L35 k) c35 := (And.intro True.intro (And.intro (And.intro True.intro (lk_L35_2 k)) (And.intro True.intro True.intro)))
theorem fn35 (k : Nat) (args : List AV) (x : mi35.den) (r : mo35.den) (h1 : args.length = mi35.items.length) (h2 : mi35.dec (Th.start args) = some x) (h3 : F35 k x = some r) : CallOK Tryd.prog 35 args (ansOf (outL mo35.items r)) :=
  call_of hm hT (ok_O34 k) (fn := Tryd.f35) (c := c35) Tryd.func35 rfl rfl rfl (lk35 k) rfl (by decide) rfl h1 h2 h3
noncomputable def O35 (k : Nat) : Orc := fun R f args K => bif Nat.beq f 35 then callF mi35 mo35 (F35 k) args K else O34 k R f args K
theorem ok_O35 (k : Nat) : OrcOK (O35 k) (CallOK Tryd.prog) := orc_add (fn35 k) (ok_O34 k)

/-! 43: paydesk/paydeskref06.Asks -/
noncomputable def c43 : Code := Tryd.f43.body.getD .skip
noncomputable def mi43 : Msk := ⟨[(.tmp 0, .val (.int .i64))], []⟩
noncomputable def mo43 : Msk := ⟨[(.tmp 2, .val .bool)], []⟩
noncomputable def L43 (k : Nat) : LOrc := fun _ _ _ _ => none
noncomputable def F43 (k : Nat) (v : mi43.den) : Option mo43.den := runF TI (O35 k) (L43 k) c43 mi43 mo43 v
theorem lk43 (k : Nat) : LinksOK Tryd.prog 17 (L43 k) c43 := (And.intro True.intro (And.intro True.intro True.intro))
theorem fn43 (k : Nat) (args : List AV) (x : mi43.den) (r : mo43.den) (h1 : args.length = mi43.items.length) (h2 : mi43.dec (Th.start args) = some x) (h3 : F43 k x = some r) : CallOK Tryd.prog 43 args (ansOf (outL mo43.items r)) :=
  call_of hm hT (ok_O35 k) (fn := Tryd.f43) (c := c43) Tryd.func43 rfl rfl rfl (lk43 k) rfl (by decide) rfl h1 h2 h3
noncomputable def O43 (k : Nat) : Orc := fun R f args K => bif Nat.beq f 43 then callF mi43 mo43 (F43 k) args K else O35 k R f args K
theorem ok_O43 (k : Nat) : OrcOK (O43 k) (CallOK Tryd.prog) := orc_add (fn43 k) (ok_O35 k)

/-! 110: paydesk/paydeskref01.Fine -/
noncomputable def c110 : Code := Tryd.f110.body.getD .skip
noncomputable def mi110 : Msk := ⟨[(.tmp 0, .val .str)], []⟩
noncomputable def mo110 : Msk := ⟨[(.tmp 2, .val .bool)], []⟩
noncomputable def L110_5 (k : Nat) : LOrc := fun _ _ _ _ => none
noncomputable def b110_5 : Code := (findLoop 5 c110).getD .skip
noncomputable def m110_5 : Msk := ⟨[(.tmp 0, .val .str), (.tmp 3, .val (.int .i64)), (.tmp 4, .val (.int .i64))], []⟩
noncomputable def x110_5 : List (X × Msk) := [(.exit 0, ⟨[(.tmp 3, .val (.int .i64))], []⟩)]
noncomputable def F110_5 (k : Nat) : Nat → m110_5.den → Option (denE x110_5)
  | 0, _ => none
  | j + 1, v => round TI (O43 k) (L110_5 k) b110_5 m110_5 x110_5 (F110_5 k j) v
theorem lk110_5_ (k : Nat) : LinksOK Tryd.prog 38 (L110_5 k) b110_5 := (And.intro (And.intro True.intro (And.intro True.intro True.intro)) (And.intro (And.intro True.intro (And.intro (And.intro True.intro (And.intro (And.intro True.intro (And.intro True.intro (And.intro True.intro True.intro))) True.intro)) True.intro)) True.intro))
noncomputable def L110 (k : Nat) : LOrc := fun R lk s K => match lk with
  | .loop r => bif Nat.beq r 5 then link m110_5 x110_5 (F110_5 k k) s K else none
  | .label l => none
theorem lk_L110_5 (k : Nat) : LoopOK Tryd.prog 38 (L110 k) b110_5 := loopOK_of hm hT (ok_O43 k) (fun _ _ _ h => h) rfl (lk110_5_ k) rfl rfl (F := F110_5 k) (fun _ => rfl) (fun _ _ => rfl) (n := k) fun _ _ _ => rfl
noncomputable def F110 (k : Nat) (v : mi110.den) : Option mo110.den := runF TI (O43 k) (L110 k) c110 mi110 mo110 v
theorem lk110 (k : Nat) : LinksOK Tryd.prog 38 (L110 k) c110 := (And.intro True.intro (And.intro (And.intro True.intro (And.intro (And.intro True.intro True.intro) True.intro)) (And.intro True.intro (And.intro (And.intro True.intro (lk_L110_5 k)) (And.intro True.intro True.intro)))))
theorem fn110 (k : Nat) (args : List AV) (x : mi110.den) (r : mo110.den) (h1 : args.length = mi110.items.length) (h2 : mi110.dec (Th.start args) = some x) (h3 : F110 k x = some r) : CallOK Tryd.prog 110 args (ansOf (outL mo110.items r)) :=
  call_of hm hT (ok_O43 k) (fn := Tryd.f110) (c := c110) Tryd.func110 rfl rfl rfl (lk110 k) rfl (by decide) rfl h1 h2 h3
noncomputable def O110 (k : Nat) : Orc := fun R f args K => bif Nat.beq f 110 then callF mi110 mo110 (F110 k) args K else O43 k R f args K
theorem ok_O110 (k : Nat) : OrcOK (O110 k) (CallOK Tryd.prog) := orc_add (fn110 k) (ok_O43 k)

/-! 36: paydesk/paydeskref06.Right -/
noncomputable def c36 : Code := Tryd.f36.body.getD .skip
noncomputable def mi36 : Msk := ⟨[(.tmp 0, .val (.st (.cons (.int .i64) (.cons .str (.cons (.int .u64) (.cons (.int .u32) (.cons .str (.cons .str .nil))))))))], []⟩
noncomputable def mo36 : Msk := ⟨[(.tmp 2, .val .bool)], []⟩
noncomputable def L36 (k : Nat) : LOrc := fun _ _ _ _ => none
noncomputable def F36 (k : Nat) (v : mi36.den) : Option mo36.den := runF TI (O110 k) (L36 k) c36 mi36 mo36 v
theorem lk36 (k : Nat) : LinksOK Tryd.prog 57 (L36 k) c36 := (And.intro True.intro (And.intro (And.intro True.intro (And.intro (And.intro True.intro True.intro) True.intro)) (And.intro (And.intro True.intro (And.intro (And.intro True.intro True.intro) True.intro)) (And.intro True.intro True.intro))))
theorem fn36 (k : Nat) (args : List AV) (x : mi36.den) (r : mo36.den) (h1 : args.length = mi36.items.length) (h2 : mi36.dec (Th.start args) = some x) (h3 : F36 k x = some r) : CallOK Tryd.prog 36 args (ansOf (outL mo36.items r)) :=
  call_of hm hT (ok_O110 k) (fn := Tryd.f36) (c := c36) Tryd.func36 rfl rfl rfl (lk36 k) rfl (by decide) rfl h1 h2 h3
noncomputable def O36 (k : Nat) : Orc := fun R f args K => bif Nat.beq f 36 then callF mi36 mo36 (F36 k) args K else O110 k R f args K
theorem ok_O36 (k : Nat) : OrcOK (O36 k) (CallOK Tryd.prog) := orc_add (fn36 k) (ok_O110 k)

/-! 111: paydesk/paydeskref06.Types -/
noncomputable def c111 : Code := Tryd.f111.body.getD .skip
noncomputable def mi111 : Msk := ⟨[], []⟩
noncomputable def mo111 : Msk := ⟨[(.tmp 0, .row false .str)], []⟩
noncomputable def L111 (k : Nat) : LOrc := fun _ _ _ _ => none
noncomputable def F111 (k : Nat) (v : mi111.den) : Option mo111.den := runF TI (O36 k) (L111 k) c111 mi111 mo111 v
theorem lk111 (k : Nat) : LinksOK Tryd.prog 2 (L111 k) c111 := (And.intro True.intro (And.intro True.intro True.intro))
theorem fn111 (k : Nat) (args : List AV) (x : mi111.den) (r : mo111.den) (h1 : args.length = mi111.items.length) (h2 : mi111.dec (Th.start args) = some x) (h3 : F111 k x = some r) : CallOK Tryd.prog 111 args (ansOf (outL mo111.items r)) :=
  call_of hm hT (ok_O36 k) (fn := Tryd.f111) (c := c111) Tryd.func111 rfl rfl rfl (lk111 k) rfl (by decide) rfl h1 h2 h3
noncomputable def O111 (k : Nat) : Orc := fun R f args K => bif Nat.beq f 111 then callF mi111 mo111 (F111 k) args K else O36 k R f args K
theorem ok_O111 (k : Nat) : OrcOK (O111 k) (CallOK Tryd.prog) := orc_add (fn111 k) (ok_O36 k)

/-! 112: paydesk/paydeskref06.Origin -/
noncomputable def c112 : Code := Tryd.f112.body.getD .skip
noncomputable def mi112 : Msk := ⟨[(.tmp 0, .val .str)], []⟩
noncomputable def mo112 : Msk := ⟨[(.tmp 2, .val .str)], []⟩
noncomputable def L112 (k : Nat) : LOrc := fun _ _ _ _ => none
noncomputable def F112 (k : Nat) (v : mi112.den) : Option mo112.den := runF TI (O111 k) (L112 k) c112 mi112 mo112 v
theorem lk112 (k : Nat) : LinksOK Tryd.prog 6 (L112 k) c112 := (And.intro True.intro (And.intro True.intro True.intro))
theorem fn112 (k : Nat) (args : List AV) (x : mi112.den) (r : mo112.den) (h1 : args.length = mi112.items.length) (h2 : mi112.dec (Th.start args) = some x) (h3 : F112 k x = some r) : CallOK Tryd.prog 112 args (ansOf (outL mo112.items r)) :=
  call_of hm hT (ok_O111 k) (fn := Tryd.f112) (c := c112) Tryd.func112 rfl rfl rfl (lk112 k) rfl (by decide) rfl h1 h2 h3
noncomputable def O112 (k : Nat) : Orc := fun R f args K => bif Nat.beq f 112 then callF mi112 mo112 (F112 k) args K else O111 k R f args K
theorem ok_O112 (k : Nat) : OrcOK (O112 k) (CallOK Tryd.prog) := orc_add (fn112 k) (ok_O111 k)

/-! 39: paydesk/paydeskref06.Write -/
noncomputable def c39 : Code := Tryd.f39.body.getD .skip
noncomputable def mi39 : Msk := ⟨[(.tmp 0, .val (.st (.cons (.int .i64) (.cons .str (.cons (.int .u64) (.cons (.int .u32) (.cons .str (.cons .str .nil))))))))], []⟩
noncomputable def mo39 : Msk := ⟨[(.res 2, .val (.st (.cons .str (.cons (.slice (.st (.cons (.int .i64) (.cons .str .nil)))) .nil))))], []⟩
noncomputable def L39 (k : Nat) : LOrc := fun _ _ _ _ => none
noncomputable def F39 (k : Nat) (v : mi39.den) : Option mo39.den := runF TI (O112 k) (L39 k) c39 mi39 mo39 v
theorem lk39 (k : Nat) : LinksOK Tryd.prog 70 (L39 k) c39 := (And.intro True.intro (And.intro True.intro (And.intro (And.intro True.intro (And.intro True.intro True.intro)) (And.intro True.intro (And.intro True.intro (And.intro (And.intro True.intro (And.intro True.intro True.intro)) (And.intro (And.intro True.intro (And.intro True.intro True.intro)) (And.intro True.intro True.intro))))))))
theorem fn39 (k : Nat) (args : List AV) (x : mi39.den) (r : mo39.den) (h1 : args.length = mi39.items.length) (h2 : mi39.dec (Th.start args) = some x) (h3 : F39 k x = some r) : CallOK Tryd.prog 39 args (ansOf (outL mo39.items r)) :=
  call_of hm hT (ok_O112 k) (fn := Tryd.f39) (c := c39) Tryd.func39 rfl rfl rfl (lk39 k) rfl (by decide) rfl h1 h2 h3
noncomputable def O39 (k : Nat) : Orc := fun R f args K => bif Nat.beq f 39 then callF mi39 mo39 (F39 k) args K else O112 k R f args K
theorem ok_O39 (k : Nat) : OrcOK (O39 k) (CallOK Tryd.prog) := orc_add (fn39 k) (ok_O112 k)

/-! 38: paydesk/paydeskref04.Same -/
noncomputable def c38 : Code := Tryd.f38.body.getD .skip
noncomputable def mi38 : Msk := ⟨[(.tmp 0, .val (.st (.cons .str (.cons (.slice (.st (.cons (.int .i64) (.cons .str .nil)))) .nil)))), (.tmp 1, .val (.st (.cons .str (.cons (.slice (.st (.cons (.int .i64) (.cons .str .nil)))) .nil))))], []⟩
noncomputable def mo38 : Msk := ⟨[(.tmp 4, .val .bool)], []⟩
noncomputable def L38_4 (k : Nat) : LOrc := fun _ _ _ _ => none
noncomputable def b38_4 : Code := (findLoop 4 c38).getD .skip
noncomputable def m38_4 : Msk := ⟨[(.tmp 2, .ptr 2 0), (.tmp 3, .ptr 3 0), (.tmp 5, .val (.int .i64)), (.cell 2 0, .val .str), (.cell 2 1, .val (.slice (.st (.cons (.int .i64) (.cons .str .nil))))), (.cell 3 0, .val .str), (.cell 3 1, .val (.slice (.st (.cons (.int .i64) (.cons .str .nil)))))], [(2, 2), (3, 2)]⟩
noncomputable def x38_4 : List (X × Msk) := [(.exit 0, ⟨[], []⟩), (.ret, ⟨[(.tmp 4, .val .bool)], []⟩)]
noncomputable def F38_4 (k : Nat) : Nat → m38_4.den → Option (denE x38_4)
  | 0, _ => none
  | j + 1, v => round TI (O39 k) (L38_4 k) b38_4 m38_4 x38_4 (F38_4 k j) v
theorem lk38_4_ (k : Nat) : LinksOK Tryd.prog 38 (L38_4 k) b38_4 := (And.intro (And.intro True.intro (And.intro True.intro True.intro)) (And.intro (And.intro True.intro (And.intro (And.intro True.intro True.intro) True.intro)) True.intro))
noncomputable def L38 (k : Nat) : LOrc := fun R lk s K => match lk with
  | .loop r => bif Nat.beq r 4 then link m38_4 x38_4 (F38_4 k k) s K else none
  | .label l => none
theorem lk_L38_4 (k : Nat) : LoopOK Tryd.prog 38 (L38 k) b38_4 := loopOK_of hm hT (ok_O39 k) (fun _ _ _ h => h) rfl (lk38_4_ k) rfl rfl (F := F38_4 k) (fun _ => rfl) (fun _ _ => rfl) (n := k) fun _ _ _ => rfl
noncomputable def F38 (k : Nat) (v : mi38.den) : Option mo38.den := runF TI (O39 k) (L38 k) c38 mi38 mo38 v
theorem lk38 (k : Nat) : LinksOK Tryd.prog 38 (L38 k) c38 := (And.intro True.intro (And.intro (And.intro True.intro (And.intro (And.intro True.intro True.intro) True.intro)) (And.intro (And.intro True.intro (lk_L38_4 k)) (And.intro True.intro True.intro))))
theorem fn38 (k : Nat) (args : List AV) (x : mi38.den) (r : mo38.den) (h1 : args.length = mi38.items.length) (h2 : mi38.dec (Th.start args) = some x) (h3 : F38 k x = some r) : CallOK Tryd.prog 38 args (ansOf (outL mo38.items r)) :=
  call_of hm hT (ok_O39 k) (fn := Tryd.f38) (c := c38) Tryd.func38 rfl rfl rfl (lk38 k) rfl (by decide) rfl h1 h2 h3
noncomputable def O38 (k : Nat) : Orc := fun R f args K => bif Nat.beq f 38 then callF mi38 mo38 (F38 k) args K else O39 k R f args K
theorem ok_O38 (k : Nat) : OrcOK (O38 k) (CallOK Tryd.prog) := orc_add (fn38 k) (ok_O39 k)

/-! 178: paydesk/paydeskref04.Known -/
noncomputable def c178 : Code := Tryd.f178.body.getD .skip
noncomputable def mi178 : Msk := ⟨[(.tmp 0, .val .str)], []⟩
noncomputable def mo178 : Msk := ⟨[(.tmp 2, .val .bool)], []⟩
noncomputable def L178_3 (k : Nat) : LOrc := fun _ _ _ _ => none
noncomputable def b178_3 : Code := (findLoop 3 c178).getD .skip
noncomputable def m178_3 : Msk := ⟨[(.tmp 0, .val .str), (.tmp 3, .row false .str), (.tmp 4, .val (.int .i64))], []⟩
noncomputable def x178_3 : List (X × Msk) := [(.exit 0, ⟨[], []⟩), (.ret, ⟨[(.tmp 2, .val .bool)], []⟩)]
noncomputable def F178_3 (k : Nat) : Nat → m178_3.den → Option (denE x178_3)
  | 0, _ => none
  | j + 1, v => round TI (O38 k) (L178_3 k) b178_3 m178_3 x178_3 (F178_3 k j) v
theorem lk178_3_ (k : Nat) : LinksOK Tryd.prog 18 (L178_3 k) b178_3 := (And.intro (And.intro True.intro (And.intro True.intro True.intro)) (And.intro (And.intro True.intro (And.intro (And.intro True.intro True.intro) True.intro)) True.intro))
noncomputable def L178 (k : Nat) : LOrc := fun R lk s K => match lk with
  | .loop r => bif Nat.beq r 3 then link m178_3 x178_3 (F178_3 k k) s K else none
  | .label l => none
theorem lk_L178_3 (k : Nat) : LoopOK Tryd.prog 18 (L178 k) b178_3 := loopOK_of hm hT (ok_O38 k) (fun _ _ _ h => h) rfl (lk178_3_ k) rfl rfl (F := F178_3 k) (fun _ => rfl) (fun _ _ => rfl) (n := k) fun _ _ _ => rfl
noncomputable def F178 (k : Nat) (v : mi178.den) : Option mo178.den := runF TI (O38 k) (L178 k) c178 mi178 mo178 v
theorem lk178 (k : Nat) : LinksOK Tryd.prog 18 (L178 k) c178 := (And.intro True.intro (And.intro True.intro (And.intro (And.intro True.intro (lk_L178_3 k)) (And.intro True.intro True.intro))))
theorem fn178 (k : Nat) (args : List AV) (x : mi178.den) (r : mo178.den) (h1 : args.length = mi178.items.length) (h2 : mi178.dec (Th.start args) = some x) (h3 : F178 k x = some r) : CallOK Tryd.prog 178 args (ansOf (outL mo178.items r)) :=
  call_of hm hT (ok_O38 k) (fn := Tryd.f178) (c := c178) Tryd.func178 rfl rfl rfl (lk178 k) rfl (by decide) rfl h1 h2 h3
noncomputable def O178 (k : Nat) : Orc := fun R f args K => bif Nat.beq f 178 then callF mi178 mo178 (F178 k) args K else O38 k R f args K
theorem ok_O178 (k : Nat) : OrcOK (O178 k) (CallOK Tryd.prog) := orc_add (fn178 k) (ok_O38 k)

/-! 118: paydesk/paydeskref04.Right -/
noncomputable def c118 : Code := Tryd.f118.body.getD .skip
noncomputable def mi118 : Msk := ⟨[(.tmp 0, .val (.st (.cons .str (.cons (.slice (.st (.cons (.int .i64) (.cons .str .nil)))) .nil))))], []⟩
noncomputable def mo118 : Msk := ⟨[(.tmp 2, .val .bool)], []⟩
noncomputable def L118_4 (k : Nat) : LOrc := fun _ _ _ _ => none
noncomputable def b118_4 : Code := (findLoop 4 c118).getD .skip
noncomputable def m118_4 : Msk := ⟨[(.tmp 1, .ptr 1 0), (.tmp 3, .val (.int .i64)), (.cell 1 0, .val .str), (.cell 1 1, .val (.slice (.st (.cons (.int .i64) (.cons .str .nil)))))], [(1, 2)]⟩
noncomputable def x118_4 : List (X × Msk) := [(.exit 0, ⟨[], []⟩), (.ret, ⟨[(.tmp 2, .val .bool)], []⟩)]
noncomputable def F118_4 (k : Nat) : Nat → m118_4.den → Option (denE x118_4)
  | 0, _ => none
  | j + 1, v => round TI (O178 k) (L118_4 k) b118_4 m118_4 x118_4 (F118_4 k j) v
theorem lk118_4_ (k : Nat) : LinksOK Tryd.prog 55 (L118_4 k) b118_4 := (And.intro (And.intro True.intro (And.intro True.intro True.intro)) (And.intro (And.intro True.intro (And.intro (And.intro True.intro True.intro) True.intro)) True.intro))
noncomputable def L118 (k : Nat) : LOrc := fun R lk s K => match lk with
  | .loop r => bif Nat.beq r 4 then link m118_4 x118_4 (F118_4 k k) s K else none
  | .label l => none
theorem lk_L118_4 (k : Nat) : LoopOK Tryd.prog 55 (L118 k) b118_4 := loopOK_of hm hT (ok_O178 k) (fun _ _ _ h => h) rfl (lk118_4_ k) rfl rfl (F := F118_4 k) (fun _ => rfl) (fun _ _ => rfl) (n := k) fun _ _ _ => rfl
noncomputable def F118 (k : Nat) (v : mi118.den) : Option mo118.den := runF TI (O178 k) (L118 k) c118 mi118 mo118 v
theorem lk118 (k : Nat) : LinksOK Tryd.prog 55 (L118 k) c118 := (And.intro True.intro (And.intro (And.intro True.intro (And.intro (And.intro True.intro True.intro) True.intro)) (And.intro (And.intro True.intro (lk_L118_4 k)) (And.intro True.intro True.intro))))
theorem fn118 (k : Nat) (args : List AV) (x : mi118.den) (r : mo118.den) (h1 : args.length = mi118.items.length) (h2 : mi118.dec (Th.start args) = some x) (h3 : F118 k x = some r) : CallOK Tryd.prog 118 args (ansOf (outL mo118.items r)) :=
  call_of hm hT (ok_O178 k) (fn := Tryd.f118) (c := c118) Tryd.func118 rfl rfl rfl (lk118 k) rfl (by decide) rfl h1 h2 h3
noncomputable def O118 (k : Nat) : Orc := fun R f args K => bif Nat.beq f 118 then callF mi118 mo118 (F118 k) args K else O178 k R f args K
theorem ok_O118 (k : Nat) : OrcOK (O118 k) (CallOK Tryd.prog) := orc_add (fn118 k) (ok_O178 k)

/-! 119: paydesk/paydeskref06.must -/
noncomputable def c119 : Code := Tryd.f119.body.getD .skip
noncomputable def mi119 : Msk := ⟨[(.tmp 0, .val (.int .i64))], []⟩
noncomputable def mo119 : Msk := ⟨[(.tmp 2, .row false (.int .i64))], []⟩
noncomputable def L119 (k : Nat) : LOrc := fun _ _ _ _ => none
noncomputable def F119 (k : Nat) (v : mi119.den) : Option mo119.den := runF TI (O118 k) (L119 k) c119 mi119 mo119 v
theorem lk119 (k : Nat) : LinksOK Tryd.prog 14 (L119 k) c119 := (And.intro True.intro (And.intro (And.intro True.intro (And.intro (And.intro True.intro True.intro) True.intro)) (And.intro (And.intro True.intro (And.intro (And.intro True.intro True.intro) True.intro)) (And.intro True.intro True.intro))))
theorem fn119 (k : Nat) (args : List AV) (x : mi119.den) (r : mo119.den) (h1 : args.length = mi119.items.length) (h2 : mi119.dec (Th.start args) = some x) (h3 : F119 k x = some r) : CallOK Tryd.prog 119 args (ansOf (outL mo119.items r)) :=
  call_of hm hT (ok_O118 k) (fn := Tryd.f119) (c := c119) Tryd.func119 rfl rfl rfl (lk119 k) rfl (by decide) rfl h1 h2 h3
noncomputable def O119 (k : Nat) : Orc := fun R f args K => bif Nat.beq f 119 then callF mi119 mo119 (F119 k) args K else O118 k R f args K
theorem ok_O119 (k : Nat) : OrcOK (O119 k) (CallOK Tryd.prog) := orc_add (fn119 k) (ok_O118 k)

/-! 41: paydesk/paydeskref06.Read -/
noncomputable def c41 : Code := Tryd.f41.body.getD .skip
noncomputable def mi41 : Msk := ⟨[(.tmp 0, .val (.st (.cons .str (.cons (.slice (.st (.cons (.int .i64) (.cons .str .nil)))) .nil))))], []⟩
noncomputable def mo41 : Msk := ⟨[(.res 2, .val (.st (.cons (.int .i64) (.cons .str (.cons (.int .u64) (.cons (.int .u32) (.cons .str (.cons .str .nil)))))))), (.tmp 3, .val (.int .i64))], []⟩
noncomputable def L41_5 (k : Nat) : LOrc := fun _ _ _ _ => none
noncomputable def b41_5 : Code := (findLoop 5 c41).getD .skip
noncomputable def m41_5 : Msk := ⟨[(.tmp 1, .ptr 1 0), (.tmp 2, .ptr 2 0), (.tmp 4, .ptr 4 0), (.tmp 5, .val (.int .i64)), (.cell 1 0, .val .str), (.cell 1 1, .val (.slice (.st (.cons (.int .i64) (.cons .str .nil))))), (.cell 2 0, .val (.int .i64)), (.cell 2 1, .val .str), (.cell 2 2, .val (.int .u64)), (.cell 2 3, .val (.int .u32)), (.cell 2 4, .val .str), (.cell 2 5, .val .str), (.cell 4 0, .val (.int .i64)), (.cell 4 1, .val .str), (.cell 4 2, .val (.int .u64)), (.cell 4 3, .val (.int .u32)), (.cell 4 4, .val .str), (.cell 4 5, .val .str)], [(1, 2), (2, 6), (4, 6)]⟩
noncomputable def x41_5 : List (X × Msk) := [(.exit 0, ⟨[(.tmp 1, .ptr 1 0), (.tmp 2, .ptr 2 0), (.tmp 4, .ptr 4 0), (.cell 1 0, .val .str), (.cell 1 1, .val (.slice (.st (.cons (.int .i64) (.cons .str .nil))))), (.cell 2 0, .val (.int .i64)), (.cell 2 1, .val .str), (.cell 2 2, .val (.int .u64)), (.cell 2 3, .val (.int .u32)), (.cell 2 4, .val .str), (.cell 2 5, .val .str), (.cell 4 0, .val (.int .i64)), (.cell 4 1, .val .str), (.cell 4 2, .val (.int .u64)), (.cell 4 3, .val (.int .u32)), (.cell 4 4, .val .str), (.cell 4 5, .val .str)], [(1, 2), (2, 6), (4, 6)]⟩)]
noncomputable def F41_5 (k : Nat) : Nat → m41_5.den → Option (denE x41_5)
  | 0, _ => none
  | j + 1, v => round TI (O119 k) (L41_5 k) b41_5 m41_5 x41_5 (F41_5 k j) v
theorem lk41_5_ (k : Nat) : LinksOK Tryd.prog 120 (L41_5 k) b41_5 := (And.intro (And.intro True.intro (And.intro True.intro True.intro)) (And.intro (And.intro True.intro (And.intro True.intro True.intro)) True.intro))
noncomputable def L41_13 (k : Nat) : LOrc := fun _ _ _ _ => none
noncomputable def b41_13 : Code := (findLoop 13 c41).getD .skip
noncomputable def m41_13 : Msk := ⟨[(.tmp 1, .ptr 1 0), (.tmp 2, .ptr 2 0), (.tmp 4, .ptr 4 0), (.tmp 6, .row false (.int .i64)), (.tmp 7, .val (.int .i64)), (.cell 1 0, .val .str), (.cell 1 1, .val (.slice (.st (.cons (.int .i64) (.cons .str .nil))))), (.cell 2 0, .val (.int .i64)), (.cell 2 1, .val .str), (.cell 2 2, .val (.int .u64)), (.cell 2 3, .val (.int .u32)), (.cell 2 4, .val .str), (.cell 2 5, .val .str), (.cell 4 0, .val (.int .i64)), (.cell 4 1, .val .str), (.cell 4 2, .val (.int .u64)), (.cell 4 3, .val (.int .u32)), (.cell 4 4, .val .str), (.cell 4 5, .val .str)], [(1, 2), (2, 6), (4, 6)]⟩
noncomputable def x41_13 : List (X × Msk) := [(.exit 2, ⟨[(.tmp 1, .ptr 1 0), (.tmp 2, .ptr 2 0), (.tmp 4, .ptr 4 0), (.tmp 6, .row false (.int .i64)), (.cell 1 0, .val .str), (.cell 1 1, .val (.slice (.st (.cons (.int .i64) (.cons .str .nil))))), (.cell 2 0, .val (.int .i64)), (.cell 2 1, .val .str), (.cell 2 2, .val (.int .u64)), (.cell 2 3, .val (.int .u32)), (.cell 2 4, .val .str), (.cell 2 5, .val .str), (.cell 4 0, .val (.int .i64)), (.cell 4 1, .val .str), (.cell 4 2, .val (.int .u64)), (.cell 4 3, .val (.int .u32)), (.cell 4 4, .val .str), (.cell 4 5, .val .str)], [(1, 2), (2, 6), (4, 6)]⟩), (.ret, ⟨[(.tmp 2, .ptr 2 0), (.tmp 3, .val (.int .i64)), (.cell 2 0, .val (.int .i64)), (.cell 2 1, .val .str), (.cell 2 2, .val (.int .u64)), (.cell 2 3, .val (.int .u32)), (.cell 2 4, .val .str), (.cell 2 5, .val .str)], [(2, 6)]⟩)]
noncomputable def F41_13 (k : Nat) : Nat → m41_13.den → Option (denE x41_13)
  | 0, _ => none
  | j + 1, v => round TI (O119 k) (L41_13 k) b41_13 m41_13 x41_13 (F41_13 k j) v
theorem lk41_13_ (k : Nat) : LinksOK Tryd.prog 120 (L41_13 k) b41_13 := (And.intro (And.intro True.intro (And.intro True.intro True.intro)) (And.intro (And.intro True.intro (And.intro (And.intro True.intro (And.intro (And.intro True.intro True.intro) True.intro)) (And.intro True.intro (And.intro True.intro (And.intro True.intro (And.intro True.intro (And.intro True.intro (And.intro True.intro (And.intro True.intro (And.intro True.intro (And.intro True.intro (And.intro True.intro (And.intro True.intro (And.intro True.intro True.intro)))))))))))))) True.intro))
noncomputable def L41 (k : Nat) : LOrc := fun R lk s K => match lk with
  | .loop r => bif Nat.beq r 5 then link m41_5 x41_5 (F41_5 k k) s K else bif Nat.beq r 13 then link m41_13 x41_13 (F41_13 k k) s K else none
  | .label l => none
theorem lk_L41_5 (k : Nat) : LoopOK Tryd.prog 120 (L41 k) b41_5 := loopOK_of hm hT (ok_O119 k) (fun _ _ _ h => h) rfl (lk41_5_ k) rfl rfl (F := F41_5 k) (fun _ => rfl) (fun _ _ => rfl) (n := k) fun _ _ _ => rfl
theorem lk_L41_13 (k : Nat) : LoopOK Tryd.prog 120 (L41 k) b41_13 := loopOK_of hm hT (ok_O119 k) (fun _ _ _ h => h) rfl (lk41_13_ k) rfl rfl (F := F41_13 k) (fun _ => rfl) (fun _ _ => rfl) (n := k) fun _ _ _ => rfl
noncomputable def F41 (k : Nat) (v : mi41.den) : Option mo41.den := runF TI (O119 k) (L41 k) c41 mi41 mo41 v
theorem lk41 (k : Nat) : LinksOK Tryd.prog 120 (L41 k) c41 := (And.intro True.intro (And.intro (And.intro True.intro (And.intro (And.intro True.intro True.intro) True.intro)) (And.intro True.intro (And.intro (And.intro True.intro (lk_L41_5 k)) (And.intro True.intro (And.intro (And.intro True.intro (And.intro (And.intro True.intro True.intro) True.intro)) (And.intro (And.intro True.intro (lk_L41_13 k)) (And.intro (And.intro True.intro (And.intro (And.intro True.intro True.intro) True.intro)) (And.intro (And.intro True.intro (And.intro (And.intro True.intro True.intro) True.intro)) (And.intro True.intro True.intro))))))))))
theorem fn41 (k : Nat) (args : List AV) (x : mi41.den) (r : mo41.den) (h1 : args.length = mi41.items.length) (h2 : mi41.dec (Th.start args) = some x) (h3 : F41 k x = some r) : CallOK Tryd.prog 41 args (ansOf (outL mo41.items r)) :=
  call_of hm hT (ok_O119 k) (fn := Tryd.f41) (c := c41) Tryd.func41 rfl rfl rfl (lk41 k) rfl (by decide) rfl h1 h2 h3
noncomputable def O41 (k : Nat) : Orc := fun R f args K => bif Nat.beq f 41 then callF mi41 mo41 (F41 k) args K else O119 k R f args K
theorem ok_O41 (k : Nat) : OrcOK (O41 k) (CallOK Tryd.prog) := orc_add (fn41 k) (ok_O119 k)

/-! 6: paydesk/paydesklaw06.DealRight -/
noncomputable def c6 : Code := Tryd.f6.body.getD .skip
noncomputable def mi6 : Msk := ⟨[(.tmp 0, .val (.st (.cons (.int .i64) (.cons .str (.cons (.int .u64) (.cons (.int .u32) (.cons .str (.cons .str .nil)))))))), (.tmp 1, .val (.st (.cons .str (.cons (.slice (.st (.cons (.int .i64) (.cons .str .nil)))) .nil)))), (.tmp 2, .val (.int .i64))], []⟩
noncomputable def mo6 : Msk := ⟨[(.tmp 6, .val .bool)], []⟩
noncomputable def L6 (k : Nat) : LOrc := fun _ _ _ _ => none
noncomputable def F6 (k : Nat) (v : mi6.den) : Option mo6.den := runF TI (O41 k) (L6 k) c6 mi6 mo6 v
theorem lk6 (k : Nat) : LinksOK Tryd.prog 88 (L6 k) c6 := (And.intro True.intro (And.intro (And.intro True.intro (And.intro (And.intro True.intro True.intro) True.intro)) (And.intro (And.intro True.intro (And.intro (And.intro True.intro True.intro) True.intro)) (And.intro True.intro (And.intro True.intro (And.intro (And.intro True.intro (And.intro (And.intro True.intro True.intro) True.intro)) (And.intro True.intro (And.intro True.intro (And.intro True.intro True.intro)))))))))
theorem fn6 (k : Nat) (args : List AV) (x : mi6.den) (r : mo6.den) (h1 : args.length = mi6.items.length) (h2 : mi6.dec (Th.start args) = some x) (h3 : F6 k x = some r) : CallOK Tryd.prog 6 args (ansOf (outL mo6.items r)) :=
  call_of hm hT (ok_O41 k) (fn := Tryd.f6) (c := c6) Tryd.func6 rfl rfl rfl (lk6 k) rfl (by decide) rfl h1 h2 h3
noncomputable def O6 (k : Nat) : Orc := fun R f args K => bif Nat.beq f 6 then callF mi6 mo6 (F6 k) args K else O41 k R f args K
theorem ok_O6 (k : Nat) : OrcOK (O6 k) (CallOK Tryd.prog) := orc_add (fn6 k) (ok_O41 k)

/-! 7: paydesk/paydesklaw06.DealBack -/
noncomputable def c7 : Code := Tryd.f7.body.getD .skip
noncomputable def mi7 : Msk := ⟨[(.tmp 0, .val (.st (.cons (.int .i64) (.cons .str (.cons (.int .u64) (.cons (.int .u32) (.cons .str (.cons .str .nil)))))))), (.tmp 1, .val (.st (.cons (.int .i64) (.cons .str (.cons (.int .u64) (.cons (.int .u32) (.cons .str (.cons .str .nil)))))))), (.tmp 2, .val (.st (.cons .str (.cons (.slice (.st (.cons (.int .i64) (.cons .str .nil)))) .nil))))], []⟩
noncomputable def mo7 : Msk := ⟨[(.tmp 6, .val .bool)], []⟩
noncomputable def L7 (k : Nat) : LOrc := fun _ _ _ _ => none
noncomputable def F7 (k : Nat) (v : mi7.den) : Option mo7.den := runF TI (O6 k) (L7 k) c7 mi7 mo7 v
theorem lk7 (k : Nat) : LinksOK Tryd.prog 100 (L7 k) c7 := (And.intro True.intro (And.intro (And.intro True.intro (And.intro (And.intro True.intro True.intro) True.intro)) (And.intro (And.intro True.intro (And.intro (And.intro True.intro True.intro) True.intro)) (And.intro True.intro (And.intro True.intro (And.intro (And.intro True.intro (And.intro (And.intro True.intro (And.intro True.intro (And.intro (And.intro True.intro True.intro) True.intro))) True.intro)) (And.intro True.intro (And.intro (And.intro True.intro (And.intro (And.intro True.intro True.intro) True.intro)) (And.intro True.intro (And.intro True.intro True.intro))))))))))
theorem fn7 (k : Nat) (args : List AV) (x : mi7.den) (r : mo7.den) (h1 : args.length = mi7.items.length) (h2 : mi7.dec (Th.start args) = some x) (h3 : F7 k x = some r) : CallOK Tryd.prog 7 args (ansOf (outL mo7.items r)) :=
  call_of hm hT (ok_O6 k) (fn := Tryd.f7) (c := c7) Tryd.func7 rfl rfl rfl (lk7 k) rfl (by decide) rfl h1 h2 h3
noncomputable def O7 (k : Nat) : Orc := fun R f args K => bif Nat.beq f 7 then callF mi7 mo7 (F7 k) args K else O6 k R f args K
theorem ok_O7 (k : Nat) : OrcOK (O7 k) (CallOK Tryd.prog) := orc_add (fn7 k) (ok_O6 k)

/-! 128: paydesk/core.kindOf -/
noncomputable def c128 : Code := Tryd.f128.body.getD .skip
noncomputable def mi128 : Msk := ⟨[(.tmp 0, .val (.int .i64))], []⟩
noncomputable def mo128 : Msk := ⟨[(.tmp 2, .val (.int .i64))], []⟩
noncomputable def L128 (k : Nat) : LOrc := fun _ _ _ _ => none
noncomputable def F128 (k : Nat) (v : mi128.den) : Option mo128.den := runF TI (O7 k) (L128 k) c128 mi128 mo128 v
theorem lk128 (k : Nat) : LinksOK Tryd.prog 12 (L128 k) c128 := (And.intro True.intro (And.intro (And.intro True.intro (And.intro True.intro (And.intro (And.intro True.intro True.intro) (And.intro True.intro (And.intro (And.intro True.intro True.intro) (And.intro True.intro (And.intro (And.intro True.intro True.intro) (And.intro True.intro (And.intro (And.intro True.intro True.intro) True.intro))))))))) (And.intro True.intro True.intro)))
theorem fn128 (k : Nat) (args : List AV) (x : mi128.den) (r : mo128.den) (h1 : args.length = mi128.items.length) (h2 : mi128.dec (Th.start args) = some x) (h3 : F128 k x = some r) : CallOK Tryd.prog 128 args (ansOf (outL mo128.items r)) :=
  call_of hm hT (ok_O7 k) (fn := Tryd.f128) (c := c128) Tryd.func128 rfl rfl rfl (lk128 k) rfl (by decide) rfl h1 h2 h3
noncomputable def O128 (k : Nat) : Orc := fun R f args K => bif Nat.beq f 128 then callF mi128 mo128 (F128 k) args K else O7 k R f args K
theorem ok_O128 (k : Nat) : OrcOK (O128 k) (CallOK Tryd.prog) := orc_add (fn128 k) (ok_O7 k)

/-! 49: paydesk/core.Right -/
noncomputable def c49 : Code := Tryd.f49.body.getD .skip
noncomputable def mi49 : Msk := ⟨[(.tmp 0, .val (.st (.cons (.int .i64) (.cons (.st (.cons (.int .i64) (.cons .str (.cons (.int .u64) (.cons (.int .u32) (.cons .str (.cons .str .nil))))))) .nil))))], []⟩
noncomputable def mo49 : Msk := ⟨[(.tmp 2, .val .bool)], []⟩
noncomputable def L49 (k : Nat) : LOrc := fun _ _ _ _ => none
noncomputable def F49 (k : Nat) (v : mi49.den) : Option mo49.den := runF TI (O128 k) (L49 k) c49 mi49 mo49 v
theorem lk49 (k : Nat) : LinksOK Tryd.prog 40 (L49 k) c49 := (And.intro True.intro (And.intro (And.intro True.intro (And.intro (And.intro True.intro True.intro) True.intro)) (And.intro True.intro True.intro)))
theorem fn49 (k : Nat) (args : List AV) (x : mi49.den) (r : mo49.den) (h1 : args.length = mi49.items.length) (h2 : mi49.dec (Th.start args) = some x) (h3 : F49 k x = some r) : CallOK Tryd.prog 49 args (ansOf (outL mo49.items r)) :=
  call_of hm hT (ok_O128 k) (fn := Tryd.f49) (c := c49) Tryd.func49 rfl rfl rfl (lk49 k) rfl (by decide) rfl h1 h2 h3
noncomputable def O49 (k : Nat) : Orc := fun R f args K => bif Nat.beq f 49 then callF mi49 mo49 (F49 k) args K else O128 k R f args K
theorem ok_O49 (k : Nat) : OrcOK (O49 k) (CallOK Tryd.prog) := orc_add (fn49 k) (ok_O128 k)

/-! 130: paydesk/shard.staged -/
noncomputable def c130 : Code := Tryd.f130.body.getD .skip
noncomputable def mi130 : Msk := ⟨[(.tmp 0, .val (.st (.cons (.st (.cons (.int .u32) (.cons .str .nil))) (.cons (.int .i64) (.cons .str (.cons (.int .u64) (.cons .str (.cons (.int .i64) (.cons (.int .i64) .nil)))))))))], []⟩
noncomputable def mo130 : Msk := ⟨[(.tmp 2, .val .bool)], []⟩
noncomputable def L130 (k : Nat) : LOrc := fun _ _ _ _ => none
noncomputable def F130 (k : Nat) (v : mi130.den) : Option mo130.den := runF TI (O49 k) (L130 k) c130 mi130 mo130 v
theorem lk130 (k : Nat) : LinksOK Tryd.prog 65 (L130 k) c130 := (And.intro True.intro (And.intro (And.intro True.intro (And.intro (And.intro True.intro True.intro) True.intro)) (And.intro (And.intro True.intro (And.intro True.intro (And.intro (And.intro True.intro True.intro) (And.intro True.intro (And.intro (And.intro True.intro True.intro) (And.intro True.intro (And.intro (And.intro True.intro True.intro) (And.intro (And.intro True.intro (And.intro True.intro (And.intro True.intro (And.intro True.intro True.intro)))) (And.intro (And.intro True.intro True.intro) True.intro))))))))) (And.intro True.intro True.intro))))
theorem fn130 (k : Nat) (args : List AV) (x : mi130.den) (r : mo130.den) (h1 : args.length = mi130.items.length) (h2 : mi130.dec (Th.start args) = some x) (h3 : F130 k x = some r) : CallOK Tryd.prog 130 args (ansOf (outL mo130.items r)) :=
  call_of hm hT (ok_O49 k) (fn := Tryd.f130) (c := c130) Tryd.func130 rfl rfl rfl (lk130 k) rfl (by decide) rfl h1 h2 h3
noncomputable def O130 (k : Nat) : Orc := fun R f args K => bif Nat.beq f 130 then callF mi130 mo130 (F130 k) args K else O49 k R f args K
theorem ok_O130 (k : Nat) : OrcOK (O130 k) (CallOK Tryd.prog) := orc_add (fn130 k) (ok_O49 k)

/-! 53: paydesk/shard.RightEntry -/
noncomputable def c53 : Code := Tryd.f53.body.getD .skip
noncomputable def mi53 : Msk := ⟨[(.tmp 0, .val (.st (.cons (.st (.cons (.int .u32) (.cons .str .nil))) (.cons (.int .i64) (.cons .str (.cons (.int .u64) (.cons .str (.cons (.int .i64) (.cons (.int .i64) .nil)))))))))], []⟩
noncomputable def mo53 : Msk := ⟨[(.tmp 2, .val .bool)], []⟩
noncomputable def L53 (k : Nat) : LOrc := fun _ _ _ _ => none
noncomputable def F53 (k : Nat) (v : mi53.den) : Option mo53.den := runF TI (O130 k) (L53 k) c53 mi53 mo53 v
theorem lk53 (k : Nat) : LinksOK Tryd.prog 25 (L53 k) c53 := (And.intro True.intro (And.intro True.intro True.intro))
theorem fn53 (k : Nat) (args : List AV) (x : mi53.den) (r : mo53.den) (h1 : args.length = mi53.items.length) (h2 : mi53.dec (Th.start args) = some x) (h3 : F53 k x = some r) : CallOK Tryd.prog 53 args (ansOf (outL mo53.items r)) :=
  call_of hm hT (ok_O130 k) (fn := Tryd.f53) (c := c53) Tryd.func53 rfl rfl rfl (lk53 k) rfl (by decide) rfl h1 h2 h3
noncomputable def O53 (k : Nat) : Orc := fun R f args K => bif Nat.beq f 53 then callF mi53 mo53 (F53 k) args K else O130 k R f args K
theorem ok_O53 (k : Nat) : OrcOK (O53 k) (CallOK Tryd.prog) := orc_add (fn53 k) (ok_O130 k)

/-! 122: paydesk/core.may -/
noncomputable def c122 : Code := Tryd.f122.body.getD .skip
noncomputable def mi122 : Msk := ⟨[(.tmp 0, .val (.st (.cons (.st (.cons (.int .u32) (.cons .str .nil))) (.cons (.int .i64) (.cons .str (.cons (.int .u64) (.cons .str (.cons (.int .i64) (.cons (.int .i64) .nil))))))))), (.tmp 1, .val (.st (.cons (.int .i64) (.cons (.st (.cons (.int .i64) (.cons .str (.cons (.int .u64) (.cons (.int .u32) (.cons .str (.cons .str .nil))))))) .nil)))), (.tmp 2, .val (.int .i64))], []⟩
noncomputable def mo122 : Msk := ⟨[(.tmp 6, .val .bool)], []⟩
noncomputable def L122 (k : Nat) : LOrc := fun _ _ _ _ => none
noncomputable def F122 (k : Nat) (v : mi122.den) : Option mo122.den := runF TI (O53 k) (L122 k) c122 mi122 mo122 v
theorem lk122 (k : Nat) : LinksOK Tryd.prog 33 (L122 k) c122 := (And.intro True.intro (And.intro (And.intro True.intro (And.intro (And.intro True.intro True.intro) True.intro)) (And.intro True.intro True.intro)))
theorem fn122 (k : Nat) (args : List AV) (x : mi122.den) (r : mo122.den) (h1 : args.length = mi122.items.length) (h2 : mi122.dec (Th.start args) = some x) (h3 : F122 k x = some r) : CallOK Tryd.prog 122 args (ansOf (outL mo122.items r)) :=
  call_of hm hT (ok_O53 k) (fn := Tryd.f122) (c := c122) Tryd.func122 rfl rfl rfl (lk122 k) rfl (by decide) rfl h1 h2 h3
noncomputable def O122 (k : Nat) : Orc := fun R f args K => bif Nat.beq f 122 then callF mi122 mo122 (F122 k) args K else O53 k R f args K
theorem ok_O122 (k : Nat) : OrcOK (O122 k) (CallOK Tryd.prog) := orc_add (fn122 k) (ok_O53 k)

/-! 123: paydesk/core.way -/
noncomputable def c123 : Code := Tryd.f123.body.getD .skip
noncomputable def mi123 : Msk := ⟨[(.tmp 0, .val (.int .i64))], []⟩
noncomputable def mo123 : List Msk := [⟨[(.tmp 2, .val (.clo 179 .nil))], []⟩, ⟨[(.tmp 2, .val (.clo 180 .nil))], []⟩, ⟨[(.tmp 2, .val (.clo 181 .nil))], []⟩, ⟨[(.tmp 2, .val (.clo 182 .nil))], []⟩, ⟨[(.tmp 2, .val (.clo 183 .nil))], []⟩]
noncomputable def L123 (k : Nat) : LOrc := fun _ _ _ _ => none
noncomputable def F123 (k : Nat) (v : mi123.den) : Option (denA mo123) := runA TI (O122 k) (L123 k) c123 mi123 mo123 v
theorem lk123 (k : Nat) : LinksOK Tryd.prog 12 (L123 k) c123 := (And.intro True.intro (And.intro (And.intro True.intro (And.intro True.intro (And.intro (And.intro True.intro True.intro) (And.intro True.intro (And.intro (And.intro True.intro True.intro) (And.intro True.intro (And.intro (And.intro True.intro True.intro) (And.intro True.intro (And.intro (And.intro True.intro True.intro) True.intro))))))))) (And.intro True.intro True.intro)))
theorem fn123 (k : Nat) (args : List AV) (x : mi123.den) (r : (denA mo123)) (h1 : args.length = mi123.items.length) (h2 : mi123.dec (Th.start args) = some x) (h3 : F123 k x = some r) : CallOK Tryd.prog 123 args (valA mo123 r) :=
  call_ofA hm hT (ok_O122 k) (fn := Tryd.f123) (c := c123) Tryd.func123 rfl rfl rfl (lk123 k) rfl (by decide) rfl h1 h2 h3
noncomputable def O123 (k : Nat) : Orc := fun R f args K => bif Nat.beq f 123 then callA mi123 mo123 (F123 k) args K else O122 k R f args K
theorem ok_O123 (k : Nat) : OrcOK (O123 k) (CallOK Tryd.prog) := orc_addA (fn123 k) (ok_O122 k)

/-! 204: (*paydesk/core.hand).toI -/
noncomputable def c204 : Code := Tryd.f204.body.getD .skip
noncomputable def mi204 : Msk := ⟨[(.tmp 0, .ptr 900 0), (.tmp 1, .val (.int .i64)), (.cell 900 0, .val (.int .u32)), (.cell 900 1, .val .str), (.cell 900 2, .val (.int .i64)), (.cell 900 3, .val .str), (.cell 900 4, .val (.int .u64)), (.cell 900 5, .val .str), (.cell 900 6, .val (.int .i64)), (.cell 900 7, .val (.int .i64)), (.cell 900 8, .row false (.st (.cons (.int .i64) (.cons .str (.cons (.int .u64) (.cons (.int .u32) (.cons .str (.cons .str .nil)))))))), (.cell 900 9, .row false (.st (.cons (.int .i64) (.cons .str (.cons (.int .u64) (.cons (.int .u32) (.cons .str (.cons .str .nil)))))))), (.cell 900 10, .val (.int .i64)), (.cell 900 11, .val .bool), (.cell 900 12, .val (.int .i64)), (.cell 900 13, .val (.int .i64)), (.cell 900 14, .val .str), (.cell 900 15, .val (.int .u64)), (.cell 900 16, .val (.int .u32)), (.cell 900 17, .val .str), (.cell 900 18, .val .str), (.cell 900 19, .val (.int .i64))], [(900, 20)]⟩
noncomputable def mo204 : List Msk := [⟨[(.cell 900 0, .val (.int .u32)), (.cell 900 1, .val .str), (.cell 900 2, .val (.int .i64)), (.cell 900 3, .val .str), (.cell 900 4, .val (.int .u64)), (.cell 900 5, .val .str), (.cell 900 6, .val (.int .i64)), (.cell 900 7, .val (.int .i64)), (.cell 900 8, .row false (.st (.cons (.int .i64) (.cons .str (.cons (.int .u64) (.cons (.int .u32) (.cons .str (.cons .str .nil)))))))), (.cell 900 9, .row false (.st (.cons (.int .i64) (.cons .str (.cons (.int .u64) (.cons (.int .u32) (.cons .str (.cons .str .nil)))))))), (.cell 900 10, .val (.int .i64)), (.cell 900 11, .val .bool), (.cell 900 12, .val (.int .i64)), (.cell 900 13, .val (.int .i64)), (.cell 900 14, .val .str), (.cell 900 15, .val (.int .u64)), (.cell 900 16, .val (.int .u32)), (.cell 900 17, .val .str), (.cell 900 18, .val .str), (.cell 900 19, .val (.int .i64))], [(900, 20)]⟩]
noncomputable def L204 (k : Nat) : LOrc := fun _ _ _ _ => none
noncomputable def F204 (k : Nat) (v : mi204.den) : Option (denA mo204) := runA TI (O123 k) (L204 k) c204 mi204 mo204 v
theorem lk204 (k : Nat) : LinksOK Tryd.prog 37 (L204 k) c204 := (And.intro True.intro (And.intro True.intro True.intro))
theorem fn204 (k : Nat) (vs cs : List AV) (x : mi204.den) (r : denA mo204) (h1 : vs.length = 2) (h2 : mi204.dec (startL vs cs) = some x) (h3 : F204 k x = some r) : CallOK Tryd.prog 204 (vs ++ [.lent cs]) (valB 0 mo204 r) :=
  call_ofL hm hT (ok_O123 k) (fn := Tryd.f204) (c := c204) Tryd.func204 rfl rfl rfl (lk204 k) rfl (by decide) (by decide) rfl h1 h2 h3
noncomputable def O204 (k : Nat) : Orc := fun R f args K => bif Nat.beq f 204 then callB mi204 2 0 mo204 (F204 k) args K else O123 k R f args K
theorem ok_O204 (k : Nat) : OrcOK (O204 k) (CallOK Tryd.prog) := orc_addL (fn204 k) (ok_O123 k)

/-! 205: (*paydesk/core.hand).odd -/
noncomputable def c205 : Code := Tryd.f205.body.getD .skip
noncomputable def mi205 : Msk := ⟨[(.tmp 0, .ptr 900 0), (.cell 900 0, .val (.int .u32)), (.cell 900 1, .val .str), (.cell 900 2, .val (.int .i64)), (.cell 900 3, .val .str), (.cell 900 4, .val (.int .u64)), (.cell 900 5, .val .str), (.cell 900 6, .val (.int .i64)), (.cell 900 7, .val (.int .i64)), (.cell 900 8, .row false (.st (.cons (.int .i64) (.cons .str (.cons (.int .u64) (.cons (.int .u32) (.cons .str (.cons .str .nil)))))))), (.cell 900 9, .row false (.st (.cons (.int .i64) (.cons .str (.cons (.int .u64) (.cons (.int .u32) (.cons .str (.cons .str .nil)))))))), (.cell 900 10, .val (.int .i64)), (.cell 900 11, .val .bool), (.cell 900 12, .val (.int .i64)), (.cell 900 13, .val (.int .i64)), (.cell 900 14, .val .str), (.cell 900 15, .val (.int .u64)), (.cell 900 16, .val (.int .u32)), (.cell 900 17, .val .str), (.cell 900 18, .val .str), (.cell 900 19, .val (.int .i64))], [(900, 20)]⟩
noncomputable def mo205 : List Msk := [⟨[(.tmp 2, .val .bool), (.cell 900 0, .val (.int .u32)), (.cell 900 1, .val .str), (.cell 900 2, .val (.int .i64)), (.cell 900 3, .val .str), (.cell 900 4, .val (.int .u64)), (.cell 900 5, .val .str), (.cell 900 6, .val (.int .i64)), (.cell 900 7, .val (.int .i64)), (.cell 900 8, .row false (.st (.cons (.int .i64) (.cons .str (.cons (.int .u64) (.cons (.int .u32) (.cons .str (.cons .str .nil)))))))), (.cell 900 9, .row false (.st (.cons (.int .i64) (.cons .str (.cons (.int .u64) (.cons (.int .u32) (.cons .str (.cons .str .nil)))))))), (.cell 900 10, .val (.int .i64)), (.cell 900 11, .val .bool), (.cell 900 12, .val (.int .i64)), (.cell 900 13, .val (.int .i64)), (.cell 900 14, .val .str), (.cell 900 15, .val (.int .u64)), (.cell 900 16, .val (.int .u32)), (.cell 900 17, .val .str), (.cell 900 18, .val .str), (.cell 900 19, .val (.int .i64))], [(900, 20)]⟩]
noncomputable def L205 (k : Nat) : LOrc := fun _ _ _ _ => none
noncomputable def F205 (k : Nat) (v : mi205.den) : Option (denA mo205) := runA TI (O204 k) (L205 k) c205 mi205 mo205 v
theorem lk205 (k : Nat) : LinksOK Tryd.prog 31 (L205 k) c205 := (And.intro True.intro (And.intro True.intro True.intro))
theorem fn205 (k : Nat) (vs cs : List AV) (x : mi205.den) (r : denA mo205) (h1 : vs.length = 1) (h2 : mi205.dec (startL vs cs) = some x) (h3 : F205 k x = some r) : CallOK Tryd.prog 205 (vs ++ [.lent cs]) (valB 1 mo205 r) :=
  call_ofL hm hT (ok_O204 k) (fn := Tryd.f205) (c := c205) Tryd.func205 rfl rfl rfl (lk205 k) rfl (by decide) (by decide) rfl h1 h2 h3
noncomputable def O205 (k : Nat) : Orc := fun R f args K => bif Nat.beq f 205 then callB mi205 1 1 mo205 (F205 k) args K else O204 k R f args K
theorem ok_O205 (k : Nat) : OrcOK (O205 k) (CallOK Tryd.prog) := orc_addL (fn205 k) (ok_O204 k)

/-! 206: (*paydesk/core.hand).toA -/
noncomputable def c206 : Code := Tryd.f206.body.getD .skip
noncomputable def mi206 : Msk := ⟨[(.tmp 0, .ptr 900 0), (.tmp 1, .val (.int .i64)), (.tmp 2, .val .str), (.cell 900 0, .val (.int .u32)), (.cell 900 1, .val .str), (.cell 900 2, .val (.int .i64)), (.cell 900 3, .val .str), (.cell 900 4, .val (.int .u64)), (.cell 900 5, .val .str), (.cell 900 6, .val (.int .i64)), (.cell 900 7, .val (.int .i64)), (.cell 900 8, .row false (.st (.cons (.int .i64) (.cons .str (.cons (.int .u64) (.cons (.int .u32) (.cons .str (.cons .str .nil)))))))), (.cell 900 9, .row false (.st (.cons (.int .i64) (.cons .str (.cons (.int .u64) (.cons (.int .u32) (.cons .str (.cons .str .nil)))))))), (.cell 900 10, .val (.int .i64)), (.cell 900 11, .val .bool), (.cell 900 12, .val (.int .i64)), (.cell 900 13, .val (.int .i64)), (.cell 900 14, .val .str), (.cell 900 15, .val (.int .u64)), (.cell 900 16, .val (.int .u32)), (.cell 900 17, .val .str), (.cell 900 18, .val .str), (.cell 900 19, .val (.int .i64))], [(900, 20)]⟩
noncomputable def mo206 : List Msk := [⟨[(.cell 900 0, .val (.int .u32)), (.cell 900 1, .val .str), (.cell 900 2, .val (.int .i64)), (.cell 900 3, .val .str), (.cell 900 4, .val (.int .u64)), (.cell 900 5, .val .str), (.cell 900 6, .val (.int .i64)), (.cell 900 7, .val (.int .i64)), (.cell 900 8, .row false (.st (.cons (.int .i64) (.cons .str (.cons (.int .u64) (.cons (.int .u32) (.cons .str (.cons .str .nil)))))))), (.cell 900 9, .row false (.st (.cons (.int .i64) (.cons .str (.cons (.int .u64) (.cons (.int .u32) (.cons .str (.cons .str .nil)))))))), (.cell 900 10, .val (.int .i64)), (.cell 900 11, .val .bool), (.cell 900 12, .val (.int .i64)), (.cell 900 13, .val (.int .i64)), (.cell 900 14, .val .str), (.cell 900 15, .val (.int .u64)), (.cell 900 16, .val (.int .u32)), (.cell 900 17, .val .str), (.cell 900 18, .val .str), (.cell 900 19, .val (.int .i64))], [(900, 20)]⟩]
noncomputable def L206 (k : Nat) : LOrc := fun _ _ _ _ => none
noncomputable def F206 (k : Nat) (v : mi206.den) : Option (denA mo206) := runA TI (O205 k) (L206 k) c206 mi206 mo206 v
theorem lk206 (k : Nat) : LinksOK Tryd.prog 32 (L206 k) c206 := True.intro
theorem fn206 (k : Nat) (vs cs : List AV) (x : mi206.den) (r : denA mo206) (h1 : vs.length = 3) (h2 : mi206.dec (startL vs cs) = some x) (h3 : F206 k x = some r) : CallOK Tryd.prog 206 (vs ++ [.lent cs]) (valB 0 mo206 r) :=
  call_ofL hm hT (ok_O205 k) (fn := Tryd.f206) (c := c206) Tryd.func206 rfl rfl rfl (lk206 k) rfl (by decide) (by decide) rfl h1 h2 h3
noncomputable def O206 (k : Nat) : Orc := fun R f args K => bif Nat.beq f 206 then callB mi206 3 0 mo206 (F206 k) args K else O205 k R f args K
theorem ok_O206 (k : Nat) : OrcOK (O206 k) (CallOK Tryd.prog) := orc_addL (fn206 k) (ok_O205 k)

/-! 179: (*paydesk/core.hand).ask -/
noncomputable def c179 : Code := Tryd.f179.body.getD .skip
noncomputable def mi179 : Msk := ⟨[(.tmp 0, .ptr 900 0), (.cell 900 0, .val (.int .u32)), (.cell 900 1, .val .str), (.cell 900 2, .val (.int .i64)), (.cell 900 3, .val .str), (.cell 900 4, .val (.int .u64)), (.cell 900 5, .val .str), (.cell 900 6, .val (.int .i64)), (.cell 900 7, .val (.int .i64)), (.cell 900 8, .row false (.st (.cons (.int .i64) (.cons .str (.cons (.int .u64) (.cons (.int .u32) (.cons .str (.cons .str .nil)))))))), (.cell 900 9, .row false (.st (.cons (.int .i64) (.cons .str (.cons (.int .u64) (.cons (.int .u32) (.cons .str (.cons .str .nil)))))))), (.cell 900 10, .val (.int .i64)), (.cell 900 11, .val .bool), (.cell 900 12, .val (.int .i64)), (.cell 900 13, .val (.int .i64)), (.cell 900 14, .val .str), (.cell 900 15, .val (.int .u64)), (.cell 900 16, .val (.int .u32)), (.cell 900 17, .val .str), (.cell 900 18, .val .str), (.cell 900 19, .val (.int .i64))], [(900, 20)]⟩
noncomputable def mo179 : List Msk := [⟨[(.cell 900 0, .val (.int .u32)), (.cell 900 1, .val .str), (.cell 900 2, .val (.int .i64)), (.cell 900 3, .val .str), (.cell 900 4, .val (.int .u64)), (.cell 900 5, .val .str), (.cell 900 6, .val (.int .i64)), (.cell 900 7, .val (.int .i64)), (.cell 900 8, .row false (.st (.cons (.int .i64) (.cons .str (.cons (.int .u64) (.cons (.int .u32) (.cons .str (.cons .str .nil)))))))), (.cell 900 9, .row false (.st (.cons (.int .i64) (.cons .str (.cons (.int .u64) (.cons (.int .u32) (.cons .str (.cons .str .nil)))))))), (.cell 900 10, .val (.int .i64)), (.cell 900 11, .val .bool), (.cell 900 12, .val (.int .i64)), (.cell 900 13, .val (.int .i64)), (.cell 900 14, .val .str), (.cell 900 15, .val (.int .u64)), (.cell 900 16, .val (.int .u32)), (.cell 900 17, .val .str), (.cell 900 18, .val .str), (.cell 900 19, .val (.int .i64))], [(900, 20)]⟩]
noncomputable def L179 (k : Nat) : LOrc := fun _ _ _ _ => none
noncomputable def F179 (k : Nat) (v : mi179.den) : Option (denA mo179) := runA TI (O206 k) (L179 k) c179 mi179 mo179 v
theorem lk179 (k : Nat) : LinksOK Tryd.prog 53 (L179 k) c179 := (And.intro True.intro (And.intro True.intro (And.intro (And.intro True.intro True.intro) (And.intro True.intro (And.intro True.intro (And.intro True.intro (And.intro True.intro True.intro)))))))
theorem fn179 (k : Nat) (vs cs : List AV) (x : mi179.den) (r : denA mo179) (h1 : vs.length = 1) (h2 : mi179.dec (startL vs cs) = some x) (h3 : F179 k x = some r) : CallOK Tryd.prog 179 (vs ++ [.lent cs]) (valB 0 mo179 r) :=
  call_ofL hm hT (ok_O206 k) (fn := Tryd.f179) (c := c179) Tryd.func179 rfl rfl rfl (lk179 k) rfl (by decide) (by decide) rfl h1 h2 h3
noncomputable def O179 (k : Nat) : Orc := fun R f args K => bif Nat.beq f 179 then callB mi179 1 0 mo179 (F179 k) args K else O206 k R f args K
theorem ok_O179 (k : Nat) : OrcOK (O179 k) (CallOK Tryd.prog) := orc_addL (fn179 k) (ok_O206 k)

/-! 180: (*paydesk/core.hand).answer -/
noncomputable def c180 : Code := Tryd.f180.body.getD .skip
noncomputable def mi180 : Msk := ⟨[(.tmp 0, .ptr 900 0), (.cell 900 0, .val (.int .u32)), (.cell 900 1, .val .str), (.cell 900 2, .val (.int .i64)), (.cell 900 3, .val .str), (.cell 900 4, .val (.int .u64)), (.cell 900 5, .val .str), (.cell 900 6, .val (.int .i64)), (.cell 900 7, .val (.int .i64)), (.cell 900 8, .row false (.st (.cons (.int .i64) (.cons .str (.cons (.int .u64) (.cons (.int .u32) (.cons .str (.cons .str .nil)))))))), (.cell 900 9, .row false (.st (.cons (.int .i64) (.cons .str (.cons (.int .u64) (.cons (.int .u32) (.cons .str (.cons .str .nil)))))))), (.cell 900 10, .val (.int .i64)), (.cell 900 11, .val .bool), (.cell 900 12, .val (.int .i64)), (.cell 900 13, .val (.int .i64)), (.cell 900 14, .val .str), (.cell 900 15, .val (.int .u64)), (.cell 900 16, .val (.int .u32)), (.cell 900 17, .val .str), (.cell 900 18, .val .str), (.cell 900 19, .val (.int .i64))], [(900, 20)]⟩
noncomputable def mo180 : List Msk := [⟨[(.cell 900 0, .val (.int .u32)), (.cell 900 1, .val .str), (.cell 900 2, .val (.int .i64)), (.cell 900 3, .val .str), (.cell 900 4, .val (.int .u64)), (.cell 900 5, .val .str), (.cell 900 6, .val (.int .i64)), (.cell 900 7, .val (.int .i64)), (.cell 900 8, .row false (.st (.cons (.int .i64) (.cons .str (.cons (.int .u64) (.cons (.int .u32) (.cons .str (.cons .str .nil)))))))), (.cell 900 9, .row false (.st (.cons (.int .i64) (.cons .str (.cons (.int .u64) (.cons (.int .u32) (.cons .str (.cons .str .nil)))))))), (.cell 900 10, .val (.int .i64)), (.cell 900 11, .val .bool), (.cell 900 12, .val (.int .i64)), (.cell 900 13, .val (.int .i64)), (.cell 900 14, .val .str), (.cell 900 15, .val (.int .u64)), (.cell 900 16, .val (.int .u32)), (.cell 900 17, .val .str), (.cell 900 18, .val .str), (.cell 900 19, .val (.int .i64))], [(900, 20)]⟩]
noncomputable def L180 (k : Nat) : LOrc := fun _ _ _ _ => none
noncomputable def F180 (k : Nat) (v : mi180.den) : Option (denA mo180) := runA TI (O179 k) (L180 k) c180 mi180 mo180 v
theorem lk180 (k : Nat) : LinksOK Tryd.prog 42 (L180 k) c180 := (And.intro True.intro (And.intro (And.intro True.intro (And.intro True.intro True.intro)) (And.intro True.intro (And.intro (And.intro True.intro (And.intro True.intro True.intro)) (And.intro True.intro True.intro)))))
theorem fn180 (k : Nat) (vs cs : List AV) (x : mi180.den) (r : denA mo180) (h1 : vs.length = 1) (h2 : mi180.dec (startL vs cs) = some x) (h3 : F180 k x = some r) : CallOK Tryd.prog 180 (vs ++ [.lent cs]) (valB 0 mo180 r) :=
  call_ofL hm hT (ok_O179 k) (fn := Tryd.f180) (c := c180) Tryd.func180 rfl rfl rfl (lk180 k) rfl (by decide) (by decide) rfl h1 h2 h3
noncomputable def O180 (k : Nat) : Orc := fun R f args K => bif Nat.beq f 180 then callB mi180 1 0 mo180 (F180 k) args K else O179 k R f args K
theorem ok_O180 (k : Nat) : OrcOK (O180 k) (CallOK Tryd.prog) := orc_addL (fn180 k) (ok_O179 k)

/-! 207: (*paydesk/core.hand).reverse -/
noncomputable def c207 : Code := Tryd.f207.body.getD .skip
noncomputable def mi207 : Msk := ⟨[(.tmp 0, .ptr 900 0), (.tmp 1, .val (.int .i64)), (.cell 900 0, .val (.int .u32)), (.cell 900 1, .val .str), (.cell 900 2, .val (.int .i64)), (.cell 900 3, .val .str), (.cell 900 4, .val (.int .u64)), (.cell 900 5, .val .str), (.cell 900 6, .val (.int .i64)), (.cell 900 7, .val (.int .i64)), (.cell 900 8, .row false (.st (.cons (.int .i64) (.cons .str (.cons (.int .u64) (.cons (.int .u32) (.cons .str (.cons .str .nil)))))))), (.cell 900 9, .row false (.st (.cons (.int .i64) (.cons .str (.cons (.int .u64) (.cons (.int .u32) (.cons .str (.cons .str .nil)))))))), (.cell 900 10, .val (.int .i64)), (.cell 900 11, .val .bool), (.cell 900 12, .val (.int .i64)), (.cell 900 13, .val (.int .i64)), (.cell 900 14, .val .str), (.cell 900 15, .val (.int .u64)), (.cell 900 16, .val (.int .u32)), (.cell 900 17, .val .str), (.cell 900 18, .val .str), (.cell 900 19, .val (.int .i64))], [(900, 20)]⟩
noncomputable def mo207 : List Msk := [⟨[(.cell 900 0, .val (.int .u32)), (.cell 900 1, .val .str), (.cell 900 2, .val (.int .i64)), (.cell 900 3, .val .str), (.cell 900 4, .val (.int .u64)), (.cell 900 5, .val .str), (.cell 900 6, .val (.int .i64)), (.cell 900 7, .val (.int .i64)), (.cell 900 8, .row false (.st (.cons (.int .i64) (.cons .str (.cons (.int .u64) (.cons (.int .u32) (.cons .str (.cons .str .nil)))))))), (.cell 900 9, .row false (.st (.cons (.int .i64) (.cons .str (.cons (.int .u64) (.cons (.int .u32) (.cons .str (.cons .str .nil)))))))), (.cell 900 10, .val (.int .i64)), (.cell 900 11, .val .bool), (.cell 900 12, .val (.int .i64)), (.cell 900 13, .val (.int .i64)), (.cell 900 14, .val .str), (.cell 900 15, .val (.int .u64)), (.cell 900 16, .val (.int .u32)), (.cell 900 17, .val .str), (.cell 900 18, .val .str), (.cell 900 19, .val (.int .i64))], [(900, 20)]⟩]
noncomputable def L207 (k : Nat) : LOrc := fun _ _ _ _ => none
noncomputable def F207 (k : Nat) (v : mi207.den) : Option (denA mo207) := runA TI (O180 k) (L207 k) c207 mi207 mo207 v
theorem lk207 (k : Nat) : LinksOK Tryd.prog 17 (L207 k) c207 := (And.intro True.intro True.intro)
theorem fn207 (k : Nat) (vs cs : List AV) (x : mi207.den) (r : denA mo207) (h1 : vs.length = 2) (h2 : mi207.dec (startL vs cs) = some x) (h3 : F207 k x = some r) : CallOK Tryd.prog 207 (vs ++ [.lent cs]) (valB 0 mo207 r) :=
  call_ofL hm hT (ok_O180 k) (fn := Tryd.f207) (c := c207) Tryd.func207 rfl rfl rfl (lk207 k) rfl (by decide) (by decide) rfl h1 h2 h3
noncomputable def O207 (k : Nat) : Orc := fun R f args K => bif Nat.beq f 207 then callB mi207 2 0 mo207 (F207 k) args K else O180 k R f args K
theorem ok_O207 (k : Nat) : OrcOK (O207 k) (CallOK Tryd.prog) := orc_addL (fn207 k) (ok_O180 k)

/-! 181: (*paydesk/core.hand).undo -/
noncomputable def c181 : Code := Tryd.f181.body.getD .skip
noncomputable def mi181 : Msk := ⟨[(.tmp 0, .ptr 900 0), (.cell 900 0, .val (.int .u32)), (.cell 900 1, .val .str), (.cell 900 2, .val (.int .i64)), (.cell 900 3, .val .str), (.cell 900 4, .val (.int .u64)), (.cell 900 5, .val .str), (.cell 900 6, .val (.int .i64)), (.cell 900 7, .val (.int .i64)), (.cell 900 8, .row false (.st (.cons (.int .i64) (.cons .str (.cons (.int .u64) (.cons (.int .u32) (.cons .str (.cons .str .nil)))))))), (.cell 900 9, .row false (.st (.cons (.int .i64) (.cons .str (.cons (.int .u64) (.cons (.int .u32) (.cons .str (.cons .str .nil)))))))), (.cell 900 10, .val (.int .i64)), (.cell 900 11, .val .bool), (.cell 900 12, .val (.int .i64)), (.cell 900 13, .val (.int .i64)), (.cell 900 14, .val .str), (.cell 900 15, .val (.int .u64)), (.cell 900 16, .val (.int .u32)), (.cell 900 17, .val .str), (.cell 900 18, .val .str), (.cell 900 19, .val (.int .i64))], [(900, 20)]⟩
noncomputable def mo181 : List Msk := [⟨[(.cell 900 0, .val (.int .u32)), (.cell 900 1, .val .str), (.cell 900 2, .val (.int .i64)), (.cell 900 3, .val .str), (.cell 900 4, .val (.int .u64)), (.cell 900 5, .val .str), (.cell 900 6, .val (.int .i64)), (.cell 900 7, .val (.int .i64)), (.cell 900 8, .row false (.st (.cons (.int .i64) (.cons .str (.cons (.int .u64) (.cons (.int .u32) (.cons .str (.cons .str .nil)))))))), (.cell 900 9, .row false (.st (.cons (.int .i64) (.cons .str (.cons (.int .u64) (.cons (.int .u32) (.cons .str (.cons .str .nil)))))))), (.cell 900 10, .val (.int .i64)), (.cell 900 11, .val .bool), (.cell 900 12, .val (.int .i64)), (.cell 900 13, .val (.int .i64)), (.cell 900 14, .val .str), (.cell 900 15, .val (.int .u64)), (.cell 900 16, .val (.int .u32)), (.cell 900 17, .val .str), (.cell 900 18, .val .str), (.cell 900 19, .val (.int .i64))], [(900, 20)]⟩]
noncomputable def L181_g1 (k : Nat) : LOrc := fun _ _ _ _ => none
noncomputable def b181_g1 : Code := (findScope 1 c181).getD .skip
noncomputable def l181_g1 : List (X × Msk) := [(.goto 1, ⟨[(.tmp 0, .ptr 900 0), (.tmp 3, .val .str), (.cell 900 0, .val (.int .u32)), (.cell 900 1, .val .str), (.cell 900 2, .val (.int .i64)), (.cell 900 3, .val .str), (.cell 900 4, .val (.int .u64)), (.cell 900 5, .val .str), (.cell 900 6, .val (.int .i64)), (.cell 900 7, .val (.int .i64)), (.cell 900 8, .row false (.st (.cons (.int .i64) (.cons .str (.cons (.int .u64) (.cons (.int .u32) (.cons .str (.cons .str .nil)))))))), (.cell 900 9, .row false (.st (.cons (.int .i64) (.cons .str (.cons (.int .u64) (.cons (.int .u32) (.cons .str (.cons .str .nil)))))))), (.cell 900 10, .val (.int .i64)), (.cell 900 11, .val .bool), (.cell 900 12, .val (.int .i64)), (.cell 900 13, .val (.int .i64)), (.cell 900 14, .val .str), (.cell 900 15, .val (.int .u64)), (.cell 900 16, .val (.int .u32)), (.cell 900 17, .val .str), (.cell 900 18, .val .str), (.cell 900 19, .val (.int .i64))], [(900, 20)]⟩), (.goto 0, ⟨[(.tmp 0, .ptr 900 0), (.tmp 3, .val .str), (.cell 900 0, .val (.int .u32)), (.cell 900 1, .val .str), (.cell 900 2, .val (.int .i64)), (.cell 900 3, .val .str), (.cell 900 4, .val (.int .u64)), (.cell 900 5, .val .str), (.cell 900 6, .val (.int .i64)), (.cell 900 7, .val (.int .i64)), (.cell 900 8, .row false (.st (.cons (.int .i64) (.cons .str (.cons (.int .u64) (.cons (.int .u32) (.cons .str (.cons .str .nil)))))))), (.cell 900 9, .row false (.st (.cons (.int .i64) (.cons .str (.cons (.int .u64) (.cons (.int .u32) (.cons .str (.cons .str .nil)))))))), (.cell 900 10, .val (.int .i64)), (.cell 900 11, .val .bool), (.cell 900 12, .val (.int .i64)), (.cell 900 13, .val (.int .i64)), (.cell 900 14, .val .str), (.cell 900 15, .val (.int .u64)), (.cell 900 16, .val (.int .u32)), (.cell 900 17, .val .str), (.cell 900 18, .val .str), (.cell 900 19, .val (.int .i64))], [(900, 20)]⟩)]
noncomputable def x181_g1 : List (X × Msk) := [(.norm, ⟨[(.cell 900 0, .val (.int .u32)), (.cell 900 1, .val .str), (.cell 900 2, .val (.int .i64)), (.cell 900 3, .val .str), (.cell 900 4, .val (.int .u64)), (.cell 900 5, .val .str), (.cell 900 6, .val (.int .i64)), (.cell 900 7, .val (.int .i64)), (.cell 900 8, .row false (.st (.cons (.int .i64) (.cons .str (.cons (.int .u64) (.cons (.int .u32) (.cons .str (.cons .str .nil)))))))), (.cell 900 9, .row false (.st (.cons (.int .i64) (.cons .str (.cons (.int .u64) (.cons (.int .u32) (.cons .str (.cons .str .nil)))))))), (.cell 900 10, .val (.int .i64)), (.cell 900 11, .val .bool), (.cell 900 12, .val (.int .i64)), (.cell 900 13, .val (.int .i64)), (.cell 900 14, .val .str), (.cell 900 15, .val (.int .u64)), (.cell 900 16, .val (.int .u32)), (.cell 900 17, .val .str), (.cell 900 18, .val .str), (.cell 900 19, .val (.int .i64))], [(900, 20)]⟩)]
noncomputable def F181_g1 (k : Nat) : Nat → denE l181_g1 → Option (denE x181_g1)
  | 0, _ => none
  | j + 1, v => pass TI (O207 k) (L181_g1 k) b181_g1 l181_g1 x181_g1 (F181_g1 k j) v
theorem lk181_g1_ (k : Nat) : LinksOK Tryd.prog 39 (L181_g1 k) b181_g1 := (And.intro True.intro (And.intro True.intro (And.intro (And.intro True.intro (And.intro (And.intro True.intro True.intro) True.intro)) (And.intro (And.intro True.intro (And.intro (And.intro True.intro True.intro) True.intro)) (And.intro (And.intro True.intro (And.intro True.intro True.intro)) (And.intro (And.intro True.intro (And.intro True.intro True.intro)) (And.intro True.intro (And.intro True.intro (And.intro True.intro (And.intro True.intro (And.intro True.intro True.intro)))))))))))
noncomputable def L181 (k : Nat) : LOrc := fun R lk s K => match lk with
  | .loop r => none
  | .label l => (match findLabel b181_g1 l with | some _ => linkJ l181_g1 x181_g1 (F181_g1 k k) l s K | none => none)
theorem lk_L181_g1 (k : Nat) : JumpsOK Tryd.prog 39 (L181 k) b181_g1 := jumpsOK_of hm hT (ok_O207 k) (fun _ _ _ h => h) rfl (lk181_g1_ k) rfl rfl (F := F181_g1 k) (fun _ => rfl) (fun _ _ => rfl) (n := k) fun R l s K rest hf => by
  show (match findLabel b181_g1 l with | some _ => linkJ l181_g1 x181_g1 (F181_g1 k k) l s K | none => none) = _
  rw [hf]
noncomputable def F181 (k : Nat) (v : mi181.den) : Option (denA mo181) := runA TI (O207 k) (L181 k) c181 mi181 mo181 v
theorem lk181 (k : Nat) : LinksOK Tryd.prog 39 (L181 k) c181 := (And.intro (lk_L181_g1 k) (And.intro True.intro (And.intro True.intro (And.intro (And.intro True.intro (And.intro (And.intro True.intro True.intro) True.intro)) (And.intro (And.intro True.intro (And.intro (And.intro True.intro True.intro) True.intro)) (And.intro (And.intro True.intro (And.intro True.intro True.intro)) (And.intro (And.intro True.intro (And.intro True.intro True.intro)) (And.intro True.intro (And.intro True.intro (And.intro True.intro (And.intro True.intro (And.intro True.intro True.intro))))))))))))
theorem fn181 (k : Nat) (vs cs : List AV) (x : mi181.den) (r : denA mo181) (h1 : vs.length = 1) (h2 : mi181.dec (startL vs cs) = some x) (h3 : F181 k x = some r) : CallOK Tryd.prog 181 (vs ++ [.lent cs]) (valB 0 mo181 r) :=
  call_ofL hm hT (ok_O207 k) (fn := Tryd.f181) (c := c181) Tryd.func181 rfl rfl rfl (lk181 k) rfl (by decide) (by decide) rfl h1 h2 h3
noncomputable def O181 (k : Nat) : Orc := fun R f args K => bif Nat.beq f 181 then callB mi181 1 0 mo181 (F181 k) args K else O207 k R f args K
theorem ok_O181 (k : Nat) : OrcOK (O181 k) (CallOK Tryd.prog) := orc_addL (fn181 k) (ok_O207 k)

/-! 182: (*paydesk/core.hand).time -/
noncomputable def c182 : Code := Tryd.f182.body.getD .skip
noncomputable def mi182 : Msk := ⟨[(.tmp 0, .ptr 900 0), (.cell 900 0, .val (.int .u32)), (.cell 900 1, .val .str), (.cell 900 2, .val (.int .i64)), (.cell 900 3, .val .str), (.cell 900 4, .val (.int .u64)), (.cell 900 5, .val .str), (.cell 900 6, .val (.int .i64)), (.cell 900 7, .val (.int .i64)), (.cell 900 8, .row false (.st (.cons (.int .i64) (.cons .str (.cons (.int .u64) (.cons (.int .u32) (.cons .str (.cons .str .nil)))))))), (.cell 900 9, .row false (.st (.cons (.int .i64) (.cons .str (.cons (.int .u64) (.cons (.int .u32) (.cons .str (.cons .str .nil)))))))), (.cell 900 10, .val (.int .i64)), (.cell 900 11, .val .bool), (.cell 900 12, .val (.int .i64)), (.cell 900 13, .val (.int .i64)), (.cell 900 14, .val .str), (.cell 900 15, .val (.int .u64)), (.cell 900 16, .val (.int .u32)), (.cell 900 17, .val .str), (.cell 900 18, .val .str), (.cell 900 19, .val (.int .i64))], [(900, 20)]⟩
noncomputable def mo182 : List Msk := [⟨[(.cell 900 0, .val (.int .u32)), (.cell 900 1, .val .str), (.cell 900 2, .val (.int .i64)), (.cell 900 3, .val .str), (.cell 900 4, .val (.int .u64)), (.cell 900 5, .val .str), (.cell 900 6, .val (.int .i64)), (.cell 900 7, .val (.int .i64)), (.cell 900 8, .row false (.st (.cons (.int .i64) (.cons .str (.cons (.int .u64) (.cons (.int .u32) (.cons .str (.cons .str .nil)))))))), (.cell 900 9, .row false (.st (.cons (.int .i64) (.cons .str (.cons (.int .u64) (.cons (.int .u32) (.cons .str (.cons .str .nil)))))))), (.cell 900 10, .val (.int .i64)), (.cell 900 11, .val .bool), (.cell 900 12, .val (.int .i64)), (.cell 900 13, .val (.int .i64)), (.cell 900 14, .val .str), (.cell 900 15, .val (.int .u64)), (.cell 900 16, .val (.int .u32)), (.cell 900 17, .val .str), (.cell 900 18, .val .str), (.cell 900 19, .val (.int .i64))], [(900, 20)]⟩]
noncomputable def L182 (k : Nat) : LOrc := fun _ _ _ _ => none
noncomputable def F182 (k : Nat) (v : mi182.den) : Option (denA mo182) := runA TI (O181 k) (L182 k) c182 mi182 mo182 v
theorem lk182 (k : Nat) : LinksOK Tryd.prog 56 (L182 k) c182 := (And.intro True.intro (And.intro True.intro (And.intro (And.intro True.intro (And.intro True.intro True.intro)) (And.intro True.intro (And.intro True.intro (And.intro True.intro (And.intro (And.intro True.intro True.intro) (And.intro True.intro True.intro))))))))
theorem fn182 (k : Nat) (vs cs : List AV) (x : mi182.den) (r : denA mo182) (h1 : vs.length = 1) (h2 : mi182.dec (startL vs cs) = some x) (h3 : F182 k x = some r) : CallOK Tryd.prog 182 (vs ++ [.lent cs]) (valB 0 mo182 r) :=
  call_ofL hm hT (ok_O181 k) (fn := Tryd.f182) (c := c182) Tryd.func182 rfl rfl rfl (lk182 k) rfl (by decide) (by decide) rfl h1 h2 h3
noncomputable def O182 (k : Nat) : Orc := fun R f args K => bif Nat.beq f 182 then callB mi182 1 0 mo182 (F182 k) args K else O181 k R f args K
theorem ok_O182 (k : Nat) : OrcOK (O182 k) (CallOK Tryd.prog) := orc_addL (fn182 k) (ok_O181 k)

/-! 183: (*paydesk/core.hand).ack -/
noncomputable def c183 : Code := Tryd.f183.body.getD .skip
noncomputable def mi183 : Msk := ⟨[(.tmp 0, .ptr 900 0), (.cell 900 0, .val (.int .u32)), (.cell 900 1, .val .str), (.cell 900 2, .val (.int .i64)), (.cell 900 3, .val .str), (.cell 900 4, .val (.int .u64)), (.cell 900 5, .val .str), (.cell 900 6, .val (.int .i64)), (.cell 900 7, .val (.int .i64)), (.cell 900 8, .row false (.st (.cons (.int .i64) (.cons .str (.cons (.int .u64) (.cons (.int .u32) (.cons .str (.cons .str .nil)))))))), (.cell 900 9, .row false (.st (.cons (.int .i64) (.cons .str (.cons (.int .u64) (.cons (.int .u32) (.cons .str (.cons .str .nil)))))))), (.cell 900 10, .val (.int .i64)), (.cell 900 11, .val .bool), (.cell 900 12, .val (.int .i64)), (.cell 900 13, .val (.int .i64)), (.cell 900 14, .val .str), (.cell 900 15, .val (.int .u64)), (.cell 900 16, .val (.int .u32)), (.cell 900 17, .val .str), (.cell 900 18, .val .str), (.cell 900 19, .val (.int .i64))], [(900, 20)]⟩
noncomputable def mo183 : List Msk := [⟨[(.cell 900 0, .val (.int .u32)), (.cell 900 1, .val .str), (.cell 900 2, .val (.int .i64)), (.cell 900 3, .val .str), (.cell 900 4, .val (.int .u64)), (.cell 900 5, .val .str), (.cell 900 6, .val (.int .i64)), (.cell 900 7, .val (.int .i64)), (.cell 900 8, .row false (.st (.cons (.int .i64) (.cons .str (.cons (.int .u64) (.cons (.int .u32) (.cons .str (.cons .str .nil)))))))), (.cell 900 9, .row false (.st (.cons (.int .i64) (.cons .str (.cons (.int .u64) (.cons (.int .u32) (.cons .str (.cons .str .nil)))))))), (.cell 900 10, .val (.int .i64)), (.cell 900 11, .val .bool), (.cell 900 12, .val (.int .i64)), (.cell 900 13, .val (.int .i64)), (.cell 900 14, .val .str), (.cell 900 15, .val (.int .u64)), (.cell 900 16, .val (.int .u32)), (.cell 900 17, .val .str), (.cell 900 18, .val .str), (.cell 900 19, .val (.int .i64))], [(900, 20)]⟩]
noncomputable def L183 (k : Nat) : LOrc := fun _ _ _ _ => none
noncomputable def F183 (k : Nat) (v : mi183.den) : Option (denA mo183) := runA TI (O182 k) (L183 k) c183 mi183 mo183 v
theorem lk183 (k : Nat) : LinksOK Tryd.prog 22 (L183 k) c183 := (And.intro True.intro (And.intro True.intro (And.intro (And.intro (And.intro (And.intro (And.intro True.intro (And.intro True.intro True.intro)) (And.intro True.intro (And.intro True.intro True.intro))) True.intro) True.intro) (And.intro True.intro True.intro))))
theorem fn183 (k : Nat) (vs cs : List AV) (x : mi183.den) (r : denA mo183) (h1 : vs.length = 1) (h2 : mi183.dec (startL vs cs) = some x) (h3 : F183 k x = some r) : CallOK Tryd.prog 183 (vs ++ [.lent cs]) (valB 0 mo183 r) :=
  call_ofL hm hT (ok_O182 k) (fn := Tryd.f183) (c := c183) Tryd.func183 rfl rfl rfl (lk183 k) rfl (by decide) (by decide) rfl h1 h2 h3
noncomputable def O183 (k : Nat) : Orc := fun R f args K => bif Nat.beq f 183 then callB mi183 1 0 mo183 (F183 k) args K else O182 k R f args K
theorem ok_O183 (k : Nat) : OrcOK (O183 k) (CallOK Tryd.prog) := orc_addL (fn183 k) (ok_O182 k)

/-! 47: paydesk/core.Do -/
noncomputable def c47 : Code := Tryd.f47.body.getD .skip
noncomputable def mi47 : Msk := ⟨[(.tmp 0, .val (.st (.cons (.st (.cons (.int .u32) (.cons .str .nil))) (.cons (.int .i64) (.cons .str (.cons (.int .u64) (.cons .str (.cons (.int .i64) (.cons (.int .i64) .nil))))))))), (.tmp 1, .val (.st (.cons (.int .i64) (.cons (.st (.cons (.int .i64) (.cons .str (.cons (.int .u64) (.cons (.int .u32) (.cons .str (.cons .str .nil))))))) .nil)))), (.tmp 2, .val (.int .i64))], []⟩
noncomputable def mo47 : Msk := ⟨[(.res 6, .val (.st (.cons (.st (.cons (.st (.cons (.int .u32) (.cons .str .nil))) (.cons (.int .i64) (.cons .str (.cons (.int .u64) (.cons .str (.cons (.int .i64) (.cons (.int .i64) .nil)))))))) (.cons (.slice (.st (.cons (.int .i64) (.cons .str (.cons (.int .u64) (.cons (.int .u32) (.cons .str (.cons .str .nil)))))))) (.cons (.slice (.st (.cons (.int .i64) (.cons .str (.cons (.int .u64) (.cons (.int .u32) (.cons .str (.cons .str .nil)))))))) (.cons (.int .i64) (.cons .bool .nil))))))), (.tmp 7, .val (.int .i64))], []⟩
noncomputable def L47 (k : Nat) : LOrc := fun _ _ _ _ => none
noncomputable def F47 (k : Nat) (v : mi47.den) : Option mo47.den := runF TI (O183 k) (L47 k) c47 mi47 mo47 v
theorem lk47 (k : Nat) : LinksOK Tryd.prog 30 (L47 k) c47 := (And.intro True.intro (And.intro (And.intro True.intro (And.intro (And.intro True.intro True.intro) True.intro)) (And.intro True.intro (And.intro True.intro (And.intro True.intro True.intro)))))
theorem fn47 (k : Nat) (args : List AV) (x : mi47.den) (r : mo47.den) (h1 : args.length = mi47.items.length) (h2 : mi47.dec (Th.start args) = some x) (h3 : F47 k x = some r) : CallOK Tryd.prog 47 args (ansOf (outL mo47.items r)) :=
  call_of hm hT (ok_O183 k) (fn := Tryd.f47) (c := c47) Tryd.func47 rfl rfl rfl (lk47 k) rfl (by decide) rfl h1 h2 h3
noncomputable def O47 (k : Nat) : Orc := fun R f args K => bif Nat.beq f 47 then callF mi47 mo47 (F47 k) args K else O183 k R f args K
theorem ok_O47 (k : Nat) : OrcOK (O47 k) (CallOK Tryd.prog) := orc_add (fn47 k) (ok_O183 k)

/-! 51: paydesk/core.Final -/
noncomputable def c51 : Code := Tryd.f51.body.getD .skip
noncomputable def mi51 : Msk := ⟨[(.tmp 0, .val (.int .i64))], []⟩
noncomputable def mo51 : Msk := ⟨[(.tmp 2, .val .bool)], []⟩
noncomputable def L51 (k : Nat) : LOrc := fun _ _ _ _ => none
noncomputable def F51 (k : Nat) (v : mi51.den) : Option mo51.den := runF TI (O47 k) (L51 k) c51 mi51 mo51 v
theorem lk51 (k : Nat) : LinksOK Tryd.prog 17 (L51 k) c51 := (And.intro True.intro (And.intro True.intro True.intro))
theorem fn51 (k : Nat) (args : List AV) (x : mi51.den) (r : mo51.den) (h1 : args.length = mi51.items.length) (h2 : mi51.dec (Th.start args) = some x) (h3 : F51 k x = some r) : CallOK Tryd.prog 51 args (ansOf (outL mo51.items r)) :=
  call_of hm hT (ok_O47 k) (fn := Tryd.f51) (c := c51) Tryd.func51 rfl rfl rfl (lk51 k) rfl (by decide) rfl h1 h2 h3
noncomputable def O51 (k : Nat) : Orc := fun R f args K => bif Nat.beq f 51 then callF mi51 mo51 (F51 k) args K else O47 k R f args K
theorem ok_O51 (k : Nat) : OrcOK (O51 k) (CallOK Tryd.prog) := orc_add (fn51 k) (ok_O47 k)

/-! 45: paydesk/paydesklaw12.awake -/
noncomputable def c45 : Code := Tryd.f45.body.getD .skip
noncomputable def mi45 : Msk := ⟨[], []⟩
noncomputable def mo45 : Msk := ⟨[(.tmp 0, .val .bool)], []⟩
noncomputable def L45 (k : Nat) : LOrc := fun _ _ _ _ => none
noncomputable def F45 (k : Nat) (v : mi45.den) : Option mo45.den := runF TI (O51 k) (L45 k) c45 mi45 mo45 v
theorem lk45 (k : Nat) : LinksOK Tryd.prog 121 (L45 k) c45 := (And.intro True.intro (And.intro True.intro (And.intro True.intro (And.intro True.intro (And.intro True.intro (And.intro True.intro True.intro))))))
theorem fn45 (k : Nat) (args : List AV) (x : mi45.den) (r : mo45.den) (h1 : args.length = mi45.items.length) (h2 : mi45.dec (Th.start args) = some x) (h3 : F45 k x = some r) : CallOK Tryd.prog 45 args (ansOf (outL mo45.items r)) :=
  call_of hm hT (ok_O51 k) (fn := Tryd.f45) (c := c45) Tryd.func45 rfl rfl rfl (lk45 k) rfl (by decide) rfl h1 h2 h3
noncomputable def O45 (k : Nat) : Orc := fun R f args K => bif Nat.beq f 45 then callF mi45 mo45 (F45 k) args K else O51 k R f args K
theorem ok_O45 (k : Nat) : OrcOK (O45 k) (CallOK Tryd.prog) := orc_add (fn45 k) (ok_O51 k)

/-! 46: paydesk/paydeskref10.ShortEntry -/
noncomputable def c46 : Code := Tryd.f46.body.getD .skip
noncomputable def mi46 : Msk := ⟨[(.tmp 0, .val (.st (.cons (.st (.cons (.int .u32) (.cons .str .nil))) (.cons (.int .i64) (.cons .str (.cons (.int .u64) (.cons .str (.cons (.int .i64) (.cons (.int .i64) .nil)))))))))], []⟩
noncomputable def mo46 : Msk := ⟨[(.tmp 2, .val .bool)], []⟩
noncomputable def L46 (k : Nat) : LOrc := fun _ _ _ _ => none
noncomputable def F46 (k : Nat) (v : mi46.den) : Option mo46.den := runF TI (O45 k) (L46 k) c46 mi46 mo46 v
theorem lk46 (k : Nat) : LinksOK Tryd.prog 18 (L46 k) c46 := (And.intro True.intro (And.intro True.intro True.intro))
theorem fn46 (k : Nat) (args : List AV) (x : mi46.den) (r : mo46.den) (h1 : args.length = mi46.items.length) (h2 : mi46.dec (Th.start args) = some x) (h3 : F46 k x = some r) : CallOK Tryd.prog 46 args (ansOf (outL mo46.items r)) :=
  call_of hm hT (ok_O45 k) (fn := Tryd.f46) (c := c46) Tryd.func46 rfl rfl rfl (lk46 k) rfl (by decide) rfl h1 h2 h3
noncomputable def O46 (k : Nat) : Orc := fun R f args K => bif Nat.beq f 46 then callF mi46 mo46 (F46 k) args K else O45 k R f args K
theorem ok_O46 (k : Nat) : OrcOK (O46 k) (CallOK Tryd.prog) := orc_add (fn46 k) (ok_O45 k)

/-! 124: paydesk/paydeskref12.Key -/
noncomputable def c124 : Code := Tryd.f124.body.getD .skip
noncomputable def mi124 : Msk := ⟨[(.tmp 0, .val (.st (.cons (.int .i64) (.cons (.st (.cons (.int .i64) (.cons .str (.cons (.int .u64) (.cons (.int .u32) (.cons .str (.cons .str .nil))))))) .nil))))], []⟩
noncomputable def mo124 : Msk := ⟨[(.res 2, .val (.st (.cons (.int .u32) (.cons .str .nil))))], []⟩
noncomputable def L124 (k : Nat) : LOrc := fun _ _ _ _ => none
noncomputable def F124 (k : Nat) (v : mi124.den) : Option mo124.den := runF TI (O46 k) (L124 k) c124 mi124 mo124 v
theorem lk124 (k : Nat) : LinksOK Tryd.prog 10 (L124 k) c124 := (And.intro True.intro (And.intro True.intro True.intro))
theorem fn124 (k : Nat) (args : List AV) (x : mi124.den) (r : mo124.den) (h1 : args.length = mi124.items.length) (h2 : mi124.dec (Th.start args) = some x) (h3 : F124 k x = some r) : CallOK Tryd.prog 124 args (ansOf (outL mo124.items r)) :=
  call_of hm hT (ok_O46 k) (fn := Tryd.f124) (c := c124) Tryd.func124 rfl rfl rfl (lk124 k) rfl (by decide) rfl h1 h2 h3
noncomputable def O124 (k : Nat) : Orc := fun R f args K => bif Nat.beq f 124 then callF mi124 mo124 (F124 k) args K else O46 k R f args K
theorem ok_O124 (k : Nat) : OrcOK (O124 k) (CallOK Tryd.prog) := orc_add (fn124 k) (ok_O46 k)

/-! 50: paydesk/paydeskref12.Right -/
noncomputable def c50 : Code := Tryd.f50.body.getD .skip
noncomputable def mi50 : Msk := ⟨[(.tmp 0, .val (.st (.cons (.int .i64) (.cons (.st (.cons (.int .i64) (.cons .str (.cons (.int .u64) (.cons (.int .u32) (.cons .str (.cons .str .nil))))))) .nil))))], []⟩
noncomputable def mo50 : Msk := ⟨[(.tmp 2, .val .bool)], []⟩
noncomputable def L50 (k : Nat) : LOrc := fun _ _ _ _ => none
noncomputable def F50 (k : Nat) (v : mi50.den) : Option mo50.den := runF TI (O124 k) (L50 k) c50 mi50 mo50 v
theorem lk50 (k : Nat) : LinksOK Tryd.prog 69 (L50 k) c50 := (And.intro True.intro (And.intro True.intro (And.intro (And.intro True.intro (And.intro True.intro (And.intro (And.intro True.intro True.intro) (And.intro True.intro (And.intro (And.intro True.intro True.intro) (And.intro True.intro (And.intro (And.intro True.intro True.intro) (And.intro True.intro (And.intro (And.intro True.intro True.intro) (And.intro True.intro (And.intro (And.intro True.intro True.intro) True.intro))))))))))) (And.intro True.intro True.intro))))
theorem fn50 (k : Nat) (args : List AV) (x : mi50.den) (r : mo50.den) (h1 : args.length = mi50.items.length) (h2 : mi50.dec (Th.start args) = some x) (h3 : F50 k x = some r) : CallOK Tryd.prog 50 args (ansOf (outL mo50.items r)) :=
  call_of hm hT (ok_O124 k) (fn := Tryd.f50) (c := c50) Tryd.func50 rfl rfl rfl (lk50 k) rfl (by decide) rfl h1 h2 h3
noncomputable def O50 (k : Nat) : Orc := fun R f args K => bif Nat.beq f 50 then callF mi50 mo50 (F50 k) args K else O124 k R f args K
theorem ok_O50 (k : Nat) : OrcOK (O50 k) (CallOK Tryd.prog) := orc_add (fn50 k) (ok_O124 k)

/-! 65: paydesk/paydeskref10.RightEntry -/
noncomputable def c65 : Code := Tryd.f65.body.getD .skip
noncomputable def mi65 : Msk := ⟨[(.tmp 0, .val (.st (.cons (.st (.cons (.int .u32) (.cons .str .nil))) (.cons (.int .i64) (.cons .str (.cons (.int .u64) (.cons .str (.cons (.int .i64) (.cons (.int .i64) .nil)))))))))], []⟩
noncomputable def mo65 : Msk := ⟨[(.tmp 2, .val .bool)], []⟩
noncomputable def L65 (k : Nat) : LOrc := fun _ _ _ _ => none
noncomputable def F65 (k : Nat) (v : mi65.den) : Option mo65.den := runF TI (O50 k) (L65 k) c65 mi65 mo65 v
theorem lk65 (k : Nat) : LinksOK Tryd.prog 111 (L65 k) c65 := (And.intro True.intro (And.intro (And.intro True.intro (And.intro (And.intro True.intro True.intro) True.intro)) (And.intro (And.intro True.intro (And.intro (And.intro (And.intro True.intro (And.intro (And.intro True.intro True.intro) True.intro)) (And.intro True.intro True.intro)) True.intro)) (And.intro True.intro True.intro))))
theorem fn65 (k : Nat) (args : List AV) (x : mi65.den) (r : mo65.den) (h1 : args.length = mi65.items.length) (h2 : mi65.dec (Th.start args) = some x) (h3 : F65 k x = some r) : CallOK Tryd.prog 65 args (ansOf (outL mo65.items r)) :=
  call_of hm hT (ok_O50 k) (fn := Tryd.f65) (c := c65) Tryd.func65 rfl rfl rfl (lk65 k) rfl (by decide) rfl h1 h2 h3
noncomputable def O65 (k : Nat) : Orc := fun R f args K => bif Nat.beq f 65 then callF mi65 mo65 (F65 k) args K else O50 k R f args K
theorem ok_O65 (k : Nat) : OrcOK (O65 k) (CallOK Tryd.prog) := orc_add (fn65 k) (ok_O50 k)

/-! 125: paydesk/paydeskref12.asked -/
noncomputable def c125 : Code := Tryd.f125.body.getD .skip
noncomputable def mi125 : Msk := ⟨[(.tmp 0, .val (.st (.cons (.st (.cons (.int .u32) (.cons .str .nil))) (.cons (.int .i64) (.cons .str (.cons (.int .u64) (.cons .str (.cons (.int .i64) (.cons (.int .i64) .nil))))))))), (.tmp 1, .val (.int .i64))], []⟩
noncomputable def mo125 : Msk := ⟨[(.res 4, .val (.st (.cons (.int .i64) (.cons .str (.cons (.int .u64) (.cons (.int .u32) (.cons .str (.cons .str .nil))))))))], []⟩
noncomputable def L125 (k : Nat) : LOrc := fun _ _ _ _ => none
noncomputable def F125 (k : Nat) (v : mi125.den) : Option mo125.den := runF TI (O65 k) (L125 k) c125 mi125 mo125 v
theorem lk125 (k : Nat) : LinksOK Tryd.prog 17 (L125 k) c125 := (And.intro True.intro (And.intro True.intro True.intro))
theorem fn125 (k : Nat) (args : List AV) (x : mi125.den) (r : mo125.den) (h1 : args.length = mi125.items.length) (h2 : mi125.dec (Th.start args) = some x) (h3 : F125 k x = some r) : CallOK Tryd.prog 125 args (ansOf (outL mo125.items r)) :=
  call_of hm hT (ok_O65 k) (fn := Tryd.f125) (c := c125) Tryd.func125 rfl rfl rfl (lk125 k) rfl (by decide) rfl h1 h2 h3
noncomputable def O125 (k : Nat) : Orc := fun R f args K => bif Nat.beq f 125 then callF mi125 mo125 (F125 k) args K else O65 k R f args K
theorem ok_O125 (k : Nat) : OrcOK (O125 k) (CallOK Tryd.prog) := orc_add (fn125 k) (ok_O65 k)

/-! 126: paydesk/paydeskref12.told -/
noncomputable def c126 : Code := Tryd.f126.body.getD .skip
noncomputable def mi126 : Msk := ⟨[(.tmp 0, .val (.st (.cons (.int .i64) (.cons (.st (.cons (.int .i64) (.cons .str (.cons (.int .u64) (.cons (.int .u32) (.cons .str (.cons .str .nil))))))) .nil)))), (.tmp 1, .val (.int .i64)), (.tmp 2, .val .str)], []⟩
noncomputable def mo126 : Msk := ⟨[(.res 6, .val (.st (.cons (.int .i64) (.cons .str (.cons (.int .u64) (.cons (.int .u32) (.cons .str (.cons .str .nil))))))))], []⟩
noncomputable def L126 (k : Nat) : LOrc := fun _ _ _ _ => none
noncomputable def F126 (k : Nat) (v : mi126.den) : Option mo126.den := runF TI (O125 k) (L126 k) c126 mi126 mo126 v
theorem lk126 (k : Nat) : LinksOK Tryd.prog 16 (L126 k) c126 := (And.intro True.intro (And.intro True.intro True.intro))
theorem fn126 (k : Nat) (args : List AV) (x : mi126.den) (r : mo126.den) (h1 : args.length = mi126.items.length) (h2 : mi126.dec (Th.start args) = some x) (h3 : F126 k x = some r) : CallOK Tryd.prog 126 args (ansOf (outL mo126.items r)) :=
  call_of hm hT (ok_O125 k) (fn := Tryd.f126) (c := c126) Tryd.func126 rfl rfl rfl (lk126 k) rfl (by decide) rfl h1 h2 h3
noncomputable def O126 (k : Nat) : Orc := fun R f args K => bif Nat.beq f 126 then callF mi126 mo126 (F126 k) args K else O125 k R f args K
theorem ok_O126 (k : Nat) : OrcOK (O126 k) (CallOK Tryd.prog) := orc_add (fn126 k) (ok_O125 k)

/-! 127: paydesk/paydeskref12.reversing -/
noncomputable def c127 : Code := Tryd.f127.body.getD .skip
noncomputable def mi127 : Msk := ⟨[(.tmp 0, .val (.st (.cons (.st (.cons (.int .u32) (.cons .str .nil))) (.cons (.int .i64) (.cons .str (.cons (.int .u64) (.cons .str (.cons (.int .i64) (.cons (.int .i64) .nil))))))))), (.tmp 1, .val .str), (.tmp 2, .val (.int .i64))], []⟩
noncomputable def mo127 : Msk := ⟨[(.res 6, .val (.st (.cons (.st (.cons (.int .u32) (.cons .str .nil))) (.cons (.int .i64) (.cons .str (.cons (.int .u64) (.cons .str (.cons (.int .i64) (.cons (.int .i64) .nil)))))))))], []⟩
noncomputable def L127 (k : Nat) : LOrc := fun _ _ _ _ => none
noncomputable def F127 (k : Nat) (v : mi127.den) : Option mo127.den := runF TI (O126 k) (L127 k) c127 mi127 mo127 v
theorem lk127 (k : Nat) : LinksOK Tryd.prog 13 (L127 k) c127 := (And.intro True.intro (And.intro True.intro (And.intro True.intro (And.intro True.intro (And.intro True.intro True.intro)))))
theorem fn127 (k : Nat) (args : List AV) (x : mi127.den) (r : mo127.den) (h1 : args.length = mi127.items.length) (h2 : mi127.dec (Th.start args) = some x) (h3 : F127 k x = some r) : CallOK Tryd.prog 127 args (ansOf (outL mo127.items r)) :=
  call_of hm hT (ok_O126 k) (fn := Tryd.f127) (c := c127) Tryd.func127 rfl rfl rfl (lk127 k) rfl (by decide) rfl h1 h2 h3
noncomputable def O127 (k : Nat) : Orc := fun R f args K => bif Nat.beq f 127 then callF mi127 mo127 (F127 k) args K else O126 k R f args K
theorem ok_O127 (k : Nat) : OrcOK (O127 k) (CallOK Tryd.prog) := orc_add (fn127 k) (ok_O126 k)

/-! 48: paydesk/paydeskref12.Do -/
noncomputable def c48 : Code := Tryd.f48.body.getD .skip
noncomputable def mi48 : Msk := ⟨[(.tmp 0, .val (.st (.cons (.st (.cons (.int .u32) (.cons .str .nil))) (.cons (.int .i64) (.cons .str (.cons (.int .u64) (.cons .str (.cons (.int .i64) (.cons (.int .i64) .nil))))))))), (.tmp 1, .val (.st (.cons (.int .i64) (.cons (.st (.cons (.int .i64) (.cons .str (.cons (.int .u64) (.cons (.int .u32) (.cons .str (.cons .str .nil))))))) .nil)))), (.tmp 2, .val (.int .i64))], []⟩
noncomputable def mo48 : Msk := ⟨[(.res 6, .val (.st (.cons (.st (.cons (.st (.cons (.int .u32) (.cons .str .nil))) (.cons (.int .i64) (.cons .str (.cons (.int .u64) (.cons .str (.cons (.int .i64) (.cons (.int .i64) .nil)))))))) (.cons (.slice (.st (.cons (.int .i64) (.cons .str (.cons (.int .u64) (.cons (.int .u32) (.cons .str (.cons .str .nil)))))))) (.cons (.slice (.st (.cons (.int .i64) (.cons .str (.cons (.int .u64) (.cons (.int .u32) (.cons .str (.cons .str .nil)))))))) (.cons (.int .i64) (.cons .bool .nil))))))), (.tmp 7, .val .bool)], []⟩
noncomputable def L48 (k : Nat) : LOrc := fun _ _ _ _ => none
noncomputable def F48 (k : Nat) (v : mi48.den) : Option mo48.den := runF TI (O127 k) (L48 k) c48 mi48 mo48 v
theorem lk48 (k : Nat) : LinksOK Tryd.prog 229 (L48 k) c48 := (And.intro True.intro (And.intro True.intro (And.intro (And.intro True.intro (And.intro (And.intro True.intro True.intro) True.intro)) (And.intro True.intro (And.intro True.intro (And.intro (And.intro True.intro (And.intro True.intro (And.intro (And.intro True.intro (And.intro (And.intro True.intro (And.intro True.intro True.intro)) (And.intro True.intro (And.intro True.intro (And.intro True.intro (And.intro True.intro True.intro)))))) (And.intro True.intro (And.intro (And.intro True.intro (And.intro (And.intro True.intro (And.intro (And.intro True.intro (And.intro True.intro True.intro)) (And.intro True.intro (And.intro True.intro True.intro)))) True.intro)) (And.intro True.intro (And.intro (And.intro True.intro (And.intro True.intro (And.intro True.intro (And.intro True.intro (And.intro True.intro (And.intro (And.intro True.intro (And.intro True.intro (And.intro True.intro True.intro))) (And.intro True.intro (And.intro (And.intro True.intro (And.intro True.intro (And.intro True.intro True.intro))) True.intro)))))))) (And.intro True.intro (And.intro (And.intro (And.intro True.intro (And.intro (And.intro True.intro (And.intro True.intro (And.intro True.intro True.intro))) True.intro)) (And.intro (And.intro True.intro (And.intro (And.intro True.intro (And.intro True.intro True.intro)) True.intro)) (And.intro True.intro (And.intro (And.intro True.intro True.intro) True.intro)))) (And.intro True.intro (And.intro (And.intro (And.intro True.intro (And.intro (And.intro True.intro True.intro) True.intro)) (And.intro True.intro (And.intro True.intro True.intro))) True.intro))))))))))) (And.intro True.intro True.intro)))))))
theorem fn48 (k : Nat) (args : List AV) (x : mi48.den) (r : mo48.den) (h1 : args.length = mi48.items.length) (h2 : mi48.dec (Th.start args) = some x) (h3 : F48 k x = some r) : CallOK Tryd.prog 48 args (ansOf (outL mo48.items r)) :=
  call_of hm hT (ok_O127 k) (fn := Tryd.f48) (c := c48) Tryd.func48 rfl rfl rfl (lk48 k) rfl (by decide) rfl h1 h2 h3
noncomputable def O48 (k : Nat) : Orc := fun R f args K => bif Nat.beq f 48 then callF mi48 mo48 (F48 k) args K else O127 k R f args K
theorem ok_O48 (k : Nat) : OrcOK (O48 k) (CallOK Tryd.prog) := orc_add (fn48 k) (ok_O127 k)

/-! 129: paydesk/paydeskref06.Same -/
noncomputable def c129 : Code := Tryd.f129.body.getD .skip
noncomputable def mi129 : Msk := ⟨[(.tmp 0, .val (.slice (.st (.cons (.int .i64) (.cons .str (.cons (.int .u64) (.cons (.int .u32) (.cons .str (.cons .str .nil))))))))), (.tmp 1, .val (.slice (.st (.cons (.int .i64) (.cons .str (.cons (.int .u64) (.cons (.int .u32) (.cons .str (.cons .str .nil)))))))))], []⟩
noncomputable def mo129 : Msk := ⟨[(.tmp 4, .val .bool)], []⟩
noncomputable def L129_4 (k : Nat) : LOrc := fun _ _ _ _ => none
noncomputable def b129_4 : Code := (findLoop 4 c129).getD .skip
noncomputable def m129_4 : Msk := ⟨[(.tmp 0, .val (.slice (.st (.cons (.int .i64) (.cons .str (.cons (.int .u64) (.cons (.int .u32) (.cons .str (.cons .str .nil))))))))), (.tmp 1, .val (.slice (.st (.cons (.int .i64) (.cons .str (.cons (.int .u64) (.cons (.int .u32) (.cons .str (.cons .str .nil))))))))), (.tmp 5, .val (.int .i64))], []⟩
noncomputable def x129_4 : List (X × Msk) := [(.exit 0, ⟨[], []⟩), (.ret, ⟨[(.tmp 4, .val .bool)], []⟩)]
noncomputable def F129_4 (k : Nat) : Nat → m129_4.den → Option (denE x129_4)
  | 0, _ => none
  | j + 1, v => round TI (O48 k) (L129_4 k) b129_4 m129_4 x129_4 (F129_4 k j) v
theorem lk129_4_ (k : Nat) : LinksOK Tryd.prog 26 (L129_4 k) b129_4 := (And.intro (And.intro True.intro (And.intro True.intro True.intro)) (And.intro (And.intro True.intro (And.intro (And.intro True.intro True.intro) True.intro)) True.intro))
noncomputable def L129 (k : Nat) : LOrc := fun R lk s K => match lk with
  | .loop r => bif Nat.beq r 4 then link m129_4 x129_4 (F129_4 k k) s K else none
  | .label l => none
theorem lk_L129_4 (k : Nat) : LoopOK Tryd.prog 26 (L129 k) b129_4 := loopOK_of hm hT (ok_O48 k) (fun _ _ _ h => h) rfl (lk129_4_ k) rfl rfl (F := F129_4 k) (fun _ => rfl) (fun _ _ => rfl) (n := k) fun _ _ _ => rfl
noncomputable def F129 (k : Nat) (v : mi129.den) : Option mo129.den := runF TI (O48 k) (L129 k) c129 mi129 mo129 v
theorem lk129 (k : Nat) : LinksOK Tryd.prog 26 (L129 k) c129 := (And.intro True.intro (And.intro (And.intro True.intro (And.intro (And.intro True.intro True.intro) True.intro)) (And.intro (And.intro True.intro (lk_L129_4 k)) (And.intro True.intro True.intro))))
theorem fn129 (k : Nat) (args : List AV) (x : mi129.den) (r : mo129.den) (h1 : args.length = mi129.items.length) (h2 : mi129.dec (Th.start args) = some x) (h3 : F129 k x = some r) : CallOK Tryd.prog 129 args (ansOf (outL mo129.items r)) :=
  call_of hm hT (ok_O48 k) (fn := Tryd.f129) (c := c129) Tryd.func129 rfl rfl rfl (lk129 k) rfl (by decide) rfl h1 h2 h3
noncomputable def O129 (k : Nat) : Orc := fun R f args K => bif Nat.beq f 129 then callF mi129 mo129 (F129 k) args K else O48 k R f args K
theorem ok_O129 (k : Nat) : OrcOK (O129 k) (CallOK Tryd.prog) := orc_add (fn129 k) (ok_O48 k)

/-! 52: paydesk/paydeskref12.Same -/
noncomputable def c52 : Code := Tryd.f52.body.getD .skip
noncomputable def mi52 : Msk := ⟨[(.tmp 0, .val (.st (.cons (.st (.cons (.st (.cons (.int .u32) (.cons .str .nil))) (.cons (.int .i64) (.cons .str (.cons (.int .u64) (.cons .str (.cons (.int .i64) (.cons (.int .i64) .nil)))))))) (.cons (.slice (.st (.cons (.int .i64) (.cons .str (.cons (.int .u64) (.cons (.int .u32) (.cons .str (.cons .str .nil)))))))) (.cons (.slice (.st (.cons (.int .i64) (.cons .str (.cons (.int .u64) (.cons (.int .u32) (.cons .str (.cons .str .nil)))))))) (.cons (.int .i64) (.cons .bool .nil))))))), (.tmp 1, .val (.st (.cons (.st (.cons (.st (.cons (.int .u32) (.cons .str .nil))) (.cons (.int .i64) (.cons .str (.cons (.int .u64) (.cons .str (.cons (.int .i64) (.cons (.int .i64) .nil)))))))) (.cons (.slice (.st (.cons (.int .i64) (.cons .str (.cons (.int .u64) (.cons (.int .u32) (.cons .str (.cons .str .nil)))))))) (.cons (.slice (.st (.cons (.int .i64) (.cons .str (.cons (.int .u64) (.cons (.int .u32) (.cons .str (.cons .str .nil)))))))) (.cons (.int .i64) (.cons .bool .nil)))))))], []⟩
noncomputable def mo52 : Msk := ⟨[(.tmp 4, .val .bool)], []⟩
noncomputable def L52 (k : Nat) : LOrc := fun _ _ _ _ => none
noncomputable def F52 (k : Nat) (v : mi52.den) : Option mo52.den := runF TI (O129 k) (L52 k) c52 mi52 mo52 v
theorem lk52 (k : Nat) : LinksOK Tryd.prog 38 (L52 k) c52 := (And.intro True.intro (And.intro True.intro True.intro))
theorem fn52 (k : Nat) (args : List AV) (x : mi52.den) (r : mo52.den) (h1 : args.length = mi52.items.length) (h2 : mi52.dec (Th.start args) = some x) (h3 : F52 k x = some r) : CallOK Tryd.prog 52 args (ansOf (outL mo52.items r)) :=
  call_of hm hT (ok_O129 k) (fn := Tryd.f52) (c := c52) Tryd.func52 rfl rfl rfl (lk52 k) rfl (by decide) rfl h1 h2 h3
noncomputable def O52 (k : Nat) : Orc := fun R f args K => bif Nat.beq f 52 then callF mi52 mo52 (F52 k) args K else O129 k R f args K
theorem ok_O52 (k : Nat) : OrcOK (O52 k) (CallOK Tryd.prog) := orc_add (fn52 k) (ok_O129 k)

/-! 8: paydesk/paydesklaw12.CoreRight -/
noncomputable def c8 : Code := Tryd.f8.body.getD .skip
noncomputable def mi8 : Msk := ⟨[(.tmp 0, .val (.st (.cons (.st (.cons (.int .u32) (.cons .str .nil))) (.cons (.int .i64) (.cons .str (.cons (.int .u64) (.cons .str (.cons (.int .i64) (.cons (.int .i64) .nil))))))))), (.tmp 1, .val (.st (.cons (.int .i64) (.cons (.st (.cons (.int .i64) (.cons .str (.cons (.int .u64) (.cons (.int .u32) (.cons .str (.cons .str .nil))))))) .nil)))), (.tmp 2, .val (.int .i64)), (.tmp 3, .val (.int .i64))], []⟩
noncomputable def mo8 : Msk := ⟨[(.tmp 8, .val .bool)], []⟩
noncomputable def L8 (k : Nat) : LOrc := fun _ _ _ _ => none
noncomputable def F8 (k : Nat) (v : mi8.den) : Option mo8.den := runF TI (O52 k) (L8 k) c8 mi8 mo8 v
theorem lk8 (k : Nat) : LinksOK Tryd.prog 84 (L8 k) c8 := (And.intro True.intro (And.intro (And.intro True.intro (And.intro (And.intro True.intro True.intro) True.intro)) (And.intro (And.intro True.intro (And.intro (And.intro True.intro True.intro) True.intro)) (And.intro True.intro (And.intro True.intro (And.intro True.intro (And.intro True.intro True.intro)))))))
theorem fn8 (k : Nat) (args : List AV) (x : mi8.den) (r : mo8.den) (h1 : args.length = mi8.items.length) (h2 : mi8.dec (Th.start args) = some x) (h3 : F8 k x = some r) : CallOK Tryd.prog 8 args (ansOf (outL mo8.items r)) :=
  call_of hm hT (ok_O52 k) (fn := Tryd.f8) (c := c8) Tryd.func8 rfl rfl rfl (lk8 k) rfl (by decide) rfl h1 h2 h3
noncomputable def O8 (k : Nat) : Orc := fun R f args K => bif Nat.beq f 8 then callF mi8 mo8 (F8 k) args K else O52 k R f args K
theorem ok_O8 (k : Nat) : OrcOK (O8 k) (CallOK Tryd.prog) := orc_add (fn8 k) (ok_O52 k)

/-! 9: paydesk/paydesklaw12.CoreSteps -/
noncomputable def c9 : Code := Tryd.f9.body.getD .skip
noncomputable def mi9 : Msk := ⟨[(.tmp 0, .val (.st (.cons (.st (.cons (.int .u32) (.cons .str .nil))) (.cons (.int .i64) (.cons .str (.cons (.int .u64) (.cons .str (.cons (.int .i64) (.cons (.int .i64) .nil))))))))), (.tmp 1, .val (.st (.cons (.int .i64) (.cons (.st (.cons (.int .i64) (.cons .str (.cons (.int .u64) (.cons (.int .u32) (.cons .str (.cons .str .nil))))))) .nil)))), (.tmp 2, .val (.int .i64))], []⟩
noncomputable def mo9 : Msk := ⟨[(.tmp 6, .val .bool)], []⟩
noncomputable def L9_12 (k : Nat) : LOrc := fun _ _ _ _ => none
noncomputable def b9_12 : Code := (findLoop 12 c9).getD .skip
noncomputable def m9_12 : Msk := ⟨[(.tmp 3, .ptr 3 0), (.tmp 4, .ptr 4 0), (.tmp 7, .ptr 7 0), (.tmp 10, .val (.int .i64)), (.cell 3 0, .val (.int .u32)), (.cell 3 1, .val .str), (.cell 3 2, .val (.int .i64)), (.cell 3 3, .val .str), (.cell 3 4, .val (.int .u64)), (.cell 3 5, .val .str), (.cell 3 6, .val (.int .i64)), (.cell 3 7, .val (.int .i64)), (.cell 4 0, .val (.int .i64)), (.cell 4 1, .val (.int .i64)), (.cell 4 2, .val .str), (.cell 4 3, .val (.int .u64)), (.cell 4 4, .val (.int .u32)), (.cell 4 5, .val .str), (.cell 4 6, .val .str), (.cell 7 0, .val (.int .u32)), (.cell 7 1, .val .str), (.cell 7 2, .val (.int .i64)), (.cell 7 3, .val .str), (.cell 7 4, .val (.int .u64)), (.cell 7 5, .val .str), (.cell 7 6, .val (.int .i64)), (.cell 7 7, .val (.int .i64)), (.cell 7 8, .val (.slice (.st (.cons (.int .i64) (.cons .str (.cons (.int .u64) (.cons (.int .u32) (.cons .str (.cons .str .nil))))))))), (.cell 7 9, .val (.slice (.st (.cons (.int .i64) (.cons .str (.cons (.int .u64) (.cons (.int .u32) (.cons .str (.cons .str .nil))))))))), (.cell 7 10, .val (.int .i64)), (.cell 7 11, .val .bool)], [(3, 8), (4, 7), (7, 12)]⟩
noncomputable def x9_12 : List (X × Msk) := [(.exit 0, ⟨[(.tmp 3, .ptr 3 0), (.tmp 4, .ptr 4 0), (.tmp 7, .ptr 7 0), (.cell 3 0, .val (.int .u32)), (.cell 3 1, .val .str), (.cell 3 2, .val (.int .i64)), (.cell 3 3, .val .str), (.cell 3 4, .val (.int .u64)), (.cell 3 5, .val .str), (.cell 3 6, .val (.int .i64)), (.cell 3 7, .val (.int .i64)), (.cell 4 0, .val (.int .i64)), (.cell 4 1, .val (.int .i64)), (.cell 4 2, .val .str), (.cell 4 3, .val (.int .u64)), (.cell 4 4, .val (.int .u32)), (.cell 4 5, .val .str), (.cell 4 6, .val .str), (.cell 7 0, .val (.int .u32)), (.cell 7 1, .val .str), (.cell 7 2, .val (.int .i64)), (.cell 7 3, .val .str), (.cell 7 4, .val (.int .u64)), (.cell 7 5, .val .str), (.cell 7 6, .val (.int .i64)), (.cell 7 7, .val (.int .i64)), (.cell 7 8, .val (.slice (.st (.cons (.int .i64) (.cons .str (.cons (.int .u64) (.cons (.int .u32) (.cons .str (.cons .str .nil))))))))), (.cell 7 9, .val (.slice (.st (.cons (.int .i64) (.cons .str (.cons (.int .u64) (.cons (.int .u32) (.cons .str (.cons .str .nil))))))))), (.cell 7 10, .val (.int .i64)), (.cell 7 11, .val .bool)], [(3, 8), (4, 7), (7, 12)]⟩), (.ret, ⟨[(.tmp 6, .val .bool)], []⟩)]
noncomputable def F9_12 (k : Nat) : Nat → m9_12.den → Option (denE x9_12)
  | 0, _ => none
  | j + 1, v => round TI (O8 k) (L9_12 k) b9_12 m9_12 x9_12 (F9_12 k j) v
theorem lk9_12_ (k : Nat) : LinksOK Tryd.prog 222 (L9_12 k) b9_12 := (And.intro (And.intro True.intro (And.intro True.intro True.intro)) (And.intro (And.intro True.intro (And.intro True.intro (And.intro (And.intro True.intro True.intro) True.intro))) True.intro))
noncomputable def L9_18 (k : Nat) : LOrc := fun _ _ _ _ => none
noncomputable def b9_18 : Code := (findLoop 18 c9).getD .skip
noncomputable def m9_18 : Msk := ⟨[(.tmp 3, .ptr 3 0), (.tmp 4, .ptr 4 0), (.tmp 7, .ptr 7 0), (.tmp 12, .val (.int .i64)), (.cell 3 0, .val (.int .u32)), (.cell 3 1, .val .str), (.cell 3 2, .val (.int .i64)), (.cell 3 3, .val .str), (.cell 3 4, .val (.int .u64)), (.cell 3 5, .val .str), (.cell 3 6, .val (.int .i64)), (.cell 3 7, .val (.int .i64)), (.cell 4 0, .val (.int .i64)), (.cell 4 1, .val (.int .i64)), (.cell 4 2, .val .str), (.cell 4 3, .val (.int .u64)), (.cell 4 4, .val (.int .u32)), (.cell 4 5, .val .str), (.cell 4 6, .val .str), (.cell 7 0, .val (.int .u32)), (.cell 7 1, .val .str), (.cell 7 2, .val (.int .i64)), (.cell 7 3, .val .str), (.cell 7 4, .val (.int .u64)), (.cell 7 5, .val .str), (.cell 7 6, .val (.int .i64)), (.cell 7 7, .val (.int .i64)), (.cell 7 8, .val (.slice (.st (.cons (.int .i64) (.cons .str (.cons (.int .u64) (.cons (.int .u32) (.cons .str (.cons .str .nil))))))))), (.cell 7 9, .val (.slice (.st (.cons (.int .i64) (.cons .str (.cons (.int .u64) (.cons (.int .u32) (.cons .str (.cons .str .nil))))))))), (.cell 7 10, .val (.int .i64)), (.cell 7 11, .val .bool)], [(3, 8), (4, 7), (7, 12)]⟩
noncomputable def x9_18 : List (X × Msk) := [(.exit 2, ⟨[(.tmp 3, .ptr 3 0), (.tmp 7, .ptr 7 0), (.cell 3 0, .val (.int .u32)), (.cell 3 1, .val .str), (.cell 3 2, .val (.int .i64)), (.cell 3 3, .val .str), (.cell 3 4, .val (.int .u64)), (.cell 3 5, .val .str), (.cell 3 6, .val (.int .i64)), (.cell 3 7, .val (.int .i64)), (.cell 7 0, .val (.int .u32)), (.cell 7 1, .val .str), (.cell 7 2, .val (.int .i64)), (.cell 7 3, .val .str), (.cell 7 4, .val (.int .u64)), (.cell 7 5, .val .str), (.cell 7 6, .val (.int .i64)), (.cell 7 7, .val (.int .i64)), (.cell 7 8, .val (.slice (.st (.cons (.int .i64) (.cons .str (.cons (.int .u64) (.cons (.int .u32) (.cons .str (.cons .str .nil))))))))), (.cell 7 9, .val (.slice (.st (.cons (.int .i64) (.cons .str (.cons (.int .u64) (.cons (.int .u32) (.cons .str (.cons .str .nil))))))))), (.cell 7 10, .val (.int .i64)), (.cell 7 11, .val .bool)], [(3, 8), (7, 12)]⟩), (.ret, ⟨[(.tmp 6, .val .bool)], []⟩)]
noncomputable def F9_18 (k : Nat) : Nat → m9_18.den → Option (denE x9_18)
  | 0, _ => none
  | j + 1, v => round TI (O8 k) (L9_18 k) b9_18 m9_18 x9_18 (F9_18 k j) v
theorem lk9_18_ (k : Nat) : LinksOK Tryd.prog 222 (L9_18 k) b9_18 := (And.intro (And.intro True.intro (And.intro True.intro True.intro)) (And.intro (And.intro True.intro (And.intro True.intro (And.intro (And.intro True.intro True.intro) True.intro))) True.intro))
noncomputable def L9 (k : Nat) : LOrc := fun R lk s K => match lk with
  | .loop r => bif Nat.beq r 12 then link m9_12 x9_12 (F9_12 k k) s K else bif Nat.beq r 18 then link m9_18 x9_18 (F9_18 k k) s K else none
  | .label l => none
theorem lk_L9_12 (k : Nat) : LoopOK Tryd.prog 222 (L9 k) b9_12 := loopOK_of hm hT (ok_O8 k) (fun _ _ _ h => h) rfl (lk9_12_ k) rfl rfl (F := F9_12 k) (fun _ => rfl) (fun _ _ => rfl) (n := k) fun _ _ _ => rfl
theorem lk_L9_18 (k : Nat) : LoopOK Tryd.prog 222 (L9 k) b9_18 := loopOK_of hm hT (ok_O8 k) (fun _ _ _ h => h) rfl (lk9_18_ k) rfl rfl (F := F9_18 k) (fun _ => rfl) (fun _ _ => rfl) (n := k) fun _ _ _ => rfl
noncomputable def F9 (k : Nat) (v : mi9.den) : Option mo9.den := runF TI (O8 k) (L9 k) c9 mi9 mo9 v
theorem lk9 (k : Nat) : LinksOK Tryd.prog 222 (L9 k) c9 := (And.intro True.intro (And.intro (And.intro True.intro (And.intro (And.intro True.intro True.intro) True.intro)) (And.intro (And.intro True.intro (And.intro (And.intro True.intro True.intro) True.intro)) (And.intro True.intro (And.intro (And.intro True.intro (And.intro (And.intro True.intro True.intro) True.intro)) (And.intro True.intro (And.intro (And.intro True.intro (And.intro (And.intro True.intro True.intro) True.intro)) (And.intro (And.intro True.intro (lk_L9_12 k)) (And.intro (And.intro True.intro (lk_L9_18 k)) (And.intro True.intro True.intro))))))))))
theorem fn9 (k : Nat) (args : List AV) (x : mi9.den) (r : mo9.den) (h1 : args.length = mi9.items.length) (h2 : mi9.dec (Th.start args) = some x) (h3 : F9 k x = some r) : CallOK Tryd.prog 9 args (ansOf (outL mo9.items r)) :=
  call_of hm hT (ok_O8 k) (fn := Tryd.f9) (c := c9) Tryd.func9 rfl rfl rfl (lk9 k) rfl (by decide) rfl h1 h2 h3
noncomputable def O9 (k : Nat) : Orc := fun R f args K => bif Nat.beq f 9 then callF mi9 mo9 (F9 k) args K else O8 k R f args K
theorem ok_O9 (k : Nat) : OrcOK (O9 k) (CallOK Tryd.prog) := orc_add (fn9 k) (ok_O8 k)

/-! 10: paydesk/paydesklaw12.CoreOnce -/
noncomputable def c10 : Code := Tryd.f10.body.getD .skip
noncomputable def mi10 : Msk := ⟨[(.tmp 0, .val (.st (.cons (.int .u32) (.cons .str .nil)))), (.tmp 1, .val (.slice (.st (.cons (.int .i64) (.cons (.st (.cons (.int .i64) (.cons .str (.cons (.int .u64) (.cons (.int .u32) (.cons .str (.cons .str .nil))))))) .nil))))), (.tmp 2, .val (.int .i64))], []⟩
noncomputable def mo10 : Msk := ⟨[(.tmp 6, .val .bool)], []⟩
noncomputable def L10_18 (k : Nat) : LOrc := fun _ _ _ _ => none
noncomputable def b10_18 : Code := (findLoop 18 c10).getD .skip
noncomputable def m10_18 : Msk := ⟨[(.tmp 1, .val (.slice (.st (.cons (.int .i64) (.cons (.st (.cons (.int .i64) (.cons .str (.cons (.int .u64) (.cons (.int .u32) (.cons .str (.cons .str .nil))))))) .nil))))), (.tmp 2, .val (.int .i64)), (.tmp 3, .ptr 3 0), (.tmp 7, .ptr 7 0), (.tmp 8, .val .str), (.tmp 9, .val (.int .i64)), (.tmp 10, .val (.int .i64)), (.tmp 11, .val (.int .i64)), (.tmp 12, .val (.int .i64)), (.tmp 14, .ptr 14 0), (.tmp 16, .val (.int .i64)), (.cell 3 0, .val (.int .u32)), (.cell 3 1, .val .str), (.cell 7 0, .val (.int .u32)), (.cell 7 1, .val .str), (.cell 7 2, .val (.int .i64)), (.cell 7 3, .val .str), (.cell 7 4, .val (.int .u64)), (.cell 7 5, .val .str), (.cell 7 6, .val (.int .i64)), (.cell 7 7, .val (.int .i64)), (.cell 14 0, .val (.int .u32)), (.cell 14 1, .val .str), (.cell 14 2, .val (.int .i64)), (.cell 14 3, .val .str), (.cell 14 4, .val (.int .u64)), (.cell 14 5, .val .str), (.cell 14 6, .val (.int .i64)), (.cell 14 7, .val (.int .i64)), (.cell 14 8, .val (.slice (.st (.cons (.int .i64) (.cons .str (.cons (.int .u64) (.cons (.int .u32) (.cons .str (.cons .str .nil))))))))), (.cell 14 9, .val (.slice (.st (.cons (.int .i64) (.cons .str (.cons (.int .u64) (.cons (.int .u32) (.cons .str (.cons .str .nil))))))))), (.cell 14 10, .val (.int .i64)), (.cell 14 11, .val .bool)], [(3, 2), (7, 8), (14, 12)]⟩
noncomputable def x10_18 : List (X × Msk) := [(.exit 2, ⟨[(.tmp 1, .val (.slice (.st (.cons (.int .i64) (.cons (.st (.cons (.int .i64) (.cons .str (.cons (.int .u64) (.cons (.int .u32) (.cons .str (.cons .str .nil))))))) .nil))))), (.tmp 2, .val (.int .i64)), (.tmp 3, .ptr 3 0), (.tmp 7, .ptr 7 0), (.tmp 8, .val .str), (.tmp 9, .val (.int .i64)), (.tmp 10, .val (.int .i64)), (.tmp 11, .val (.int .i64)), (.tmp 12, .val (.int .i64)), (.tmp 14, .ptr 14 0), (.cell 3 0, .val (.int .u32)), (.cell 3 1, .val .str), (.cell 7 0, .val (.int .u32)), (.cell 7 1, .val .str), (.cell 7 2, .val (.int .i64)), (.cell 7 3, .val .str), (.cell 7 4, .val (.int .u64)), (.cell 7 5, .val .str), (.cell 7 6, .val (.int .i64)), (.cell 7 7, .val (.int .i64)), (.cell 14 0, .val (.int .u32)), (.cell 14 1, .val .str), (.cell 14 2, .val (.int .i64)), (.cell 14 3, .val .str), (.cell 14 4, .val (.int .u64)), (.cell 14 5, .val .str), (.cell 14 6, .val (.int .i64)), (.cell 14 7, .val (.int .i64)), (.cell 14 8, .val (.slice (.st (.cons (.int .i64) (.cons .str (.cons (.int .u64) (.cons (.int .u32) (.cons .str (.cons .str .nil))))))))), (.cell 14 9, .val (.slice (.st (.cons (.int .i64) (.cons .str (.cons (.int .u64) (.cons (.int .u32) (.cons .str (.cons .str .nil))))))))), (.cell 14 10, .val (.int .i64)), (.cell 14 11, .val .bool)], [(3, 2), (7, 8), (14, 12)]⟩), (.ret, ⟨[(.tmp 6, .val .bool)], []⟩)]
noncomputable def F10_18 (k : Nat) : Nat → m10_18.den → Option (denE x10_18)
  | 0, _ => none
  | j + 1, v => round TI (O9 k) (L10_18 k) b10_18 m10_18 x10_18 (F10_18 k j) v
theorem lk10_18_ (k : Nat) : LinksOK Tryd.prog 152 (L10_18 k) b10_18 := (And.intro (And.intro True.intro (And.intro True.intro True.intro)) (And.intro (And.intro True.intro (And.intro (And.intro True.intro (And.intro True.intro True.intro)) (And.intro (And.intro True.intro (And.intro (And.intro True.intro True.intro) True.intro)) True.intro))) True.intro))
noncomputable def L10_26 (k : Nat) : LOrc := fun _ _ _ _ => none
noncomputable def b10_26 : Code := (findLoop 26 c10).getD .skip
noncomputable def m10_26 : Msk := ⟨[(.tmp 1, .val (.slice (.st (.cons (.int .i64) (.cons (.st (.cons (.int .i64) (.cons .str (.cons (.int .u64) (.cons (.int .u32) (.cons .str (.cons .str .nil))))))) .nil))))), (.tmp 2, .val (.int .i64)), (.tmp 3, .ptr 3 0), (.tmp 7, .ptr 7 0), (.tmp 8, .val .str), (.tmp 9, .val (.int .i64)), (.tmp 10, .val (.int .i64)), (.tmp 11, .val (.int .i64)), (.tmp 12, .val (.int .i64)), (.tmp 14, .ptr 14 0), (.tmp 18, .val (.int .i64)), (.cell 3 0, .val (.int .u32)), (.cell 3 1, .val .str), (.cell 7 0, .val (.int .u32)), (.cell 7 1, .val .str), (.cell 7 2, .val (.int .i64)), (.cell 7 3, .val .str), (.cell 7 4, .val (.int .u64)), (.cell 7 5, .val .str), (.cell 7 6, .val (.int .i64)), (.cell 7 7, .val (.int .i64)), (.cell 14 0, .val (.int .u32)), (.cell 14 1, .val .str), (.cell 14 2, .val (.int .i64)), (.cell 14 3, .val .str), (.cell 14 4, .val (.int .u64)), (.cell 14 5, .val .str), (.cell 14 6, .val (.int .i64)), (.cell 14 7, .val (.int .i64)), (.cell 14 8, .val (.slice (.st (.cons (.int .i64) (.cons .str (.cons (.int .u64) (.cons (.int .u32) (.cons .str (.cons .str .nil))))))))), (.cell 14 9, .val (.slice (.st (.cons (.int .i64) (.cons .str (.cons (.int .u64) (.cons (.int .u32) (.cons .str (.cons .str .nil))))))))), (.cell 14 10, .val (.int .i64)), (.cell 14 11, .val .bool)], [(3, 2), (7, 8), (14, 12)]⟩
noncomputable def x10_26 : List (X × Msk) := [(.exit 4, ⟨[(.tmp 1, .val (.slice (.st (.cons (.int .i64) (.cons (.st (.cons (.int .i64) (.cons .str (.cons (.int .u64) (.cons (.int .u32) (.cons .str (.cons .str .nil))))))) .nil))))), (.tmp 2, .val (.int .i64)), (.tmp 3, .ptr 3 0), (.tmp 7, .ptr 7 0), (.tmp 8, .val .str), (.tmp 9, .val (.int .i64)), (.tmp 10, .val (.int .i64)), (.tmp 11, .val (.int .i64)), (.tmp 12, .val (.int .i64)), (.tmp 14, .ptr 14 0), (.cell 3 0, .val (.int .u32)), (.cell 3 1, .val .str), (.cell 7 0, .val (.int .u32)), (.cell 7 1, .val .str), (.cell 7 2, .val (.int .i64)), (.cell 7 3, .val .str), (.cell 7 4, .val (.int .u64)), (.cell 7 5, .val .str), (.cell 7 6, .val (.int .i64)), (.cell 7 7, .val (.int .i64)), (.cell 14 0, .val (.int .u32)), (.cell 14 1, .val .str), (.cell 14 2, .val (.int .i64)), (.cell 14 3, .val .str), (.cell 14 4, .val (.int .u64)), (.cell 14 5, .val .str), (.cell 14 6, .val (.int .i64)), (.cell 14 7, .val (.int .i64)), (.cell 14 8, .val (.slice (.st (.cons (.int .i64) (.cons .str (.cons (.int .u64) (.cons (.int .u32) (.cons .str (.cons .str .nil))))))))), (.cell 14 9, .val (.slice (.st (.cons (.int .i64) (.cons .str (.cons (.int .u64) (.cons (.int .u32) (.cons .str (.cons .str .nil))))))))), (.cell 14 10, .val (.int .i64)), (.cell 14 11, .val .bool)], [(3, 2), (7, 8), (14, 12)]⟩)]
noncomputable def F10_26 (k : Nat) : Nat → m10_26.den → Option (denE x10_26)
  | 0, _ => none
  | j + 1, v => round TI (O9 k) (L10_26 k) b10_26 m10_26 x10_26 (F10_26 k j) v
theorem lk10_26_ (k : Nat) : LinksOK Tryd.prog 152 (L10_26 k) b10_26 := (And.intro (And.intro True.intro (And.intro True.intro True.intro)) (And.intro (And.intro True.intro (And.intro True.intro (And.intro True.intro (And.intro True.intro (And.intro True.intro (And.intro True.intro (And.intro True.intro True.intro))))))) True.intro))
noncomputable def L10_9 (k : Nat) : LOrc := fun R lk s K => match lk with
  | .loop r => bif Nat.beq r 18 then link m10_18 x10_18 (F10_18 k k) s K else bif Nat.beq r 26 then link m10_26 x10_26 (F10_26 k k) s K else none
  | .label l => none
theorem lk_L10_9_18 (k : Nat) : LoopOK Tryd.prog 152 (L10_9 k) b10_18 := loopOK_of hm hT (ok_O9 k) (fun _ _ _ h => h) rfl (lk10_18_ k) rfl rfl (F := F10_18 k) (fun _ => rfl) (fun _ _ => rfl) (n := k) fun _ _ _ => rfl
theorem lk_L10_9_26 (k : Nat) : LoopOK Tryd.prog 152 (L10_9 k) b10_26 := loopOK_of hm hT (ok_O9 k) (fun _ _ _ h => h) rfl (lk10_26_ k) rfl rfl (F := F10_26 k) (fun _ => rfl) (fun _ _ => rfl) (n := k) fun _ _ _ => rfl
noncomputable def b10_9 : Code := (findLoop 9 c10).getD .skip
noncomputable def m10_9 : Msk := ⟨[(.tmp 1, .val (.slice (.st (.cons (.int .i64) (.cons (.st (.cons (.int .i64) (.cons .str (.cons (.int .u64) (.cons (.int .u32) (.cons .str (.cons .str .nil))))))) .nil))))), (.tmp 2, .val (.int .i64)), (.tmp 3, .ptr 3 0), (.tmp 7, .ptr 7 0), (.tmp 8, .val .str), (.tmp 9, .val (.int .i64)), (.tmp 10, .val (.int .i64)), (.tmp 11, .val (.int .i64)), (.tmp 12, .val (.int .i64)), (.cell 3 0, .val (.int .u32)), (.cell 3 1, .val .str), (.cell 7 0, .val (.int .u32)), (.cell 7 1, .val .str), (.cell 7 2, .val (.int .i64)), (.cell 7 3, .val .str), (.cell 7 4, .val (.int .u64)), (.cell 7 5, .val .str), (.cell 7 6, .val (.int .i64)), (.cell 7 7, .val (.int .i64))], [(3, 2), (7, 8)]⟩
noncomputable def x10_9 : List (X × Msk) := [(.exit 0, ⟨[(.tmp 2, .val (.int .i64)), (.tmp 9, .val (.int .i64)), (.tmp 10, .val (.int .i64)), (.tmp 11, .val (.int .i64))], []⟩), (.ret, ⟨[(.tmp 6, .val .bool)], []⟩)]
noncomputable def F10_9 (k : Nat) : Nat → m10_9.den → Option (denE x10_9)
  | 0, _ => none
  | j + 1, v => round TI (O9 k) (L10_9 k) b10_9 m10_9 x10_9 (F10_9 k j) v
theorem lk10_9_ (k : Nat) : LinksOK Tryd.prog 152 (L10_9 k) b10_9 := (And.intro (And.intro True.intro (And.intro True.intro True.intro)) (And.intro (And.intro True.intro (And.intro (And.intro True.intro (And.intro (And.intro True.intro True.intro) True.intro)) (And.intro True.intro (And.intro True.intro (And.intro (And.intro True.intro (And.intro True.intro True.intro)) (And.intro (And.intro True.intro (lk_L10_9_18 k)) (And.intro (And.intro True.intro (lk_L10_9_26 k)) (And.intro (And.intro True.intro (And.intro (And.intro True.intro True.intro) True.intro)) True.intro)))))))) True.intro))
noncomputable def L10 (k : Nat) : LOrc := fun R lk s K => match lk with
  | .loop r => bif Nat.beq r 9 then link m10_9 x10_9 (F10_9 k k) s K else none
  | .label l => none
theorem lk_L10_9 (k : Nat) : LoopOK Tryd.prog 152 (L10 k) b10_9 := loopOK_of hm hT (ok_O9 k) (fun _ _ _ h => h) rfl (lk10_9_ k) rfl rfl (F := F10_9 k) (fun _ => rfl) (fun _ _ => rfl) (n := k) fun _ _ _ => rfl
noncomputable def F10 (k : Nat) (v : mi10.den) : Option mo10.den := runF TI (O9 k) (L10 k) c10 mi10 mo10 v
theorem lk10 (k : Nat) : LinksOK Tryd.prog 152 (L10 k) c10 := (And.intro True.intro (And.intro (And.intro True.intro (And.intro (And.intro True.intro True.intro) True.intro)) (And.intro (And.intro True.intro (And.intro (And.intro True.intro True.intro) True.intro)) (And.intro True.intro (And.intro True.intro (And.intro True.intro (And.intro (And.intro True.intro (lk_L10_9 k)) (And.intro True.intro True.intro))))))))
theorem fn10 (k : Nat) (args : List AV) (x : mi10.den) (r : mo10.den) (h1 : args.length = mi10.items.length) (h2 : mi10.dec (Th.start args) = some x) (h3 : F10 k x = some r) : CallOK Tryd.prog 10 args (ansOf (outL mo10.items r)) :=
  call_of hm hT (ok_O9 k) (fn := Tryd.f10) (c := c10) Tryd.func10 rfl rfl rfl (lk10 k) rfl (by decide) rfl h1 h2 h3
noncomputable def O10 (k : Nat) : Orc := fun R f args K => bif Nat.beq f 10 then callF mi10 mo10 (F10 k) args K else O9 k R f args K
theorem ok_O10 (k : Nat) : OrcOK (O10 k) (CallOK Tryd.prog) := orc_add (fn10 k) (ok_O9 k)

/-! 11: paydesk/paydesklaw12.CoreRests -/
noncomputable def c11 : Code := Tryd.f11.body.getD .skip
noncomputable def mi11 : Msk := ⟨[(.tmp 0, .val (.st (.cons (.st (.cons (.int .u32) (.cons .str .nil))) (.cons (.int .i64) (.cons .str (.cons (.int .u64) (.cons .str (.cons (.int .i64) (.cons (.int .i64) .nil))))))))), (.tmp 1, .val (.st (.cons (.int .i64) (.cons (.st (.cons (.int .i64) (.cons .str (.cons (.int .u64) (.cons (.int .u32) (.cons .str (.cons .str .nil))))))) .nil)))), (.tmp 2, .val (.int .i64))], []⟩
noncomputable def mo11 : Msk := ⟨[(.tmp 6, .val .bool)], []⟩
noncomputable def L11 (k : Nat) : LOrc := fun _ _ _ _ => none
noncomputable def F11 (k : Nat) (v : mi11.den) : Option mo11.den := runF TI (O10 k) (L11 k) c11 mi11 mo11 v
theorem lk11 (k : Nat) : LinksOK Tryd.prog 73 (L11 k) c11 := (And.intro True.intro (And.intro (And.intro True.intro (And.intro (And.intro True.intro True.intro) True.intro)) (And.intro (And.intro True.intro (And.intro (And.intro True.intro True.intro) True.intro)) (And.intro True.intro (And.intro (And.intro True.intro (And.intro (And.intro True.intro True.intro) True.intro)) (And.intro (And.intro True.intro (And.intro (And.intro True.intro True.intro) True.intro)) (And.intro True.intro True.intro)))))))
theorem fn11 (k : Nat) (args : List AV) (x : mi11.den) (r : mo11.den) (h1 : args.length = mi11.items.length) (h2 : mi11.dec (Th.start args) = some x) (h3 : F11 k x = some r) : CallOK Tryd.prog 11 args (ansOf (outL mo11.items r)) :=
  call_of hm hT (ok_O10 k) (fn := Tryd.f11) (c := c11) Tryd.func11 rfl rfl rfl (lk11 k) rfl (by decide) rfl h1 h2 h3
noncomputable def O11 (k : Nat) : Orc := fun R f args K => bif Nat.beq f 11 then callF mi11 mo11 (F11 k) args K else O10 k R f args K
theorem ok_O11 (k : Nat) : OrcOK (O11 k) (CallOK Tryd.prog) := orc_add (fn11 k) (ok_O10 k)

end Go.Proofs.YtjgnpmdbkgeakaaDoor.G
