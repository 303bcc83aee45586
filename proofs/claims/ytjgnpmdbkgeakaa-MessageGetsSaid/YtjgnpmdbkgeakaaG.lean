/- functions -/
import Derived.Test.YtjgnpmdbkgeakaaThU
import Derived.Test.YtjgnpmdbkgeakaaSigns
import Derived.Test.YtjgnpmdbkgeakaaGrow57
import Derived.Test.YtjgnpmdbkgeakaaProg
import Derived.KernelRfl
set_option linter.unusedVariables false
set_option linter.unusedSimpArgs false
namespace Go.Proofs.Ytjgnpmdbkgeakaa.G
open Go Go.Proofs.Ytjgnpmdbkgeakaa.Th
def til : List (Nat × TInfo) := [
  (3, ⟨.int .i64, 1, 8, (.int .i64), [.int .i64 0], [], [], true, false, [], []⟩),
  (4, ⟨.bool, 1, 1, .bool, [.bool false], [], [], true, false, [], []⟩),
  (5, ⟨.int .u8, 1, 1, (.int .u8), [.int .u8 0], [], [], true, false, [], []⟩),
  (9, ⟨.str, 1, 16, .str, [.str []], [], [], true, false, [], []⟩),
  (22, ⟨.slice 5, 1, 24, (.slice (.int .u8)), [.nilsl], [], [], true, false, [], []⟩),
  (25, ⟨.struct, 3, 24, (.st (.cons (.int .i64) (.cons (.int .i64) (.cons (.int .i64) .nil)))), [.int .i64 0, .int .i64 0, .int .i64 0], [(0, 3), (1, 3), (2, 3)], [1, 1, 1], true, true, [], []⟩),
  (28, ⟨.int .i64, 1, 8, (.int .i64), [.int .i64 0], [], [], true, false, [], []⟩),
  (38, ⟨.int .u16, 1, 2, (.int .u16), [.int .u16 0], [], [], true, false, [], []⟩),
  (40, ⟨.slice 56, 1, 24, (.slice (.st (.cons (.int .i64) (.cons .str .nil)))), [.nilsl], [], [], true, false, [], []⟩),
  (42, ⟨.struct, 2, 40, (.st (.cons .str (.cons (.slice (.st (.cons (.int .i64) (.cons .str .nil)))) .nil))), [.str [], .nilsl], [(0, 9), (1, 40)], [1, 1], true, false, [], []⟩),
  (56, ⟨.struct, 2, 24, (.st (.cons (.int .i64) (.cons .str .nil))), [.int .i64 0, .str []], [(0, 3), (1, 9)], [1, 1], true, true, [], []⟩),
  (58, ⟨.slice 25, 1, 24, (.slice (.st (.cons (.int .i64) (.cons (.int .i64) (.cons (.int .i64) .nil))))), [.nilsl], [], [], true, false, [], []⟩),
  (59, ⟨.slice 3, 1, 24, (.slice (.int .i64)), [.nilsl], [], [], true, false, [], []⟩),
  (67, ⟨.int .u64, 1, 8, (.int .u64), [.int .u64 0], [], [], true, false, [], []⟩),
  (78, ⟨.struct, 2, 16, (.st (.cons (.int .u64) (.cons (.int .u64) .nil))), [.int .u64 0, .int .u64 0], [(0, 67), (1, 67)], [1, 1], true, true, [], []⟩),
  (94, ⟨.struct, 2, 16, (.st (.cons (.int .i64) (.cons (.int .i64) .nil))), [.int .i64 0, .int .i64 0], [(0, 3), (1, 3)], [1, 1], true, true, [("paydesk/field.ahead", 86), ("paydesk/field.sized", 87)], []⟩),
  (96, ⟨.struct, 1, 8, (.st (.cons (.int .i64) .nil)), [.int .i64 0], [(0, 3)], [1], true, true, [("paydesk/field.ahead", 88), ("paydesk/field.sized", 89)], []⟩),
  (101, ⟨.slice 9, 1, 24, (.slice .str), [.nilsl], [], [], true, false, [], []⟩),
  (105, ⟨.slice 22, 1, 24, (.slice (.slice (.int .u8))), [.nilsl], [], [], true, false, [], []⟩)
]
noncomputable def TI : TEnv := tiOf til
theorem hT : TIok Try.prog TI := TIok.of (by kernel_rfl)
theorem hm : Try.prog.follows .mixedOrders = true := rfl
noncomputable def O_0 (_ : Nat) : Orc := fun _ _ _ _ => none
theorem ok_O_0 (k : Nat) : OrcOK (O_0 k) (CallOK Try.prog) := orc_none
/-! 10: paydesk/field.Def -/
noncomputable def c10 : Code := Try.f10.body.getD .skip
noncomputable def mi10 : Msk := ⟨[(.tmp 0, .val (.int .i64))], []⟩
noncomputable def mo10 : Msk := ⟨[(.res 2, .val (.st (.cons (.int .i64) (.cons (.int .i64) (.cons (.int .i64) .nil))))), (.tmp 3, .val .bool)], []⟩
noncomputable def L10_2 (k : Nat) : LOrc := fun _ _ _ _ => none
noncomputable def b10_2 : Code := (findLoop 2 c10).getD .skip
noncomputable def m10_2 : Msk := ⟨[(.tmp 0, .val (.int .i64)), (.tmp 2, .ptr 2 0), (.tmp 21, .row false (.st (.cons (.int .i64) (.cons (.int .i64) (.cons (.int .i64) .nil))))), (.tmp 22, .val (.int .i64)), (.tmp 23, .val (.int .i64)), (.cell 2 0, .val (.int .i64)), (.cell 2 1, .val (.int .i64)), (.cell 2 2, .val (.int .i64))], [(2, 3)]⟩
noncomputable def x10_2 : List (X × Msk) := [(.exit 0, ⟨[(.tmp 2, .ptr 2 0), (.cell 2 0, .val (.int .i64)), (.cell 2 1, .val (.int .i64)), (.cell 2 2, .val (.int .i64))], [(2, 3)]⟩), (.ret, ⟨[(.tmp 2, .ptr 2 0), (.tmp 3, .val .bool), (.cell 2 0, .val (.int .i64)), (.cell 2 1, .val (.int .i64)), (.cell 2 2, .val (.int .i64))], [(2, 3)]⟩)]
noncomputable def F10_2 (k : Nat) : Nat → m10_2.den → Option (denE x10_2)
  | 0, _ => none
  | j + 1, v => round TI (O_0 k) (L10_2 k) b10_2 m10_2 x10_2 (F10_2 k j) v
theorem lk10_2_ (k : Nat) : LinksOK Try.prog 34 (L10_2 k) b10_2 := (And.intro True.intro (And.intro (And.intro True.intro True.intro) (And.intro (And.intro True.intro (And.intro True.intro (And.intro (And.intro True.intro True.intro) True.intro))) True.intro)))
noncomputable def L10 (k : Nat) : LOrc := fun R lk s K => match lk with
  | .loop r => bif Nat.beq r 2 then link m10_2 x10_2 (F10_2 k k) s K else none
  | .label l => none
theorem lk_L10_2 (k : Nat) : LoopOK Try.prog 34 (L10 k) b10_2 := loopOK_of hm hT (ok_O_0 k) (fun _ _ _ h => h) rfl (lk10_2_ k) rfl rfl (F := F10_2 k) (fun _ => rfl) (fun _ _ => rfl) (n := k) fun _ _ _ => rfl
noncomputable def F10 (k : Nat) (v : mi10.den) : Option mo10.den := runF TI (O_0 k) (L10 k) c10 mi10 mo10 v
theorem lk10 (k : Nat) : LinksOK Try.prog 34 (L10 k) c10 := (And.intro True.intro (And.intro (And.intro True.intro (lk_L10_2 k)) (And.intro True.intro True.intro)))
theorem fn10 (k : Nat) (args : List AV) (x : mi10.den) (r : mo10.den) (h1 : args.length = mi10.items.length) (h2 : mi10.dec (Th.start args) = some x) (h3 : F10 k x = some r) : CallOK Try.prog 10 args (ansOf (outL mo10.items r)) :=
  call_of hm hT (ok_O_0 k) (fn := Try.f10) (c := c10) Try.func10 rfl rfl rfl (lk10 k) rfl (by decide) rfl h1 h2 h3
noncomputable def O10 (k : Nat) : Orc := fun R f args K => bif Nat.beq f 10 then callF mi10 mo10 (F10 k) args K else O_0 k R f args K
theorem ok_O10 (k : Nat) : OrcOK (O10 k) (CallOK Try.prog) := orc_add (fn10 k) (ok_O_0 k)

/-! 30: paydesk/field.formOf -/
noncomputable def c30 : Code := Try.f30.body.getD .skip
noncomputable def mi30 : Msk := ⟨[(.tmp 0, .val (.st (.cons (.int .i64) (.cons (.int .i64) (.cons (.int .i64) .nil)))))], []⟩
noncomputable def mo30 : List Msk := [⟨[(.tmp 2, .val (.ifc 94 (.st (.cons (.int .i64) (.cons (.int .i64) .nil)))))], []⟩, ⟨[(.tmp 2, .val (.ifc 96 (.st (.cons (.int .i64) .nil))))], []⟩]
noncomputable def L30 (k : Nat) : LOrc := fun _ _ _ _ => none
noncomputable def F30 (k : Nat) (v : mi30.den) : Option (denA mo30) := runA TI (O10 k) (L30 k) c30 mi30 mo30 v
theorem lk30 (k : Nat) : LinksOK Try.prog 22 (L30 k) c30 := (And.intro True.intro (And.intro (And.intro True.intro (And.intro (And.intro True.intro (And.intro True.intro True.intro)) (And.intro (And.intro True.intro True.intro) (And.intro True.intro (And.intro (And.intro True.intro True.intro) True.intro))))) (And.intro True.intro True.intro)))
theorem fn30 (k : Nat) (args : List AV) (x : mi30.den) (r : (denA mo30)) (h1 : args.length = mi30.items.length) (h2 : mi30.dec (Th.start args) = some x) (h3 : F30 k x = some r) : CallOK Try.prog 30 args (valA mo30 r) :=
  call_ofA hm hT (ok_O10 k) (fn := Try.f30) (c := c30) Try.func30 rfl rfl rfl (lk30 k) rfl (by decide) rfl h1 h2 h3
noncomputable def O30 (k : Nat) : Orc := fun R f args K => bif Nat.beq f 30 then callA mi30 mo30 (F30 k) args K else O10 k R f args K
theorem ok_O30 (k : Nat) : OrcOK (O30 k) (CallOK Try.prog) := orc_addA (fn30 k) (ok_O10 k)

/-! 87: (paydesk/field.loose).sized -/
noncomputable def c87 : Code := Try.f87.body.getD .skip
noncomputable def mi87 : Msk := ⟨[(.tmp 0, .val (.st (.cons (.int .i64) (.cons (.int .i64) .nil)))), (.tmp 1, .val (.int .i64))], []⟩
noncomputable def mo87 : Msk := ⟨[(.tmp 4, .val .bool)], []⟩
noncomputable def L87 (k : Nat) : LOrc := fun _ _ _ _ => none
noncomputable def F87 (k : Nat) (v : mi87.den) : Option mo87.den := runF TI (O30 k) (L87 k) c87 mi87 mo87 v
theorem lk87 (k : Nat) : LinksOK Try.prog 13 (L87 k) c87 := (And.intro True.intro (And.intro True.intro True.intro))
theorem fn87 (k : Nat) (args : List AV) (x : mi87.den) (r : mo87.den) (h1 : args.length = mi87.items.length) (h2 : mi87.dec (Th.start args) = some x) (h3 : F87 k x = some r) : CallOK Try.prog 87 args (ansOf (outL mo87.items r)) :=
  call_of hm hT (ok_O30 k) (fn := Try.f87) (c := c87) Try.func87 rfl rfl rfl (lk87 k) rfl (by decide) rfl h1 h2 h3
noncomputable def O87 (k : Nat) : Orc := fun R f args K => bif Nat.beq f 87 then callF mi87 mo87 (F87 k) args K else O30 k R f args K
theorem ok_O87 (k : Nat) : OrcOK (O87 k) (CallOK Try.prog) := orc_add (fn87 k) (ok_O30 k)

/-! 89: (paydesk/field.fixed).sized -/
noncomputable def c89 : Code := Try.f89.body.getD .skip
noncomputable def mi89 : Msk := ⟨[(.tmp 0, .val (.st (.cons (.int .i64) .nil))), (.tmp 1, .val (.int .i64))], []⟩
noncomputable def mo89 : Msk := ⟨[(.tmp 4, .val .bool)], []⟩
noncomputable def L89 (k : Nat) : LOrc := fun _ _ _ _ => none
noncomputable def F89 (k : Nat) (v : mi89.den) : Option mo89.den := runF TI (O87 k) (L89 k) c89 mi89 mo89 v
theorem lk89 (k : Nat) : LinksOK Try.prog 9 (L89 k) c89 := (And.intro True.intro (And.intro True.intro True.intro))
theorem fn89 (k : Nat) (args : List AV) (x : mi89.den) (r : mo89.den) (h1 : args.length = mi89.items.length) (h2 : mi89.dec (Th.start args) = some x) (h3 : F89 k x = some r) : CallOK Try.prog 89 args (ansOf (outL mo89.items r)) :=
  call_of hm hT (ok_O87 k) (fn := Try.f89) (c := c89) Try.func89 rfl rfl rfl (lk89 k) rfl (by decide) rfl h1 h2 h3
noncomputable def O89 (k : Nat) : Orc := fun R f args K => bif Nat.beq f 89 then callF mi89 mo89 (F89 k) args K else O87 k R f args K
theorem ok_O89 (k : Nat) : OrcOK (O89 k) (CallOK Try.prog) := orc_add (fn89 k) (ok_O87 k)

/-! 50: paydesk/digit.Is -/
noncomputable def c50 : Code := Try.f50.body.getD .skip
noncomputable def mi50 : Msk := ⟨[(.tmp 0, .val .str)], []⟩
noncomputable def mo50 : Msk := ⟨[(.tmp 2, .val .bool)], []⟩
noncomputable def L50_g0 (k : Nat) : LOrc := fun _ _ _ _ => none
noncomputable def b50_g0 : Code := (findScope 0 c50).getD .skip
noncomputable def l50_g0 : List (X × Msk) := [(.goto 0, ⟨[(.tmp 0, .val .str), (.tmp 3, .val (.int .i64))], []⟩)]
noncomputable def x50_g0 : List (X × Msk) := [(.ret, ⟨[(.tmp 2, .val .bool)], []⟩)]
noncomputable def F50_g0 (k : Nat) : Nat → denE l50_g0 → Option (denE x50_g0)
  | 0, _ => none
  | j + 1, v => pass TI (O89 k) (L50_g0 k) b50_g0 l50_g0 x50_g0 (F50_g0 k j) v
theorem lk50_g0_ (k : Nat) : LinksOK Try.prog 22 (L50_g0 k) b50_g0 := (And.intro True.intro (And.intro True.intro (And.intro (And.intro True.intro (And.intro (And.intro True.intro True.intro) True.intro)) (And.intro (And.intro True.intro (And.intro (And.intro True.intro True.intro) True.intro)) (And.intro True.intro True.intro)))))
noncomputable def L50 (k : Nat) : LOrc := fun R lk s K => match lk with
  | .loop r => none
  | .label l => (match findLabel b50_g0 l with | some _ => linkJ l50_g0 x50_g0 (F50_g0 k k) l s K | none => none)
theorem lk_L50_g0 (k : Nat) : JumpsOK Try.prog 22 (L50 k) b50_g0 := jumpsOK_of hm hT (ok_O89 k) (fun _ _ _ h => h) rfl (lk50_g0_ k) rfl rfl (F := F50_g0 k) (fun _ => rfl) (fun _ _ => rfl) (n := k) fun R l s K rest hf => by
  show (match findLabel b50_g0 l with | some _ => linkJ l50_g0 x50_g0 (F50_g0 k k) l s K | none => none) = _
  rw [hf]
noncomputable def F50 (k : Nat) (v : mi50.den) : Option mo50.den := runF TI (O89 k) (L50 k) c50 mi50 mo50 v
theorem lk50 (k : Nat) : LinksOK Try.prog 22 (L50 k) c50 := (And.intro True.intro (And.intro (lk_L50_g0 k) (And.intro True.intro (And.intro True.intro (And.intro (And.intro True.intro (And.intro (And.intro True.intro True.intro) True.intro)) (And.intro (And.intro True.intro (And.intro (And.intro True.intro True.intro) True.intro)) (And.intro True.intro True.intro)))))))
theorem fn50 (k : Nat) (args : List AV) (x : mi50.den) (r : mo50.den) (h1 : args.length = mi50.items.length) (h2 : mi50.dec (Th.start args) = some x) (h3 : F50 k x = some r) : CallOK Try.prog 50 args (ansOf (outL mo50.items r)) :=
  call_of hm hT (ok_O89 k) (fn := Try.f50) (c := c50) Try.func50 rfl rfl rfl (lk50 k) rfl (by decide) rfl h1 h2 h3
noncomputable def O50 (k : Nat) : Orc := fun R f args K => bif Nat.beq f 50 then callF mi50 mo50 (F50 k) args K else O89 k R f args K
theorem ok_O50 (k : Nat) : OrcOK (O50 k) (CallOK Try.prog) := orc_add (fn50 k) (ok_O89 k)

/-! 33: paydesk/field.signs (walked by hand) -/
noncomputable def F33 (k : Nat) (v : (Int × Int × Int × Unit) × List UInt8 × Unit) : Option (Bool × Unit) := sel (decide (v.2.1.length ≤ 9223372036854775807)) (ocall (α := Bool × Unit) (F50 k ((v.2.1, ()) : List UInt8 × Unit)) fun r => some (Signs.signsOf v.1.2.1 r.1 v.2.1, ())) none
noncomputable def O33 (k : Nat) : Orc := fun R f args K => bif Nat.beq f 33 then (match args with | [.agg [.int .i64 a, .int .i64 b, .int .i64 c], .str s] => ocall (F33 k ((a, b, c, ()), s, ())) fun r => K (.bool r.1) | _ => none) else O50 k R f args K
theorem ok_O33 (k : Nat) : OrcOK (O33 k) (CallOK Try.prog) := by
  intro R f args K r h
  unfold O33 at h
  cases hb : Nat.beq f 33 with
  | false => rw [hb] at h; exact ok_O50 k R f args K r h
  | true =>
    rw [hb] at h
    rw [Nat.eq_of_beq_eq_true hb]
    simp only [cond_true] at h
    split at h
    · rename_i a b c s
      obtain ⟨y, hy, h⟩ := obind_some h
      unfold F33 at hy
      by_cases hl : s.length ≤ 9223372036854775807
      · rw [sel_pos hl] at hy
        obtain ⟨d, hd, hy⟩ := obind_some hy
        cases hy
        exact ⟨_, Signs.fn33 a b c s hl d.1 (fn50 k [.str s] ((s, ()) : List UInt8 × Unit) d rfl rfl hd), h⟩
      · rw [sel_neg hl] at hy; cases hy
    · cases h

/-! 14: paydesk/field.Right -/
noncomputable def c14 : Code := Try.f14.body.getD .skip
noncomputable def mi14 : Msk := ⟨[(.tmp 0, .val (.int .i64)), (.tmp 1, .val .str)], []⟩
noncomputable def mo14 : Msk := ⟨[(.tmp 4, .val .bool)], []⟩
noncomputable def L14 (k : Nat) : LOrc := fun _ _ _ _ => none
noncomputable def F14 (k : Nat) (v : mi14.den) : Option mo14.den := runF TI (O33 k) (L14 k) c14 mi14 mo14 v
theorem lk14 (k : Nat) : LinksOK Try.prog 25 (L14 k) c14 := (And.intro True.intro (And.intro True.intro (And.intro True.intro True.intro)))
theorem fn14 (k : Nat) (args : List AV) (x : mi14.den) (r : mo14.den) (h1 : args.length = mi14.items.length) (h2 : mi14.dec (Th.start args) = some x) (h3 : F14 k x = some r) : CallOK Try.prog 14 args (ansOf (outL mo14.items r)) :=
  call_of hm hT (ok_O33 k) (fn := Try.f14) (c := c14) Try.func14 rfl rfl rfl (lk14 k) rfl (by decide) rfl h1 h2 h3
noncomputable def O14 (k : Nat) : Orc := fun R f args K => bif Nat.beq f 14 then callF mi14 mo14 (F14 k) args K else O33 k R f args K
theorem ok_O14 (k : Nat) : OrcOK (O14 k) (CallOK Try.prog) := orc_add (fn14 k) (ok_O33 k)

/-! 49: paydesk/message.known -/
noncomputable def c49 : Code := Try.f49.body.getD .skip
noncomputable def mi49 : Msk := ⟨[(.tmp 0, .val .str)], []⟩
noncomputable def mo49 : Msk := ⟨[(.tmp 2, .val .bool)], []⟩
noncomputable def L49 (k : Nat) : LOrc := fun _ _ _ _ => none
noncomputable def F49 (k : Nat) (v : mi49.den) : Option mo49.den := runF TI (O14 k) (L49 k) c49 mi49 mo49 v
theorem lk49 (k : Nat) : LinksOK Try.prog 12 (L49 k) c49 := (And.intro True.intro (And.intro (And.intro True.intro (And.intro (And.intro True.intro (And.intro True.intro (And.intro True.intro (And.intro True.intro (And.intro True.intro (And.intro True.intro (And.intro True.intro (And.intro True.intro (And.intro True.intro (And.intro True.intro (And.intro True.intro (And.intro True.intro True.intro)))))))))))) (And.intro (And.intro True.intro True.intro) True.intro))) (And.intro True.intro True.intro)))
theorem fn49 (k : Nat) (args : List AV) (x : mi49.den) (r : mo49.den) (h1 : args.length = mi49.items.length) (h2 : mi49.dec (Th.start args) = some x) (h3 : F49 k x = some r) : CallOK Try.prog 49 args (ansOf (outL mo49.items r)) :=
  call_of hm hT (ok_O14 k) (fn := Try.f49) (c := c49) Try.func49 rfl rfl rfl (lk49 k) rfl (by decide) rfl h1 h2 h3
noncomputable def O49 (k : Nat) : Orc := fun R f args K => bif Nat.beq f 49 then callF mi49 mo49 (F49 k) args K else O14 k R f args K
theorem ok_O49 (k : Nat) : OrcOK (O49 k) (CallOK Try.prog) := orc_add (fn49 k) (ok_O14 k)

/-! 27: paydesk/message.Right -/
noncomputable def c27 : Code := Try.f27.body.getD .skip
noncomputable def mi27 : Msk := ⟨[(.tmp 0, .val (.st (.cons .str (.cons (.slice (.st (.cons (.int .i64) (.cons .str .nil)))) .nil))))], []⟩
noncomputable def mo27 : Msk := ⟨[(.tmp 2, .val .bool)], []⟩
noncomputable def L27_3 (k : Nat) : LOrc := fun _ _ _ _ => none
noncomputable def b27_3 : Code := (findLoop 3 c27).getD .skip
noncomputable def m27_3 : Msk := ⟨[(.tmp 1, .ptr 1 0), (.tmp 3, .val (.int .i64)), (.tmp 7, .val (.slice (.st (.cons (.int .i64) (.cons .str .nil))))), (.tmp 8, .val (.int .i64)), (.tmp 9, .val (.int .i64)), (.cell 1 0, .val .str), (.cell 1 1, .val (.slice (.st (.cons (.int .i64) (.cons .str .nil)))))], [(1, 2)]⟩
noncomputable def x27_3 : List (X × Msk) := [(.exit 0, ⟨[(.tmp 1, .ptr 1 0), (.cell 1 0, .val .str), (.cell 1 1, .val (.slice (.st (.cons (.int .i64) (.cons .str .nil)))))], [(1, 2)]⟩), (.ret, ⟨[(.tmp 2, .val .bool)], []⟩)]
noncomputable def F27_3 (k : Nat) : Nat → m27_3.den → Option (denE x27_3)
  | 0, _ => none
  | j + 1, v => round TI (O49 k) (L27_3 k) b27_3 m27_3 x27_3 (F27_3 k j) v
theorem lk27_3_ (k : Nat) : LinksOK Try.prog 37 (L27_3 k) b27_3 := (And.intro True.intro (And.intro (And.intro True.intro True.intro) (And.intro (And.intro True.intro (And.intro (And.intro True.intro (And.intro (And.intro True.intro True.intro) True.intro)) True.intro)) True.intro)))
noncomputable def L27 (k : Nat) : LOrc := fun R lk s K => match lk with
  | .loop r => bif Nat.beq r 3 then link m27_3 x27_3 (F27_3 k k) s K else none
  | .label l => none
theorem lk_L27_3 (k : Nat) : LoopOK Try.prog 37 (L27 k) b27_3 := loopOK_of hm hT (ok_O49 k) (fun _ _ _ h => h) rfl (lk27_3_ k) rfl rfl (F := F27_3 k) (fun _ => rfl) (fun _ _ => rfl) (n := k) fun _ _ _ => rfl
noncomputable def F27 (k : Nat) (v : mi27.den) : Option mo27.den := runF TI (O49 k) (L27 k) c27 mi27 mo27 v
theorem lk27 (k : Nat) : LinksOK Try.prog 37 (L27 k) c27 := (And.intro True.intro (And.intro True.intro (And.intro (And.intro True.intro (lk_L27_3 k)) (And.intro True.intro True.intro))))
theorem fn27 (k : Nat) (args : List AV) (x : mi27.den) (r : mo27.den) (h1 : args.length = mi27.items.length) (h2 : mi27.dec (Th.start args) = some x) (h3 : F27 k x = some r) : CallOK Try.prog 27 args (ansOf (outL mo27.items r)) :=
  call_of hm hT (ok_O49 k) (fn := Try.f27) (c := c27) Try.func27 rfl rfl rfl (lk27 k) rfl (by decide) rfl h1 h2 h3
noncomputable def O27 (k : Nat) : Orc := fun R f args K => bif Nat.beq f 27 then callF mi27 mo27 (F27 k) args K else O49 k R f args K
theorem ok_O27 (k : Nat) : OrcOK (O27 k) (CallOK Try.prog) := orc_add (fn27 k) (ok_O49 k)

/-! 86: (paydesk/field.loose).ahead -/
noncomputable def c86 : Code := Try.f86.body.getD .skip
noncomputable def mi86 : Msk := ⟨[(.tmp 0, .val (.st (.cons (.int .i64) (.cons (.int .i64) .nil))))], []⟩
noncomputable def mo86 : Msk := ⟨[(.tmp 2, .val (.int .i64))], []⟩
noncomputable def L86 (k : Nat) : LOrc := fun _ _ _ _ => none
noncomputable def F86 (k : Nat) (v : mi86.den) : Option mo86.den := runF TI (O27 k) (L86 k) c86 mi86 mo86 v
theorem lk86 (k : Nat) : LinksOK Try.prog 5 (L86 k) c86 := (And.intro True.intro (And.intro True.intro True.intro))
theorem fn86 (k : Nat) (args : List AV) (x : mi86.den) (r : mo86.den) (h1 : args.length = mi86.items.length) (h2 : mi86.dec (Th.start args) = some x) (h3 : F86 k x = some r) : CallOK Try.prog 86 args (ansOf (outL mo86.items r)) :=
  call_of hm hT (ok_O27 k) (fn := Try.f86) (c := c86) Try.func86 rfl rfl rfl (lk86 k) rfl (by decide) rfl h1 h2 h3
noncomputable def O86 (k : Nat) : Orc := fun R f args K => bif Nat.beq f 86 then callF mi86 mo86 (F86 k) args K else O27 k R f args K
theorem ok_O86 (k : Nat) : OrcOK (O86 k) (CallOK Try.prog) := orc_add (fn86 k) (ok_O27 k)

/-! 88: (paydesk/field.fixed).ahead -/
noncomputable def c88 : Code := Try.f88.body.getD .skip
noncomputable def mi88 : Msk := ⟨[(.tmp 0, .val (.st (.cons (.int .i64) .nil)))], []⟩
noncomputable def mo88 : Msk := ⟨[(.tmp 2, .val (.int .i64))], []⟩
noncomputable def L88 (k : Nat) : LOrc := fun _ _ _ _ => none
noncomputable def F88 (k : Nat) (v : mi88.den) : Option mo88.den := runF TI (O86 k) (L88 k) c88 mi88 mo88 v
theorem lk88 (k : Nat) : LinksOK Try.prog 3 (L88 k) c88 := (And.intro True.intro (And.intro True.intro True.intro))
theorem fn88 (k : Nat) (args : List AV) (x : mi88.den) (r : mo88.den) (h1 : args.length = mi88.items.length) (h2 : mi88.dec (Th.start args) = some x) (h3 : F88 k x = some r) : CallOK Try.prog 88 args (ansOf (outL mo88.items r)) :=
  call_of hm hT (ok_O86 k) (fn := Try.f88) (c := c88) Try.func88 rfl rfl rfl (lk88 k) rfl (by decide) rfl h1 h2 h3
noncomputable def O88 (k : Nat) : Orc := fun R f args K => bif Nat.beq f 88 then callF mi88 mo88 (F88 k) args K else O86 k R f args K
theorem ok_O88 (k : Nat) : OrcOK (O88 k) (CallOK Try.prog) := orc_add (fn88 k) (ok_O86 k)

/-! 31: paydesk/digit.Put -/
noncomputable def c31 : Code := Try.f31.body.getD .skip
noncomputable def mi31 : Msk := ⟨[(.tmp 0, .val (.int .u64)), (.tmp 1, .val (.int .i64))], []⟩
noncomputable def mo31 : Msk := ⟨[(.tmp 4, .val .str), (.tmp 5, .val (.int .i64))], []⟩
noncomputable def L31_5 (k : Nat) : LOrc := fun _ _ _ _ => none
noncomputable def b31_5 : Code := (findLoop 5 c31).getD .skip
noncomputable def m31_5 : Msk := ⟨[(.tmp 0, .val (.int .u64)), (.tmp 6, .row false (.int .u8)), (.tmp 7, .val (.int .i64))], []⟩
noncomputable def x31_5 : List (X × Msk) := [(.exit 0, ⟨[(.tmp 0, .val (.int .u64)), (.tmp 6, .row false (.int .u8))], []⟩)]
noncomputable def F31_5 (k : Nat) : Nat → m31_5.den → Option (denE x31_5)
  | 0, _ => none
  | j + 1, v => round TI (O88 k) (L31_5 k) b31_5 m31_5 x31_5 (F31_5 k j) v
theorem lk31_5_ (k : Nat) : LinksOK Try.prog 35 (L31_5 k) b31_5 := (And.intro (And.intro True.intro (And.intro True.intro True.intro)) (And.intro (And.intro True.intro True.intro) True.intro))
noncomputable def L31 (k : Nat) : LOrc := fun R lk s K => match lk with
  | .loop r => bif Nat.beq r 5 then link m31_5 x31_5 (F31_5 k k) s K else none
  | .label l => none
theorem lk_L31_5 (k : Nat) : LoopOK Try.prog 35 (L31 k) b31_5 := loopOK_of hm hT (ok_O88 k) (fun _ _ _ h => h) rfl (lk31_5_ k) rfl rfl (F := F31_5 k) (fun _ => rfl) (fun _ _ => rfl) (n := k) fun _ _ _ => rfl
noncomputable def F31 (k : Nat) (v : mi31.den) : Option mo31.den := runF TI (O88 k) (L31 k) c31 mi31 mo31 v
theorem lk31 (k : Nat) : LinksOK Try.prog 35 (L31 k) c31 := (And.intro True.intro (And.intro (And.intro True.intro (And.intro (And.intro True.intro True.intro) True.intro)) (And.intro True.intro (And.intro (And.intro True.intro (lk_L31_5 k)) (And.intro (And.intro True.intro (And.intro (And.intro True.intro True.intro) True.intro)) (And.intro True.intro True.intro))))))
theorem fn31 (k : Nat) (args : List AV) (x : mi31.den) (r : mo31.den) (h1 : args.length = mi31.items.length) (h2 : mi31.dec (Th.start args) = some x) (h3 : F31 k x = some r) : CallOK Try.prog 31 args (ansOf (outL mo31.items r)) :=
  call_of hm hT (ok_O88 k) (fn := Try.f31) (c := c31) Try.func31 rfl rfl rfl (lk31 k) rfl (by decide) rfl h1 h2 h3
noncomputable def O31 (k : Nat) : Orc := fun R f args K => bif Nat.beq f 31 then callF mi31 mo31 (F31 k) args K else O88 k R f args K
theorem ok_O31 (k : Nat) : OrcOK (O31 k) (CallOK Try.prog) := orc_add (fn31 k) (ok_O88 k)

/-! 12: paydesk/field.Write -/
noncomputable def c12 : Code := Try.f12.body.getD .skip
noncomputable def mi12 : Msk := ⟨[(.tmp 0, .val (.int .i64)), (.tmp 1, .val .str)], []⟩
noncomputable def mo12 : Msk := ⟨[(.tmp 4, .row false (.int .u8)), (.tmp 5, .val (.int .i64))], []⟩
noncomputable def L12 (k : Nat) : LOrc := fun _ _ _ _ => none
noncomputable def F12 (k : Nat) (v : mi12.den) : Option mo12.den := runF TI (O31 k) (L12 k) c12 mi12 mo12 v
theorem lk12 (k : Nat) : LinksOK Try.prog 42 (L12 k) c12 := (And.intro True.intro (And.intro True.intro (And.intro (And.intro True.intro (And.intro (And.intro True.intro True.intro) (And.intro True.intro (And.intro (And.intro True.intro True.intro) True.intro)))) (And.intro (And.intro True.intro (And.intro True.intro (And.intro (And.intro True.intro True.intro) True.intro))) (And.intro True.intro True.intro)))))
theorem fn12 (k : Nat) (args : List AV) (x : mi12.den) (r : mo12.den) (h1 : args.length = mi12.items.length) (h2 : mi12.dec (Th.start args) = some x) (h3 : F12 k x = some r) : CallOK Try.prog 12 args (ansOf (outL mo12.items r)) :=
  call_of hm hT (ok_O31 k) (fn := Try.f12) (c := c12) Try.func12 rfl rfl rfl (lk12 k) rfl (by decide) rfl h1 h2 h3
noncomputable def O12 (k : Nat) : Orc := fun R f args K => bif Nat.beq f 12 then callF mi12 mo12 (F12 k) args K else O31 k R f args K
theorem ok_O12 (k : Nat) : OrcOK (O12 k) (CallOK Try.prog) := orc_add (fn12 k) (ok_O31 k)

/-! 67: paydesk/bitmap.word -/
noncomputable def c67 : Code := Try.f67.body.getD .skip
noncomputable def mi67 : Msk := ⟨[(.tmp 0, .ptr 900 0), (.tmp 1, .val (.int .i64)), (.cell 900 0, .val (.int .u64)), (.cell 900 1, .val (.int .u64))], [(900, 2)]⟩
noncomputable def mo67 : List Msk := [⟨[(.tmp 4, .ptr 900 0), (.tmp 5, .val (.int .u64)), (.cell 900 0, .val (.int .u64)), (.cell 900 1, .val (.int .u64))], [(900, 2)]⟩, ⟨[(.tmp 4, .ptr 900 1), (.tmp 5, .val (.int .u64)), (.cell 900 0, .val (.int .u64)), (.cell 900 1, .val (.int .u64))], [(900, 2)]⟩]
noncomputable def L67 (k : Nat) : LOrc := fun _ _ _ _ => none
noncomputable def F67 (k : Nat) (v : mi67.den) : Option (denA mo67) := runA TI (O12 k) (L67 k) c67 mi67 mo67 v
theorem lk67 (k : Nat) : LinksOK Try.prog 21 (L67 k) c67 := (And.intro True.intro (And.intro (And.intro True.intro (And.intro (And.intro True.intro True.intro) True.intro)) (And.intro True.intro True.intro)))
theorem fn67 (k : Nat) (vs cs : List AV) (x : mi67.den) (r : denA mo67) (h1 : vs.length = 2) (h2 : mi67.dec (startL vs cs) = some x) (h3 : F67 k x = some r) : CallOK Try.prog 67 (vs ++ [.lent cs]) (valB 2 mo67 r) :=
  call_ofL hm hT (ok_O12 k) (fn := Try.f67) (c := c67) Try.func67 rfl rfl rfl (lk67 k) rfl (by decide) (by decide) rfl h1 h2 h3
noncomputable def O67 (k : Nat) : Orc := fun R f args K => bif Nat.beq f 67 then callB mi67 2 2 mo67 (F67 k) args K else O12 k R f args K
theorem ok_O67 (k : Nat) : OrcOK (O67 k) (CallOK Try.prog) := orc_addL (fn67 k) (ok_O12 k)

/-! 68: paydesk/bitmap.bit -/
noncomputable def c68 : Code := Try.f68.body.getD .skip
noncomputable def mi68 : Msk := ⟨[(.tmp 0, .val (.st (.cons (.int .u64) (.cons (.int .u64) .nil)))), (.tmp 1, .val (.int .i64))], []⟩
noncomputable def mo68 : Msk := ⟨[(.tmp 4, .val .bool)], []⟩
noncomputable def L68 (k : Nat) : LOrc := fun _ _ _ _ => none
noncomputable def F68 (k : Nat) (v : mi68.den) : Option mo68.den := runF TI (O67 k) (L68 k) c68 mi68 mo68 v
theorem lk68 (k : Nat) : LinksOK Try.prog 18 (L68 k) c68 := (And.intro True.intro (And.intro True.intro (And.intro True.intro True.intro)))
theorem fn68 (k : Nat) (args : List AV) (x : mi68.den) (r : mo68.den) (h1 : args.length = mi68.items.length) (h2 : mi68.dec (Th.start args) = some x) (h3 : F68 k x = some r) : CallOK Try.prog 68 args (ansOf (outL mo68.items r)) :=
  call_of hm hT (ok_O67 k) (fn := Try.f68) (c := c68) Try.func68 rfl rfl rfl (lk68 k) rfl (by decide) rfl h1 h2 h3
noncomputable def O68 (k : Nat) : Orc := fun R f args K => bif Nat.beq f 68 then callF mi68 mo68 (F68 k) args K else O67 k R f args K
theorem ok_O68 (k : Nat) : OrcOK (O68 k) (CallOK Try.prog) := orc_add (fn68 k) (ok_O67 k)

/-! 55: paydesk/bitmap.Right -/
noncomputable def c55 : Code := Try.f55.body.getD .skip
noncomputable def mi55 : Msk := ⟨[(.tmp 0, .val (.st (.cons (.int .u64) (.cons (.int .u64) .nil))))], []⟩
noncomputable def mo55 : Msk := ⟨[(.tmp 2, .val .bool)], []⟩
noncomputable def L55 (k : Nat) : LOrc := fun _ _ _ _ => none
noncomputable def F55 (k : Nat) (v : mi55.den) : Option mo55.den := runF TI (O68 k) (L55 k) c55 mi55 mo55 v
theorem lk55 (k : Nat) : LinksOK Try.prog 14 (L55 k) c55 := (And.intro True.intro (And.intro True.intro True.intro))
theorem fn55 (k : Nat) (args : List AV) (x : mi55.den) (r : mo55.den) (h1 : args.length = mi55.items.length) (h2 : mi55.dec (Th.start args) = some x) (h3 : F55 k x = some r) : CallOK Try.prog 55 args (ansOf (outL mo55.items r)) :=
  call_of hm hT (ok_O68 k) (fn := Try.f55) (c := c55) Try.func55 rfl rfl rfl (lk55 k) rfl (by decide) rfl h1 h2 h3
noncomputable def O55 (k : Nat) : Orc := fun R f args K => bif Nat.beq f 55 then callF mi55 mo55 (F55 k) args K else O68 k R f args K
theorem ok_O55 (k : Nat) : OrcOK (O55 k) (CallOK Try.prog) := orc_add (fn55 k) (ok_O68 k)

/-! 66: paydesk/bitmap.field -/
noncomputable def c66 : Code := Try.f66.body.getD .skip
noncomputable def mi66 : Msk := ⟨[(.tmp 0, .val (.int .i64))], []⟩
noncomputable def mo66 : Msk := ⟨[(.tmp 2, .val .bool)], []⟩
noncomputable def L66 (k : Nat) : LOrc := fun _ _ _ _ => none
noncomputable def F66 (k : Nat) (v : mi66.den) : Option mo66.den := runF TI (O55 k) (L66 k) c66 mi66 mo66 v
theorem lk66 (k : Nat) : LinksOK Try.prog 13 (L66 k) c66 := (And.intro True.intro (And.intro True.intro True.intro))
theorem fn66 (k : Nat) (args : List AV) (x : mi66.den) (r : mo66.den) (h1 : args.length = mi66.items.length) (h2 : mi66.dec (Th.start args) = some x) (h3 : F66 k x = some r) : CallOK Try.prog 66 args (ansOf (outL mo66.items r)) :=
  call_of hm hT (ok_O55 k) (fn := Try.f66) (c := c66) Try.func66 rfl rfl rfl (lk66 k) rfl (by decide) rfl h1 h2 h3
noncomputable def O66 (k : Nat) : Orc := fun R f args K => bif Nat.beq f 66 then callF mi66 mo66 (F66 k) args K else O55 k R f args K
theorem ok_O66 (k : Nat) : OrcOK (O66 k) (CallOK Try.prog) := orc_add (fn66 k) (ok_O55 k)

/-! 54: paydesk/bitmap.Put -/
noncomputable def c54 : Code := Try.f54.body.getD .skip
noncomputable def mi54 : Msk := ⟨[(.tmp 0, .val (.st (.cons (.int .u64) (.cons (.int .u64) .nil)))), (.tmp 1, .val (.int .i64))], []⟩
noncomputable def mo54 : Msk := ⟨[(.res 4, .val (.st (.cons (.int .u64) (.cons (.int .u64) .nil)))), (.tmp 5, .val (.int .i64))], []⟩
noncomputable def L54 (k : Nat) : LOrc := fun _ _ _ _ => none
noncomputable def F54 (k : Nat) (v : mi54.den) : Option mo54.den := runF TI (O66 k) (L54 k) c54 mi54 mo54 v
theorem lk54 (k : Nat) : LinksOK Try.prog 36 (L54 k) c54 := (And.intro True.intro (And.intro (And.intro True.intro (And.intro (And.intro True.intro True.intro) True.intro)) (And.intro True.intro (And.intro True.intro (And.intro (And.intro True.intro (And.intro True.intro True.intro)) (And.intro True.intro True.intro))))))
theorem fn54 (k : Nat) (args : List AV) (x : mi54.den) (r : mo54.den) (h1 : args.length = mi54.items.length) (h2 : mi54.dec (Th.start args) = some x) (h3 : F54 k x = some r) : CallOK Try.prog 54 args (ansOf (outL mo54.items r)) :=
  call_of hm hT (ok_O66 k) (fn := Try.f54) (c := c54) Try.func54 rfl rfl rfl (lk54 k) rfl (by decide) rfl h1 h2 h3
noncomputable def O54 (k : Nat) : Orc := fun R f args K => bif Nat.beq f 54 then callF mi54 mo54 (F54 k) args K else O66 k R f args K
theorem ok_O54 (k : Nat) : OrcOK (O54 k) (CallOK Try.prog) := orc_add (fn54 k) (ok_O66 k)

/-! 39: paydesk/bitmap.Of -/
noncomputable def c39 : Code := Try.f39.body.getD .skip
noncomputable def mi39 : Msk := ⟨[(.tmp 0, .val (.slice (.int .i64)))], []⟩
noncomputable def mo39 : Msk := ⟨[(.res 2, .val (.st (.cons (.int .u64) (.cons (.int .u64) .nil)))), (.tmp 3, .val (.int .i64))], []⟩
noncomputable def L39_3 (k : Nat) : LOrc := fun _ _ _ _ => none
noncomputable def b39_3 : Code := (findLoop 3 c39).getD .skip
noncomputable def m39_3 : Msk := ⟨[(.tmp 2, .ptr 2 0), (.tmp 4, .ptr 4 0), (.tmp 9, .val (.slice (.int .i64))), (.tmp 10, .val (.int .i64)), (.tmp 11, .val (.int .i64)), (.cell 2 0, .val (.int .u64)), (.cell 2 1, .val (.int .u64)), (.cell 4 0, .val (.int .u64)), (.cell 4 1, .val (.int .u64))], [(2, 2), (4, 2)]⟩
noncomputable def x39_3 : List (X × Msk) := [(.exit 0, ⟨[(.tmp 2, .ptr 2 0), (.tmp 4, .ptr 4 0), (.cell 2 0, .val (.int .u64)), (.cell 2 1, .val (.int .u64)), (.cell 4 0, .val (.int .u64)), (.cell 4 1, .val (.int .u64))], [(2, 2), (4, 2)]⟩), (.ret, ⟨[(.tmp 2, .ptr 2 0), (.tmp 3, .val (.int .i64)), (.cell 2 0, .val (.int .u64)), (.cell 2 1, .val (.int .u64))], [(2, 2)]⟩)]
noncomputable def F39_3 (k : Nat) : Nat → m39_3.den → Option (denE x39_3)
  | 0, _ => none
  | j + 1, v => round TI (O54 k) (L39_3 k) b39_3 m39_3 x39_3 (F39_3 k j) v
theorem lk39_3_ (k : Nat) : LinksOK Try.prog 28 (L39_3 k) b39_3 := (And.intro True.intro (And.intro (And.intro True.intro True.intro) (And.intro (And.intro True.intro (And.intro True.intro (And.intro (And.intro True.intro (And.intro (And.intro True.intro True.intro) True.intro)) True.intro))) True.intro)))
noncomputable def L39 (k : Nat) : LOrc := fun R lk s K => match lk with
  | .loop r => bif Nat.beq r 3 then link m39_3 x39_3 (F39_3 k k) s K else none
  | .label l => none
theorem lk_L39_3 (k : Nat) : LoopOK Try.prog 28 (L39 k) b39_3 := loopOK_of hm hT (ok_O54 k) (fun _ _ _ h => h) rfl (lk39_3_ k) rfl rfl (F := F39_3 k) (fun _ => rfl) (fun _ _ => rfl) (n := k) fun _ _ _ => rfl
noncomputable def F39 (k : Nat) (v : mi39.den) : Option mo39.den := runF TI (O54 k) (L39 k) c39 mi39 mo39 v
theorem lk39 (k : Nat) : LinksOK Try.prog 28 (L39 k) c39 := (And.intro True.intro (And.intro True.intro (And.intro (And.intro True.intro (lk_L39_3 k)) (And.intro True.intro True.intro))))
theorem fn39 (k : Nat) (args : List AV) (x : mi39.den) (r : mo39.den) (h1 : args.length = mi39.items.length) (h2 : mi39.dec (Th.start args) = some x) (h3 : F39 k x = some r) : CallOK Try.prog 39 args (ansOf (outL mo39.items r)) :=
  call_of hm hT (ok_O54 k) (fn := Try.f39) (c := c39) Try.func39 rfl rfl rfl (lk39 k) rfl (by decide) rfl h1 h2 h3
noncomputable def O39 (k : Nat) : Orc := fun R f args K => bif Nat.beq f 39 then callF mi39 mo39 (F39 k) args K else O54 k R f args K
theorem ok_O39 (k : Nat) : OrcOK (O39 k) (CallOK Try.prog) := orc_add (fn39 k) (ok_O54 k)

/-! 56: paydesk/bitmap.bytes -/
noncomputable def c56 : Code := Try.f56.body.getD .skip
noncomputable def mi56 : Msk := ⟨[(.tmp 0, .row false (.int .u8)), (.tmp 1, .val (.int .u64))], []⟩
noncomputable def mo56 : Msk := ⟨[(.tmp 4, .row false (.int .u8))], []⟩
noncomputable def L56_2 (k : Nat) : LOrc := fun _ _ _ _ => none
noncomputable def b56_2 : Code := (findLoop 2 c56).getD .skip
noncomputable def m56_2 : Msk := ⟨[(.tmp 0, .row false (.int .u8)), (.tmp 1, .val (.int .u64)), (.tmp 6, .val (.int .i64))], []⟩
noncomputable def x56_2 : List (X × Msk) := [(.exit 0, ⟨[(.tmp 0, .row false (.int .u8))], []⟩)]
noncomputable def F56_2 (k : Nat) : Nat → m56_2.den → Option (denE x56_2)
  | 0, _ => none
  | j + 1, v => round TI (O39 k) (L56_2 k) b56_2 m56_2 x56_2 (F56_2 k j) v
theorem lk56_2_ (k : Nat) : LinksOK Try.prog 21 (L56_2 k) b56_2 := (And.intro True.intro (And.intro (And.intro True.intro True.intro) (And.intro (And.intro True.intro True.intro) True.intro)))
noncomputable def L56 (k : Nat) : LOrc := fun R lk s K => match lk with
  | .loop r => bif Nat.beq r 2 then link m56_2 x56_2 (F56_2 k k) s K else none
  | .label l => none
theorem lk_L56_2 (k : Nat) : LoopOK Try.prog 21 (L56 k) b56_2 := loopOK_of hm hT (ok_O39 k) (fun _ _ _ h => h) rfl (lk56_2_ k) rfl rfl (F := F56_2 k) (fun _ => rfl) (fun _ _ => rfl) (n := k) fun _ _ _ => rfl
noncomputable def F56 (k : Nat) (v : mi56.den) : Option mo56.den := runF TI (O39 k) (L56 k) c56 mi56 mo56 v
theorem lk56 (k : Nat) : LinksOK Try.prog 21 (L56 k) c56 := (And.intro True.intro (And.intro (And.intro True.intro (lk_L56_2 k)) (And.intro True.intro True.intro)))
theorem fn56 (k : Nat) (a0 : AV) (rest : List AV) (x : mi56.den) (r : mo56.den) (h1 : (a0 :: rest).length = mi56.items.length) (h2 : mi56.dec (startE a0 rest) = some x) (h3 : F56 k x = some r) : CallOK Try.prog 56 (a0 :: rest) (.back (ansOf (outL mo56.items r)) [.lent []]) :=
  call_ofE hm hT (ok_O39 k) (fn := Try.f56) (c := c56) Try.func56 rfl rfl rfl (lk56 k) rfl (by decide) rfl h1 h2 h3
noncomputable def O56 (k : Nat) : Orc := fun R f args K => bif Nat.beq f 56 then callE mi56 mo56 (F56 k) args K else O39 k R f args K
theorem ok_O56 (k : Nat) : OrcOK (O56 k) (CallOK Try.prog) := orc_addE (fn56 k) (ok_O39 k)

/-! 40: paydesk/bitmap.Bytes -/
noncomputable def c40 : Code := Try.f40.body.getD .skip
noncomputable def mi40 : Msk := ⟨[(.tmp 0, .val (.st (.cons (.int .u64) (.cons (.int .u64) .nil))))], []⟩
noncomputable def mo40 : Msk := ⟨[(.tmp 2, .row false (.int .u8)), (.tmp 3, .val (.int .i64))], []⟩
noncomputable def L40 (k : Nat) : LOrc := fun _ _ _ _ => none
noncomputable def F40 (k : Nat) (v : mi40.den) : Option mo40.den := runF TI (O56 k) (L40 k) c40 mi40 mo40 v
theorem lk40 (k : Nat) : LinksOK Try.prog 19 (L40 k) c40 := (And.intro True.intro (And.intro (And.intro True.intro (And.intro (And.intro True.intro True.intro) True.intro)) (And.intro True.intro (And.intro (And.intro True.intro (And.intro True.intro True.intro)) (And.intro True.intro True.intro)))))
theorem fn40 (k : Nat) (args : List AV) (x : mi40.den) (r : mo40.den) (h1 : args.length = mi40.items.length) (h2 : mi40.dec (Th.start args) = some x) (h3 : F40 k x = some r) : CallOK Try.prog 40 args (ansOf (outL mo40.items r)) :=
  call_of hm hT (ok_O56 k) (fn := Try.f40) (c := c40) Try.func40 rfl rfl rfl (lk40 k) rfl (by decide) rfl h1 h2 h3
noncomputable def O40 (k : Nat) : Orc := fun R f args K => bif Nat.beq f 40 then callF mi40 mo40 (F40 k) args K else O56 k R f args K
theorem ok_O40 (k : Nat) : OrcOK (O40 k) (CallOK Try.prog) := orc_add (fn40 k) (ok_O56 k)

/-! 57: slices.Grow[[]byte,byte] (walked by hand, at nil) -/
noncomputable def F57 (k : Nat) (v : Int × Unit) : Option (List (Ty.den (.int .u8)) × Unit) := sel (decide (0 ≤ v.1)) (sel (decide (v.1 * 1 ≤ 140737488355328)) (some ([], ())) none) none
noncomputable def O57 (k : Nat) : Orc := fun R f args K => bif Nat.beq f 57 then (match args with | [.nilsl, .int .i64 n] => ocall (F57 k (n, ())) fun r => K (.own (.int .u8) r.1) | _ => none) else O40 k R f args K
theorem ok_O57 (k : Nat) : OrcOK (O57 k) (CallOK Try.prog) := by
  intro R f args K r h
  unfold O57 at h
  cases hb : Nat.beq f 57 with
  | false => rw [hb] at h; exact ok_O40 k R f args K r h
  | true =>
    rw [hb] at h
    rw [Nat.eq_of_beq_eq_true hb]
    simp only [cond_true] at h
    split at h
    · rename_i m
      unfold F57 at h
      by_cases h0 : 0 ≤ m
      · rw [sel_pos h0] at h
        by_cases h1 : m * 1 ≤ 140737488355328
        · rw [sel_pos h1] at h
          obtain ⟨ti, d, z, E⟩ := hT.get (t := 5) (i := ⟨.int .u8, 1, 1, (.int .u8), [.int .u8 0], [], [], true, false, [], []⟩) rfl
          exact ⟨_, Grow57.calls E (by decide) m h0 h1 (by omega), h⟩
        · rw [sel_neg h1] at h; cases h
      · rw [sel_neg h0] at h; cases h
    · cases h

/-! 41: slices.Concat[[]byte,byte] -/
noncomputable def c41 : Code := Try.f41.body.getD .skip
noncomputable def mi41 : Msk := ⟨[(.tmp 0, .val (.slice (.slice (.int .u8))))], []⟩
noncomputable def mo41 : Msk := ⟨[(.tmp 2, .row false (.int .u8))], []⟩
noncomputable def L41_3 (k : Nat) : LOrc := fun _ _ _ _ => none
noncomputable def b41_3 : Code := (findLoop 3 c41).getD .skip
noncomputable def m41_3 : Msk := ⟨[(.tmp 0, .val (.slice (.slice (.int .u8)))), (.tmp 3, .val (.int .i64)), (.tmp 9, .val (.slice (.slice (.int .u8)))), (.tmp 10, .val (.int .i64)), (.tmp 11, .val (.int .i64))], []⟩
noncomputable def x41_3 : List (X × Msk) := [(.exit 0, ⟨[(.tmp 0, .val (.slice (.slice (.int .u8)))), (.tmp 3, .val (.int .i64))], []⟩)]
noncomputable def F41_3 (k : Nat) : Nat → m41_3.den → Option (denE x41_3)
  | 0, _ => none
  | j + 1, v => round TI (O57 k) (L41_3 k) b41_3 m41_3 x41_3 (F41_3 k j) v
theorem lk41_3_ (k : Nat) : LinksOK Try.prog 36 (L41_3 k) b41_3 := (And.intro True.intro (And.intro (And.intro True.intro True.intro) (And.intro (And.intro True.intro (And.intro True.intro (And.intro True.intro (And.intro True.intro True.intro)))) True.intro)))
noncomputable def L41_11 (k : Nat) : LOrc := fun _ _ _ _ => none
noncomputable def b41_11 : Code := (findLoop 11 c41).getD .skip
noncomputable def m41_11 : Msk := ⟨[(.tmp 6, .row false (.int .u8)), (.tmp 25, .val (.slice (.slice (.int .u8)))), (.tmp 26, .val (.int .i64)), (.tmp 27, .val (.int .i64))], []⟩
noncomputable def x41_11 : List (X × Msk) := [(.exit 2, ⟨[(.tmp 6, .row false (.int .u8))], []⟩)]
noncomputable def F41_11 (k : Nat) : Nat → m41_11.den → Option (denE x41_11)
  | 0, _ => none
  | j + 1, v => round TI (O57 k) (L41_11 k) b41_11 m41_11 x41_11 (F41_11 k j) v
theorem lk41_11_ (k : Nat) : LinksOK Try.prog 36 (L41_11 k) b41_11 := (And.intro True.intro (And.intro (And.intro True.intro True.intro) (And.intro (And.intro True.intro True.intro) True.intro)))
noncomputable def L41 (k : Nat) : LOrc := fun R lk s K => match lk with
  | .loop r => bif Nat.beq r 3 then link m41_3 x41_3 (F41_3 k k) s K else bif Nat.beq r 11 then link m41_11 x41_11 (F41_11 k k) s K else none
  | .label l => none
theorem lk_L41_3 (k : Nat) : LoopOK Try.prog 36 (L41 k) b41_3 := loopOK_of hm hT (ok_O57 k) (fun _ _ _ h => h) rfl (lk41_3_ k) rfl rfl (F := F41_3 k) (fun _ => rfl) (fun _ _ => rfl) (n := k) fun _ _ _ => rfl
theorem lk_L41_11 (k : Nat) : LoopOK Try.prog 36 (L41 k) b41_11 := loopOK_of hm hT (ok_O57 k) (fun _ _ _ h => h) rfl (lk41_11_ k) rfl rfl (F := F41_11 k) (fun _ => rfl) (fun _ _ => rfl) (n := k) fun _ _ _ => rfl
noncomputable def F41 (k : Nat) (v : mi41.den) : Option mo41.den := runF TI (O57 k) (L41 k) c41 mi41 mo41 v
theorem lk41 (k : Nat) : LinksOK Try.prog 36 (L41 k) c41 := (And.intro True.intro (And.intro True.intro (And.intro (And.intro True.intro (lk_L41_3 k)) (And.intro True.intro (And.intro (And.intro True.intro (lk_L41_11 k)) (And.intro True.intro True.intro))))))
theorem fn41 (k : Nat) (args : List AV) (x : mi41.den) (r : mo41.den) (h1 : args.length = mi41.items.length) (h2 : mi41.dec (Th.start args) = some x) (h3 : F41 k x = some r) : CallOK Try.prog 41 args (ansOf (outL mo41.items r)) :=
  call_of hm hT (ok_O57 k) (fn := Try.f41) (c := c41) Try.func41 rfl rfl rfl (lk41 k) rfl (by decide) rfl h1 h2 h3
noncomputable def O41 (k : Nat) : Orc := fun R f args K => bif Nat.beq f 41 then callF mi41 mo41 (F41 k) args K else O57 k R f args K
theorem ok_O41 (k : Nat) : OrcOK (O41 k) (CallOK Try.prog) := orc_add (fn41 k) (ok_O57 k)

/-! 21: paydesk/message.Write -/
noncomputable def c21 : Code := Try.f21.body.getD .skip
noncomputable def mi21 : Msk := ⟨[(.tmp 0, .val (.st (.cons .str (.cons (.slice (.st (.cons (.int .i64) (.cons .str .nil)))) .nil))))], []⟩
noncomputable def mo21 : Msk := ⟨[(.tmp 2, .row false (.int .u8)), (.tmp 3, .val (.int .i64))], []⟩
noncomputable def L21_6 (k : Nat) : LOrc := fun _ _ _ _ => none
noncomputable def b21_6 : Code := (findLoop 6 c21).getD .skip
noncomputable def m21_6 : Msk := ⟨[(.tmp 1, .ptr 1 0), (.tmp 4, .row false (.int .i64)), (.tmp 5, .row false (.int .u8)), (.tmp 18, .val (.slice (.st (.cons (.int .i64) (.cons .str .nil))))), (.tmp 19, .val (.int .i64)), (.tmp 20, .val (.int .i64)), (.cell 1 0, .val .str), (.cell 1 1, .val (.slice (.st (.cons (.int .i64) (.cons .str .nil)))))], [(1, 2)]⟩
noncomputable def x21_6 : List (X × Msk) := [(.exit 0, ⟨[(.tmp 1, .ptr 1 0), (.tmp 4, .row false (.int .i64)), (.tmp 5, .row false (.int .u8)), (.cell 1 0, .val .str), (.cell 1 1, .val (.slice (.st (.cons (.int .i64) (.cons .str .nil)))))], [(1, 2)]⟩)]
noncomputable def F21_6 (k : Nat) : Nat → m21_6.den → Option (denE x21_6)
  | 0, _ => none
  | j + 1, v => round TI (O41 k) (L21_6 k) b21_6 m21_6 x21_6 (F21_6 k j) v
theorem lk21_6_ (k : Nat) : LinksOK Try.prog 58 (L21_6 k) b21_6 := (And.intro True.intro (And.intro (And.intro True.intro True.intro) (And.intro (And.intro True.intro (And.intro True.intro True.intro)) True.intro)))
noncomputable def L21 (k : Nat) : LOrc := fun R lk s K => match lk with
  | .loop r => bif Nat.beq r 6 then link m21_6 x21_6 (F21_6 k k) s K else none
  | .label l => none
theorem lk_L21_6 (k : Nat) : LoopOK Try.prog 58 (L21 k) b21_6 := loopOK_of hm hT (ok_O41 k) (fun _ _ _ h => h) rfl (lk21_6_ k) rfl rfl (F := F21_6 k) (fun _ => rfl) (fun _ _ => rfl) (n := k) fun _ _ _ => rfl
noncomputable def F21 (k : Nat) (v : mi21.den) : Option mo21.den := runF TI (O41 k) (L21 k) c21 mi21 mo21 v
theorem lk21 (k : Nat) : LinksOK Try.prog 58 (L21 k) c21 := (And.intro True.intro (And.intro (And.intro True.intro (And.intro (And.intro True.intro True.intro) True.intro)) (And.intro True.intro (And.intro True.intro (And.intro (And.intro True.intro (lk_L21_6 k)) (And.intro True.intro (And.intro True.intro (And.intro True.intro True.intro))))))))
theorem fn21 (k : Nat) (args : List AV) (x : mi21.den) (r : mo21.den) (h1 : args.length = mi21.items.length) (h2 : mi21.dec (Th.start args) = some x) (h3 : F21 k x = some r) : CallOK Try.prog 21 args (ansOf (outL mo21.items r)) :=
  call_of hm hT (ok_O41 k) (fn := Try.f21) (c := c21) Try.func21 rfl rfl rfl (lk21 k) rfl (by decide) rfl h1 h2 h3
noncomputable def O21 (k : Nat) : Orc := fun R f args K => bif Nat.beq f 21 then callF mi21 mo21 (F21 k) args K else O41 k R f args K
theorem ok_O21 (k : Nat) : OrcOK (O21 k) (CallOK Try.prog) := orc_add (fn21 k) (ok_O41 k)

/-! 69: paydesk/bitmap.number -/
noncomputable def c69 : Code := Try.f69.body.getD .skip
noncomputable def mi69 : Msk := ⟨[(.tmp 0, .val (.slice (.int .u8)))], []⟩
noncomputable def mo69 : Msk := ⟨[(.tmp 2, .val (.int .u64))], []⟩
noncomputable def L69_3 (k : Nat) : LOrc := fun _ _ _ _ => none
noncomputable def b69_3 : Code := (findLoop 3 c69).getD .skip
noncomputable def m69_3 : Msk := ⟨[(.tmp 3, .val (.int .u64)), (.tmp 7, .val (.slice (.int .u8))), (.tmp 8, .val (.int .i64)), (.tmp 9, .val (.int .i64))], []⟩
noncomputable def x69_3 : List (X × Msk) := [(.exit 0, ⟨[(.tmp 3, .val (.int .u64))], []⟩)]
noncomputable def F69_3 (k : Nat) : Nat → m69_3.den → Option (denE x69_3)
  | 0, _ => none
  | j + 1, v => round TI (O21 k) (L69_3 k) b69_3 m69_3 x69_3 (F69_3 k j) v
theorem lk69_3_ (k : Nat) : LinksOK Try.prog 20 (L69_3 k) b69_3 := (And.intro True.intro (And.intro (And.intro True.intro True.intro) (And.intro (And.intro True.intro True.intro) True.intro)))
noncomputable def L69 (k : Nat) : LOrc := fun R lk s K => match lk with
  | .loop r => bif Nat.beq r 3 then link m69_3 x69_3 (F69_3 k k) s K else none
  | .label l => none
theorem lk_L69_3 (k : Nat) : LoopOK Try.prog 20 (L69 k) b69_3 := loopOK_of hm hT (ok_O21 k) (fun _ _ _ h => h) rfl (lk69_3_ k) rfl rfl (F := F69_3 k) (fun _ => rfl) (fun _ _ => rfl) (n := k) fun _ _ _ => rfl
noncomputable def F69 (k : Nat) (v : mi69.den) : Option mo69.den := runF TI (O21 k) (L69 k) c69 mi69 mo69 v
theorem lk69 (k : Nat) : LinksOK Try.prog 20 (L69 k) c69 := (And.intro True.intro (And.intro True.intro (And.intro (And.intro True.intro (lk_L69_3 k)) (And.intro True.intro True.intro))))
theorem fn69 (k : Nat) (args : List AV) (x : mi69.den) (r : mo69.den) (h1 : args.length = mi69.items.length) (h2 : mi69.dec (Th.start args) = some x) (h3 : F69 k x = some r) : CallOK Try.prog 69 args (ansOf (outL mo69.items r)) :=
  call_of hm hT (ok_O21 k) (fn := Try.f69) (c := c69) Try.func69 rfl rfl rfl (lk69 k) rfl (by decide) rfl h1 h2 h3
noncomputable def O69 (k : Nat) : Orc := fun R f args K => bif Nat.beq f 69 then callF mi69 mo69 (F69 k) args K else O21 k R f args K
theorem ok_O69 (k : Nat) : OrcOK (O69 k) (CallOK Try.prog) := orc_add (fn69 k) (ok_O21 k)

/-! 63: paydesk/bitmap.Read -/
noncomputable def c63 : Code := Try.f63.body.getD .skip
noncomputable def mi63 : Msk := ⟨[(.tmp 0, .val (.slice (.int .u8)))], []⟩
noncomputable def mo63 : Msk := ⟨[(.res 2, .val (.st (.cons (.int .u64) (.cons (.int .u64) .nil)))), (.tmp 3, .val (.int .i64)), (.tmp 4, .val (.int .i64))], []⟩
noncomputable def L63 (k : Nat) : LOrc := fun _ _ _ _ => none
noncomputable def F63 (k : Nat) (v : mi63.den) : Option mo63.den := runF TI (O69 k) (L63 k) c63 mi63 mo63 v
theorem lk63 (k : Nat) : LinksOK Try.prog 30 (L63 k) c63 := (And.intro True.intro (And.intro (And.intro True.intro (And.intro (And.intro True.intro True.intro) True.intro)) (And.intro True.intro (And.intro True.intro (And.intro (And.intro True.intro (And.intro (And.intro (And.intro True.intro (And.intro (And.intro True.intro True.intro) True.intro)) (And.intro True.intro True.intro)) True.intro)) (And.intro (And.intro True.intro (And.intro (And.intro True.intro True.intro) True.intro)) (And.intro True.intro True.intro)))))))
theorem fn63 (k : Nat) (args : List AV) (x : mi63.den) (r : mo63.den) (h1 : args.length = mi63.items.length) (h2 : mi63.dec (Th.start args) = some x) (h3 : F63 k x = some r) : CallOK Try.prog 63 args (ansOf (outL mo63.items r)) :=
  call_of hm hT (ok_O69 k) (fn := Try.f63) (c := c63) Try.func63 rfl rfl rfl (lk63 k) rfl (by decide) rfl h1 h2 h3
noncomputable def O63 (k : Nat) : Orc := fun R f args K => bif Nat.beq f 63 then callF mi63 mo63 (F63 k) args K else O69 k R f args K
theorem ok_O63 (k : Nat) : OrcOK (O63 k) (CallOK Try.prog) := orc_add (fn63 k) (ok_O69 k)

/-! 70: paydesk/bitmap.Has -/
noncomputable def c70 : Code := Try.f70.body.getD .skip
noncomputable def mi70 : Msk := ⟨[(.tmp 0, .val (.st (.cons (.int .u64) (.cons (.int .u64) .nil)))), (.tmp 1, .val (.int .i64))], []⟩
noncomputable def mo70 : Msk := ⟨[(.tmp 4, .val .bool)], []⟩
noncomputable def L70 (k : Nat) : LOrc := fun _ _ _ _ => none
noncomputable def F70 (k : Nat) (v : mi70.den) : Option mo70.den := runF TI (O63 k) (L70 k) c70 mi70 mo70 v
theorem lk70 (k : Nat) : LinksOK Try.prog 12 (L70 k) c70 := (And.intro True.intro (And.intro True.intro True.intro))
theorem fn70 (k : Nat) (args : List AV) (x : mi70.den) (r : mo70.den) (h1 : args.length = mi70.items.length) (h2 : mi70.dec (Th.start args) = some x) (h3 : F70 k x = some r) : CallOK Try.prog 70 args (ansOf (outL mo70.items r)) :=
  call_of hm hT (ok_O63 k) (fn := Try.f70) (c := c70) Try.func70 rfl rfl rfl (lk70 k) rfl (by decide) rfl h1 h2 h3
noncomputable def O70 (k : Nat) : Orc := fun R f args K => bif Nat.beq f 70 then callF mi70 mo70 (F70 k) args K else O63 k R f args K
theorem ok_O70 (k : Nat) : OrcOK (O70 k) (CallOK Try.prog) := orc_add (fn70 k) (ok_O63 k)

/-! 64: paydesk/bitmap.Fields -/
noncomputable def c64 : Code := Try.f64.body.getD .skip
noncomputable def mi64 : Msk := ⟨[(.tmp 0, .val (.st (.cons (.int .u64) (.cons (.int .u64) .nil))))], []⟩
noncomputable def mo64 : Msk := ⟨[(.tmp 2, .row false (.int .i64))], []⟩
noncomputable def L64_g0 (k : Nat) : LOrc := fun _ _ _ _ => none
noncomputable def b64_g0 : Code := (findScope 0 c64).getD .skip
noncomputable def l64_g0 : List (X × Msk) := [(.goto 0, ⟨[(.tmp 1, .ptr 1 0), (.tmp 3, .row false (.int .i64)), (.tmp 4, .val (.int .i64)), (.cell 1 0, .val (.int .u64)), (.cell 1 1, .val (.int .u64))], [(1, 2)]⟩)]
noncomputable def x64_g0 : List (X × Msk) := [(.ret, ⟨[(.tmp 2, .row false (.int .i64))], []⟩)]
noncomputable def F64_g0 (k : Nat) : Nat → denE l64_g0 → Option (denE x64_g0)
  | 0, _ => none
  | j + 1, v => pass TI (O70 k) (L64_g0 k) b64_g0 l64_g0 x64_g0 (F64_g0 k j) v
theorem lk64_g0_ (k : Nat) : LinksOK Try.prog 17 (L64_g0 k) b64_g0 := (And.intro True.intro (And.intro True.intro (And.intro True.intro (And.intro (And.intro True.intro (And.intro True.intro True.intro)) (And.intro True.intro (And.intro (And.intro True.intro (And.intro True.intro True.intro)) (And.intro True.intro True.intro)))))))
noncomputable def L64 (k : Nat) : LOrc := fun R lk s K => match lk with
  | .loop r => none
  | .label l => (match findLabel b64_g0 l with | some _ => linkJ l64_g0 x64_g0 (F64_g0 k k) l s K | none => none)
theorem lk_L64_g0 (k : Nat) : JumpsOK Try.prog 17 (L64 k) b64_g0 := jumpsOK_of hm hT (ok_O70 k) (fun _ _ _ h => h) rfl (lk64_g0_ k) rfl rfl (F := F64_g0 k) (fun _ => rfl) (fun _ _ => rfl) (n := k) fun R l s K rest hf => by
  show (match findLabel b64_g0 l with | some _ => linkJ l64_g0 x64_g0 (F64_g0 k k) l s K | none => none) = _
  rw [hf]
noncomputable def F64 (k : Nat) (v : mi64.den) : Option mo64.den := runF TI (O70 k) (L64 k) c64 mi64 mo64 v
theorem lk64 (k : Nat) : LinksOK Try.prog 17 (L64 k) c64 := (And.intro True.intro (And.intro (lk_L64_g0 k) (And.intro True.intro (And.intro True.intro (And.intro True.intro (And.intro (And.intro True.intro (And.intro True.intro True.intro)) (And.intro True.intro (And.intro (And.intro True.intro (And.intro True.intro True.intro)) (And.intro True.intro True.intro)))))))))
theorem fn64 (k : Nat) (args : List AV) (x : mi64.den) (r : mo64.den) (h1 : args.length = mi64.items.length) (h2 : mi64.dec (Th.start args) = some x) (h3 : F64 k x = some r) : CallOK Try.prog 64 args (ansOf (outL mo64.items r)) :=
  call_of hm hT (ok_O70 k) (fn := Try.f64) (c := c64) Try.func64 rfl rfl rfl (lk64 k) rfl (by decide) rfl h1 h2 h3
noncomputable def O64 (k : Nat) : Orc := fun R f args K => bif Nat.beq f 64 then callF mi64 mo64 (F64 k) args K else O70 k R f args K
theorem ok_O64 (k : Nat) : OrcOK (O64 k) (CallOK Try.prog) := orc_add (fn64 k) (ok_O70 k)

/-! 46: paydesk/message.start -/
noncomputable def c46 : Code := Try.f46.body.getD .skip
noncomputable def mi46 : Msk := ⟨[(.tmp 0, .val (.slice (.int .u8)))], []⟩
noncomputable def mo46 : Msk := ⟨[(.tmp 2, .val .str), (.tmp 3, .row false (.int .i64)), (.tmp 4, .val (.slice (.int .u8))), (.tmp 5, .val (.int .i64))], []⟩
noncomputable def L46 (k : Nat) : LOrc := fun _ _ _ _ => none
noncomputable def F46 (k : Nat) (v : mi46.den) : Option mo46.den := runF TI (O64 k) (L46 k) c46 mi46 mo46 v
theorem lk46 (k : Nat) : LinksOK Try.prog 36 (L46 k) c46 := (And.intro True.intro (And.intro (And.intro True.intro (And.intro (And.intro True.intro True.intro) (And.intro True.intro (And.intro (And.intro True.intro True.intro) True.intro)))) (And.intro True.intro (And.intro True.intro True.intro))))
theorem fn46 (k : Nat) (args : List AV) (x : mi46.den) (r : mo46.den) (h1 : args.length = mi46.items.length) (h2 : mi46.dec (Th.start args) = some x) (h3 : F46 k x = some r) : CallOK Try.prog 46 args (ansOf (outL mo46.items r)) :=
  call_of hm hT (ok_O64 k) (fn := Try.f46) (c := c46) Try.func46 rfl rfl rfl (lk46 k) rfl (by decide) rfl h1 h2 h3
noncomputable def O46 (k : Nat) : Orc := fun R f args K => bif Nat.beq f 46 then callF mi46 mo46 (F46 k) args K else O64 k R f args K
theorem ok_O46 (k : Nat) : OrcOK (O46 k) (CallOK Try.prog) := orc_add (fn46 k) (ok_O64 k)

/-! 52: paydesk/digit.Get -/
noncomputable def c52 : Code := Try.f52.body.getD .skip
noncomputable def mi52 : Msk := ⟨[(.tmp 0, .val .str)], []⟩
noncomputable def mo52 : Msk := ⟨[(.tmp 2, .val (.int .u64)), (.tmp 3, .val (.int .i64))], []⟩
noncomputable def L52_9 (k : Nat) : LOrc := fun _ _ _ _ => none
noncomputable def b52_9 : Code := (findLoop 9 c52).getD .skip
noncomputable def m52_9 : Msk := ⟨[(.tmp 4, .val (.int .u64)), (.tmp 19, .row false (.int .u8)), (.tmp 20, .val (.int .i64)), (.tmp 21, .val (.int .i64))], []⟩
noncomputable def x52_9 : List (X × Msk) := [(.exit 1, ⟨[(.tmp 4, .val (.int .u64))], []⟩)]
noncomputable def F52_9 (k : Nat) : Nat → m52_9.den → Option (denE x52_9)
  | 0, _ => none
  | j + 1, v => round TI (O46 k) (L52_9 k) b52_9 m52_9 x52_9 (F52_9 k j) v
theorem lk52_9_ (k : Nat) : LinksOK Try.prog 33 (L52_9 k) b52_9 := (And.intro True.intro (And.intro (And.intro True.intro True.intro) (And.intro (And.intro True.intro True.intro) True.intro)))
noncomputable def L52 (k : Nat) : LOrc := fun R lk s K => match lk with
  | .loop r => bif Nat.beq r 9 then link m52_9 x52_9 (F52_9 k k) s K else none
  | .label l => none
theorem lk_L52_9 (k : Nat) : LoopOK Try.prog 33 (L52 k) b52_9 := loopOK_of hm hT (ok_O46 k) (fun _ _ _ h => h) rfl (lk52_9_ k) rfl rfl (F := F52_9 k) (fun _ => rfl) (fun _ _ => rfl) (n := k) fun _ _ _ => rfl
noncomputable def F52 (k : Nat) (v : mi52.den) : Option mo52.den := runF TI (O46 k) (L52 k) c52 mi52 mo52 v
theorem lk52 (k : Nat) : LinksOK Try.prog 33 (L52 k) c52 := (And.intro True.intro (And.intro (And.intro True.intro (And.intro (And.intro True.intro True.intro) (And.intro True.intro (And.intro (And.intro True.intro True.intro) (And.intro True.intro (And.intro (And.intro True.intro True.intro) True.intro)))))) (And.intro True.intro (And.intro (And.intro True.intro (lk_L52_9 k)) (And.intro True.intro True.intro)))))
theorem fn52 (k : Nat) (args : List AV) (x : mi52.den) (r : mo52.den) (h1 : args.length = mi52.items.length) (h2 : mi52.dec (Th.start args) = some x) (h3 : F52 k x = some r) : CallOK Try.prog 52 args (ansOf (outL mo52.items r)) :=
  call_of hm hT (ok_O46 k) (fn := Try.f52) (c := c52) Try.func52 rfl rfl rfl (lk52 k) rfl (by decide) rfl h1 h2 h3
noncomputable def O52 (k : Nat) : Orc := fun R f args K => bif Nat.beq f 52 then callF mi52 mo52 (F52 k) args K else O46 k R f args K
theorem ok_O52 (k : Nat) : OrcOK (O52 k) (CallOK Try.prog) := orc_add (fn52 k) (ok_O46 k)

/-! 36: paydesk/field.length -/
noncomputable def c36 : Code := Try.f36.body.getD .skip
noncomputable def mi36 : Msk := ⟨[(.tmp 0, .val (.st (.cons (.int .i64) (.cons (.int .i64) (.cons (.int .i64) .nil))))), (.tmp 1, .val (.slice (.int .u8)))], []⟩
noncomputable def mo36 : Msk := ⟨[(.tmp 4, .val (.int .i64)), (.tmp 5, .val (.int .i64))], []⟩
noncomputable def L36 (k : Nat) : LOrc := fun _ _ _ _ => none
noncomputable def F36 (k : Nat) (v : mi36.den) : Option mo36.den := runF TI (O52 k) (L36 k) c36 mi36 mo36 v
theorem lk36 (k : Nat) : LinksOK Try.prog 41 (L36 k) c36 := (And.intro True.intro (And.intro True.intro (And.intro (And.intro True.intro (And.intro (And.intro True.intro True.intro) True.intro)) (And.intro (And.intro True.intro (And.intro (And.intro True.intro True.intro) True.intro)) (And.intro True.intro (And.intro (And.intro (And.intro True.intro (And.intro True.intro True.intro)) (And.intro (And.intro True.intro True.intro) (And.intro True.intro (And.intro (And.intro True.intro True.intro) True.intro)))) (And.intro True.intro True.intro)))))))
theorem fn36 (k : Nat) (args : List AV) (x : mi36.den) (r : mo36.den) (h1 : args.length = mi36.items.length) (h2 : mi36.dec (Th.start args) = some x) (h3 : F36 k x = some r) : CallOK Try.prog 36 args (ansOf (outL mo36.items r)) :=
  call_of hm hT (ok_O52 k) (fn := Try.f36) (c := c36) Try.func36 rfl rfl rfl (lk36 k) rfl (by decide) rfl h1 h2 h3
noncomputable def O36 (k : Nat) : Orc := fun R f args K => bif Nat.beq f 36 then callF mi36 mo36 (F36 k) args K else O52 k R f args K
theorem ok_O36 (k : Nat) : OrcOK (O36 k) (CallOK Try.prog) := orc_add (fn36 k) (ok_O52 k)

/-! 16: paydesk/field.Read -/
noncomputable def c16 : Code := Try.f16.body.getD .skip
noncomputable def mi16 : Msk := ⟨[(.tmp 0, .val (.int .i64)), (.tmp 1, .val (.slice (.int .u8)))], []⟩
noncomputable def mo16 : Msk := ⟨[(.tmp 4, .val .str), (.tmp 5, .val (.int .i64)), (.tmp 6, .val (.int .i64))], []⟩
noncomputable def L16 (k : Nat) : LOrc := fun _ _ _ _ => none
noncomputable def F16 (k : Nat) (v : mi16.den) : Option mo16.den := runF TI (O36 k) (L16 k) c16 mi16 mo16 v
theorem lk16 (k : Nat) : LinksOK Try.prog 51 (L16 k) c16 := (And.intro True.intro (And.intro True.intro (And.intro (And.intro True.intro (And.intro (And.intro True.intro True.intro) True.intro)) (And.intro True.intro (And.intro (And.intro True.intro (And.intro (And.intro True.intro True.intro) True.intro)) (And.intro True.intro (And.intro True.intro (And.intro (And.intro True.intro (And.intro (And.intro True.intro True.intro) True.intro)) (And.intro True.intro (And.intro (And.intro True.intro (And.intro (And.intro True.intro True.intro) True.intro)) (And.intro True.intro True.intro)))))))))))
theorem fn16 (k : Nat) (args : List AV) (x : mi16.den) (r : mo16.den) (h1 : args.length = mi16.items.length) (h2 : mi16.dec (Th.start args) = some x) (h3 : F16 k x = some r) : CallOK Try.prog 16 args (ansOf (outL mo16.items r)) :=
  call_of hm hT (ok_O36 k) (fn := Try.f16) (c := c16) Try.func16 rfl rfl rfl (lk16 k) rfl (by decide) rfl h1 h2 h3
noncomputable def O16 (k : Nat) : Orc := fun R f args K => bif Nat.beq f 16 then callF mi16 mo16 (F16 k) args K else O36 k R f args K
theorem ok_O16 (k : Nat) : OrcOK (O16 k) (CallOK Try.prog) := orc_add (fn16 k) (ok_O36 k)

/-! 25: paydesk/message.Read -/
noncomputable def c25 : Code := Try.f25.body.getD .skip
noncomputable def mi25 : Msk := ⟨[(.tmp 0, .val (.slice (.int .u8)))], []⟩
noncomputable def mo25 : Msk := ⟨[(.res 2, .val (.st (.cons .str (.cons (.slice (.st (.cons (.int .i64) (.cons .str .nil)))) .nil)))), (.tmp 3, .val (.int .i64))], []⟩
noncomputable def L25_8 (k : Nat) : LOrc := fun _ _ _ _ => none
noncomputable def b25_8 : Code := (findLoop 8 c25).getD .skip
noncomputable def m25_8 : Msk := ⟨[(.tmp 2, .ptr 2 0), (.tmp 6, .val (.slice (.int .u8))), (.tmp 8, .ptr 8 0), (.tmp 33, .row false (.int .i64)), (.tmp 34, .val (.int .i64)), (.tmp 35, .val (.int .i64)), (.cell 2 0, .val .str), (.cell 2 1, .row false (.st (.cons (.int .i64) (.cons .str .nil)))), (.cell 8 0, .val .str), (.cell 8 1, .row false (.st (.cons (.int .i64) (.cons .str .nil))))], [(2, 2), (8, 2)]⟩
noncomputable def x25_8 : List (X × Msk) := [(.exit 1, ⟨[(.tmp 2, .ptr 2 0), (.tmp 6, .val (.slice (.int .u8))), (.tmp 8, .ptr 8 0), (.cell 2 0, .val .str), (.cell 2 1, .row false (.st (.cons (.int .i64) (.cons .str .nil)))), (.cell 8 0, .val .str), (.cell 8 1, .row false (.st (.cons (.int .i64) (.cons .str .nil))))], [(2, 2), (8, 2)]⟩), (.ret, ⟨[(.tmp 2, .ptr 2 0), (.tmp 3, .val (.int .i64)), (.cell 2 0, .val .str), (.cell 2 1, .row false (.st (.cons (.int .i64) (.cons .str .nil))))], [(2, 2)]⟩)]
noncomputable def F25_8 (k : Nat) : Nat → m25_8.den → Option (denE x25_8)
  | 0, _ => none
  | j + 1, v => round TI (O16 k) (L25_8 k) b25_8 m25_8 x25_8 (F25_8 k j) v
theorem lk25_8_ (k : Nat) : LinksOK Try.prog 67 (L25_8 k) b25_8 := (And.intro True.intro (And.intro (And.intro True.intro True.intro) (And.intro (And.intro True.intro (And.intro True.intro (And.intro (And.intro True.intro (And.intro (And.intro True.intro True.intro) True.intro)) True.intro))) True.intro)))
noncomputable def L25 (k : Nat) : LOrc := fun R lk s K => match lk with
  | .loop r => bif Nat.beq r 8 then link m25_8 x25_8 (F25_8 k k) s K else none
  | .label l => none
theorem lk_L25_8 (k : Nat) : LoopOK Try.prog 67 (L25 k) b25_8 := loopOK_of hm hT (ok_O16 k) (fun _ _ _ h => h) rfl (lk25_8_ k) rfl rfl (F := F25_8 k) (fun _ => rfl) (fun _ _ => rfl) (n := k) fun _ _ _ => rfl
noncomputable def F25 (k : Nat) (v : mi25.den) : Option mo25.den := runF TI (O16 k) (L25 k) c25 mi25 mo25 v
theorem lk25 (k : Nat) : LinksOK Try.prog 67 (L25 k) c25 := (And.intro True.intro (And.intro True.intro (And.intro (And.intro True.intro (And.intro (And.intro True.intro True.intro) (And.intro True.intro (And.intro (And.intro True.intro True.intro) True.intro)))) (And.intro True.intro (And.intro (And.intro True.intro (lk_L25_8 k)) (And.intro (And.intro True.intro (And.intro (And.intro True.intro True.intro) True.intro)) (And.intro True.intro True.intro)))))))
theorem fn25 (k : Nat) (args : List AV) (x : mi25.den) (r : mo25.den) (h1 : args.length = mi25.items.length) (h2 : mi25.dec (Th.start args) = some x) (h3 : F25 k x = some r) : CallOK Try.prog 25 args (ansOf (outL mo25.items r)) :=
  call_of hm hT (ok_O16 k) (fn := Try.f25) (c := c25) Try.func25 rfl rfl rfl (lk25 k) rfl (by decide) rfl h1 h2 h3
noncomputable def O25 (k : Nat) : Orc := fun R f args K => bif Nat.beq f 25 then callF mi25 mo25 (F25 k) args K else O16 k R f args K
theorem ok_O25 (k : Nat) : OrcOK (O25 k) (CallOK Try.prog) := orc_add (fn25 k) (ok_O16 k)

/-! 45: paydesk/message.Get$1 -/
noncomputable def c45 : Code := Try.f45.body.getD .skip
noncomputable def mi45 : Msk := ⟨[(.tmp 0, .val (.st (.cons (.int .i64) (.cons .str .nil)))), (.tmp 1, .val (.ref (.cons (.int .i64) .nil)))], []⟩
noncomputable def mo45 : Msk := ⟨[(.tmp 3, .val .bool)], []⟩
noncomputable def L45 (k : Nat) : LOrc := fun _ _ _ _ => none
noncomputable def F45 (k : Nat) (v : mi45.den) : Option mo45.den := runF TI (O25 k) (L45 k) c45 mi45 mo45 v
theorem lk45 (k : Nat) : LinksOK Try.prog 8 (L45 k) c45 := (And.intro True.intro (And.intro True.intro True.intro))
theorem fn45 (k : Nat) (args : List AV) (x : mi45.den) (r : mo45.den) (h1 : args.length = mi45.items.length) (h2 : mi45.dec (Th.start args) = some x) (h3 : F45 k x = some r) : CallOK Try.prog 45 args (ansOf (outL mo45.items r)) :=
  call_of hm hT (ok_O25 k) (fn := Try.f45) (c := c45) Try.func45 rfl rfl rfl (lk45 k) rfl (by decide) rfl h1 h2 h3
noncomputable def O45 (k : Nat) : Orc := fun R f args K => bif Nat.beq f 45 then callF mi45 mo45 (F45 k) args K else O25 k R f args K
theorem ok_O45 (k : Nat) : OrcOK (O45 k) (CallOK Try.prog) := orc_add (fn45 k) (ok_O25 k)

/-! 44: slices.IndexFunc[[]paydesk/api.Item,paydesk/api.Item] -/
noncomputable def c7000000 : Code := Try.f44.body.getD .skip
noncomputable def mi7000000 : Msk := ⟨[(.tmp 0, .val (.slice (.st (.cons (.int .i64) (.cons .str .nil))))), (.tmp 1, .val (.clo 45 (.cons (.ref (.cons (.int .i64) .nil)) .nil)))], []⟩
noncomputable def mo7000000 : Msk := ⟨[(.tmp 4, .val (.int .i64))], []⟩
noncomputable def L7000000_2 (k : Nat) : LOrc := fun _ _ _ _ => none
noncomputable def b7000000_2 : Code := (findLoop 2 c7000000).getD .skip
noncomputable def m7000000_2 : Msk := ⟨[(.tmp 0, .val (.slice (.st (.cons (.int .i64) (.cons .str .nil))))), (.tmp 1, .val (.clo 45 (.cons (.ref (.cons (.int .i64) .nil)) .nil))), (.tmp 7, .val (.int .i64)), (.tmp 8, .val (.int .i64))], []⟩
noncomputable def x7000000_2 : List (X × Msk) := [(.exit 0, ⟨[], []⟩), (.ret, ⟨[(.tmp 4, .val (.int .i64))], []⟩)]
noncomputable def F7000000_2 (k : Nat) : Nat → m7000000_2.den → Option (denE x7000000_2)
  | 0, _ => none
  | j + 1, v => round TI (O45 k) (L7000000_2 k) b7000000_2 m7000000_2 x7000000_2 (F7000000_2 k j) v
theorem lk7000000_2_ (k : Nat) : LinksOK Try.prog 19 (L7000000_2 k) b7000000_2 := (And.intro True.intro (And.intro (And.intro True.intro True.intro) (And.intro (And.intro True.intro (And.intro True.intro (And.intro (And.intro True.intro True.intro) True.intro))) True.intro)))
noncomputable def L7000000 (k : Nat) : LOrc := fun R lk s K => match lk with
  | .loop r => bif Nat.beq r 2 then link m7000000_2 x7000000_2 (F7000000_2 k k) s K else none
  | .label l => none
theorem lk_L7000000_2 (k : Nat) : LoopOK Try.prog 19 (L7000000 k) b7000000_2 := loopOK_of hm hT (ok_O45 k) (fun _ _ _ h => h) rfl (lk7000000_2_ k) rfl rfl (F := F7000000_2 k) (fun _ => rfl) (fun _ _ => rfl) (n := k) fun _ _ _ => rfl
noncomputable def F7000000 (k : Nat) (v : mi7000000.den) : Option mo7000000.den := runF TI (O45 k) (L7000000 k) c7000000 mi7000000 mo7000000 v
theorem lk7000000 (k : Nat) : LinksOK Try.prog 19 (L7000000 k) c7000000 := (And.intro True.intro (And.intro (And.intro True.intro (lk_L7000000_2 k)) (And.intro True.intro True.intro)))
theorem fn7000000 (k : Nat) (args : List AV) (x : mi7000000.den) (r : mo7000000.den) (h1 : args.length = mi7000000.items.length) (h2 : mi7000000.dec (Th.start args) = some x) (h3 : F7000000 k x = some r) : CallOK Try.prog 44 args (ansOf (outL mo7000000.items r)) :=
  call_of hm hT (ok_O45 k) (fn := Try.f44) (c := c7000000) Try.func44 rfl rfl rfl (lk7000000 k) rfl (by decide) rfl h1 h2 h3
noncomputable def O7000000 (k : Nat) : Orc := fun R f args K => bif (bif Nat.beq f 44 then isClo 1 45 args else false) then callF mi7000000 mo7000000 (F7000000 k) args K else O45 k R f args K
theorem ok_O7000000 (k : Nat) : OrcOK (O7000000 k) (CallOK Try.prog) := orc_addP (fn7000000 k) (ok_O45 k)

/-! 23: paydesk/message.Get -/
noncomputable def c23 : Code := Try.f23.body.getD .skip
noncomputable def mi23 : Msk := ⟨[(.tmp 0, .val (.st (.cons .str (.cons (.slice (.st (.cons (.int .i64) (.cons .str .nil)))) .nil)))), (.tmp 1, .val (.int .i64))], []⟩
noncomputable def mo23 : Msk := ⟨[(.tmp 4, .val .str), (.tmp 5, .val .bool)], []⟩
noncomputable def L23 (k : Nat) : LOrc := fun _ _ _ _ => none
noncomputable def F23 (k : Nat) (v : mi23.den) : Option mo23.den := runF TI (O7000000 k) (L23 k) c23 mi23 mo23 v
theorem lk23 (k : Nat) : LinksOK Try.prog 19 (L23 k) c23 := (And.intro True.intro (And.intro True.intro (And.intro (And.intro True.intro (And.intro (And.intro True.intro True.intro) True.intro)) (And.intro True.intro True.intro))))
theorem fn23 (k : Nat) (args : List AV) (x : mi23.den) (r : mo23.den) (h1 : args.length = mi23.items.length) (h2 : mi23.dec (Th.start args) = some x) (h3 : F23 k x = some r) : CallOK Try.prog 23 args (ansOf (outL mo23.items r)) :=
  call_of hm hT (ok_O7000000 k) (fn := Try.f23) (c := c23) Try.func23 rfl rfl rfl (lk23 k) rfl (by decide) rfl h1 h2 h3
noncomputable def O23 (k : Nat) : Orc := fun R f args K => bif Nat.beq f 23 then callF mi23 mo23 (F23 k) args K else O7000000 k R f args K
theorem ok_O23 (k : Nat) : OrcOK (O23 k) (CallOK Try.prog) := orc_add (fn23 k) (ok_O7000000 k)

/-! 28: paydesk/paydeskref04.Same -/
noncomputable def c28 : Code := Try.f28.body.getD .skip
noncomputable def mi28 : Msk := ⟨[(.tmp 0, .val (.st (.cons .str (.cons (.slice (.st (.cons (.int .i64) (.cons .str .nil)))) .nil)))), (.tmp 1, .val (.st (.cons .str (.cons (.slice (.st (.cons (.int .i64) (.cons .str .nil)))) .nil))))], []⟩
noncomputable def mo28 : Msk := ⟨[(.tmp 4, .val .bool)], []⟩
noncomputable def L28_4 (k : Nat) : LOrc := fun _ _ _ _ => none
noncomputable def b28_4 : Code := (findLoop 4 c28).getD .skip
noncomputable def m28_4 : Msk := ⟨[(.tmp 2, .ptr 2 0), (.tmp 3, .ptr 3 0), (.tmp 5, .val (.int .i64)), (.cell 2 0, .val .str), (.cell 2 1, .val (.slice (.st (.cons (.int .i64) (.cons .str .nil))))), (.cell 3 0, .val .str), (.cell 3 1, .val (.slice (.st (.cons (.int .i64) (.cons .str .nil)))))], [(2, 2), (3, 2)]⟩
noncomputable def x28_4 : List (X × Msk) := [(.exit 0, ⟨[], []⟩), (.ret, ⟨[(.tmp 4, .val .bool)], []⟩)]
noncomputable def F28_4 (k : Nat) : Nat → m28_4.den → Option (denE x28_4)
  | 0, _ => none
  | j + 1, v => round TI (O23 k) (L28_4 k) b28_4 m28_4 x28_4 (F28_4 k j) v
theorem lk28_4_ (k : Nat) : LinksOK Try.prog 38 (L28_4 k) b28_4 := (And.intro (And.intro True.intro (And.intro True.intro True.intro)) (And.intro (And.intro True.intro (And.intro (And.intro True.intro True.intro) True.intro)) True.intro))
noncomputable def L28 (k : Nat) : LOrc := fun R lk s K => match lk with
  | .loop r => bif Nat.beq r 4 then link m28_4 x28_4 (F28_4 k k) s K else none
  | .label l => none
theorem lk_L28_4 (k : Nat) : LoopOK Try.prog 38 (L28 k) b28_4 := loopOK_of hm hT (ok_O23 k) (fun _ _ _ h => h) rfl (lk28_4_ k) rfl rfl (F := F28_4 k) (fun _ => rfl) (fun _ _ => rfl) (n := k) fun _ _ _ => rfl
noncomputable def F28 (k : Nat) (v : mi28.den) : Option mo28.den := runF TI (O23 k) (L28 k) c28 mi28 mo28 v
theorem lk28 (k : Nat) : LinksOK Try.prog 38 (L28 k) c28 := (And.intro True.intro (And.intro (And.intro True.intro (And.intro (And.intro True.intro True.intro) True.intro)) (And.intro (And.intro True.intro (lk_L28_4 k)) (And.intro True.intro True.intro))))
theorem fn28 (k : Nat) (args : List AV) (x : mi28.den) (r : mo28.den) (h1 : args.length = mi28.items.length) (h2 : mi28.dec (Th.start args) = some x) (h3 : F28 k x = some r) : CallOK Try.prog 28 args (ansOf (outL mo28.items r)) :=
  call_of hm hT (ok_O23 k) (fn := Try.f28) (c := c28) Try.func28 rfl rfl rfl (lk28 k) rfl (by decide) rfl h1 h2 h3
noncomputable def O28 (k : Nat) : Orc := fun R f args K => bif Nat.beq f 28 then callF mi28 mo28 (F28 k) args K else O23 k R f args K
theorem ok_O28 (k : Nat) : OrcOK (O28 k) (CallOK Try.prog) := orc_add (fn28 k) (ok_O23 k)

/-! 18: paydesk/paydesklaw04.awake -/
noncomputable def c18 : Code := Try.f18.body.getD .skip
noncomputable def mi18 : Msk := ⟨[], []⟩
noncomputable def mo18 : Msk := ⟨[(.tmp 0, .val .bool)], []⟩
noncomputable def L18 (k : Nat) : LOrc := fun _ _ _ _ => none
noncomputable def F18 (k : Nat) (v : mi18.den) : Option mo18.den := runF TI (O28 k) (L18 k) c18 mi18 mo18 v
theorem lk18 (k : Nat) : LinksOK Try.prog 69 (L18 k) c18 := (And.intro True.intro (And.intro True.intro (And.intro True.intro (And.intro True.intro (And.intro True.intro (And.intro True.intro (And.intro True.intro True.intro)))))))
theorem fn18 (k : Nat) (args : List AV) (x : mi18.den) (r : mo18.den) (h1 : args.length = mi18.items.length) (h2 : mi18.dec (Th.start args) = some x) (h3 : F18 k x = some r) : CallOK Try.prog 18 args (ansOf (outL mo18.items r)) :=
  call_of hm hT (ok_O28 k) (fn := Try.f18) (c := c18) Try.func18 rfl rfl rfl (lk18 k) rfl (by decide) rfl h1 h2 h3
noncomputable def O18 (k : Nat) : Orc := fun R f args K => bif Nat.beq f 18 then callF mi18 mo18 (F18 k) args K else O28 k R f args K
theorem ok_O18 (k : Nat) : OrcOK (O18 k) (CallOK Try.prog) := orc_add (fn18 k) (ok_O28 k)

/-! 19: paydesk/paydeskref04.Short -/
noncomputable def c19 : Code := Try.f19.body.getD .skip
noncomputable def mi19 : Msk := ⟨[(.tmp 0, .val (.st (.cons .str (.cons (.slice (.st (.cons (.int .i64) (.cons .str .nil)))) .nil))))], []⟩
noncomputable def mo19 : Msk := ⟨[(.tmp 2, .val .bool)], []⟩
noncomputable def L19_2 (k : Nat) : LOrc := fun _ _ _ _ => none
noncomputable def b19_2 : Code := (findLoop 2 c19).getD .skip
noncomputable def m19_2 : Msk := ⟨[(.tmp 1, .ptr 1 0), (.tmp 3, .val (.int .i64)), (.cell 1 0, .val .str), (.cell 1 1, .val (.slice (.st (.cons (.int .i64) (.cons .str .nil)))))], [(1, 2)]⟩
noncomputable def x19_2 : List (X × Msk) := [(.exit 0, ⟨[(.tmp 1, .ptr 1 0), (.cell 1 0, .val .str), (.cell 1 1, .val (.slice (.st (.cons (.int .i64) (.cons .str .nil)))))], [(1, 2)]⟩), (.ret, ⟨[(.tmp 2, .val .bool)], []⟩)]
noncomputable def F19_2 (k : Nat) : Nat → m19_2.den → Option (denE x19_2)
  | 0, _ => none
  | j + 1, v => round TI (O18 k) (L19_2 k) b19_2 m19_2 x19_2 (F19_2 k j) v
theorem lk19_2_ (k : Nat) : LinksOK Try.prog 33 (L19_2 k) b19_2 := (And.intro (And.intro True.intro (And.intro True.intro True.intro)) (And.intro (And.intro True.intro (And.intro (And.intro True.intro True.intro) True.intro)) True.intro))
noncomputable def L19 (k : Nat) : LOrc := fun R lk s K => match lk with
  | .loop r => bif Nat.beq r 2 then link m19_2 x19_2 (F19_2 k k) s K else none
  | .label l => none
theorem lk_L19_2 (k : Nat) : LoopOK Try.prog 33 (L19 k) b19_2 := loopOK_of hm hT (ok_O18 k) (fun _ _ _ h => h) rfl (lk19_2_ k) rfl rfl (F := F19_2 k) (fun _ => rfl) (fun _ _ => rfl) (n := k) fun _ _ _ => rfl
noncomputable def F19 (k : Nat) (v : mi19.den) : Option mo19.den := runF TI (O18 k) (L19 k) c19 mi19 mo19 v
theorem lk19 (k : Nat) : LinksOK Try.prog 33 (L19 k) c19 := (And.intro True.intro (And.intro (And.intro True.intro (lk_L19_2 k)) (And.intro True.intro True.intro)))
theorem fn19 (k : Nat) (args : List AV) (x : mi19.den) (r : mo19.den) (h1 : args.length = mi19.items.length) (h2 : mi19.dec (Th.start args) = some x) (h3 : F19 k x = some r) : CallOK Try.prog 19 args (ansOf (outL mo19.items r)) :=
  call_of hm hT (ok_O18 k) (fn := Try.f19) (c := c19) Try.func19 rfl rfl rfl (lk19 k) rfl (by decide) rfl h1 h2 h3
noncomputable def O19 (k : Nat) : Orc := fun R f args K => bif Nat.beq f 19 then callF mi19 mo19 (F19 k) args K else O18 k R f args K
theorem ok_O19 (k : Nat) : OrcOK (O19 k) (CallOK Try.prog) := orc_add (fn19 k) (ok_O18 k)

/-! 38: paydesk/paydeskref04.Known -/
noncomputable def c38 : Code := Try.f38.body.getD .skip
noncomputable def mi38 : Msk := ⟨[(.tmp 0, .val .str)], []⟩
noncomputable def mo38 : Msk := ⟨[(.tmp 2, .val .bool)], []⟩
noncomputable def L38_3 (k : Nat) : LOrc := fun _ _ _ _ => none
noncomputable def b38_3 : Code := (findLoop 3 c38).getD .skip
noncomputable def m38_3 : Msk := ⟨[(.tmp 0, .val .str), (.tmp 3, .row false .str), (.tmp 4, .val (.int .i64))], []⟩
noncomputable def x38_3 : List (X × Msk) := [(.exit 0, ⟨[], []⟩), (.ret, ⟨[(.tmp 2, .val .bool)], []⟩)]
noncomputable def F38_3 (k : Nat) : Nat → m38_3.den → Option (denE x38_3)
  | 0, _ => none
  | j + 1, v => round TI (O19 k) (L38_3 k) b38_3 m38_3 x38_3 (F38_3 k j) v
theorem lk38_3_ (k : Nat) : LinksOK Try.prog 18 (L38_3 k) b38_3 := (And.intro (And.intro True.intro (And.intro True.intro True.intro)) (And.intro (And.intro True.intro (And.intro (And.intro True.intro True.intro) True.intro)) True.intro))
noncomputable def L38 (k : Nat) : LOrc := fun R lk s K => match lk with
  | .loop r => bif Nat.beq r 3 then link m38_3 x38_3 (F38_3 k k) s K else none
  | .label l => none
theorem lk_L38_3 (k : Nat) : LoopOK Try.prog 18 (L38 k) b38_3 := loopOK_of hm hT (ok_O19 k) (fun _ _ _ h => h) rfl (lk38_3_ k) rfl rfl (F := F38_3 k) (fun _ => rfl) (fun _ _ => rfl) (n := k) fun _ _ _ => rfl
noncomputable def F38 (k : Nat) (v : mi38.den) : Option mo38.den := runF TI (O19 k) (L38 k) c38 mi38 mo38 v
theorem lk38 (k : Nat) : LinksOK Try.prog 18 (L38 k) c38 := (And.intro True.intro (And.intro True.intro (And.intro (And.intro True.intro (lk_L38_3 k)) (And.intro True.intro True.intro))))
theorem fn38 (k : Nat) (args : List AV) (x : mi38.den) (r : mo38.den) (h1 : args.length = mi38.items.length) (h2 : mi38.dec (Th.start args) = some x) (h3 : F38 k x = some r) : CallOK Try.prog 38 args (ansOf (outL mo38.items r)) :=
  call_of hm hT (ok_O19 k) (fn := Try.f38) (c := c38) Try.func38 rfl rfl rfl (lk38 k) rfl (by decide) rfl h1 h2 h3
noncomputable def O38 (k : Nat) : Orc := fun R f args K => bif Nat.beq f 38 then callF mi38 mo38 (F38 k) args K else O19 k R f args K
theorem ok_O38 (k : Nat) : OrcOK (O38 k) (CallOK Try.prog) := orc_add (fn38 k) (ok_O19 k)

/-! 29: paydesk/paydeskref03.Fields -/
noncomputable def c29 : Code := Try.f29.body.getD .skip
noncomputable def mi29 : Msk := ⟨[], []⟩
noncomputable def mo29 : Msk := ⟨[(.tmp 0, .row false (.int .i64))], []⟩
noncomputable def L29 (k : Nat) : LOrc := fun _ _ _ _ => none
noncomputable def F29 (k : Nat) (v : mi29.den) : Option mo29.den := runF TI (O38 k) (L29 k) c29 mi29 mo29 v
theorem lk29 (k : Nat) : LinksOK Try.prog 2 (L29 k) c29 := (And.intro True.intro (And.intro True.intro True.intro))
theorem fn29 (k : Nat) (args : List AV) (x : mi29.den) (r : mo29.den) (h1 : args.length = mi29.items.length) (h2 : mi29.dec (Th.start args) = some x) (h3 : F29 k x = some r) : CallOK Try.prog 29 args (ansOf (outL mo29.items r)) :=
  call_of hm hT (ok_O38 k) (fn := Try.f29) (c := c29) Try.func29 rfl rfl rfl (lk29 k) rfl (by decide) rfl h1 h2 h3
noncomputable def O29 (k : Nat) : Orc := fun R f args K => bif Nat.beq f 29 then callF mi29 mo29 (F29 k) args K else O38 k R f args K
theorem ok_O29 (k : Nat) : OrcOK (O29 k) (CallOK Try.prog) := orc_add (fn29 k) (ok_O38 k)

/-! 11: paydesk/paydeskref03.Def -/
noncomputable def c11 : Code := Try.f11.body.getD .skip
noncomputable def mi11 : Msk := ⟨[(.tmp 0, .val (.int .i64))], []⟩
noncomputable def mo11 : Msk := ⟨[(.res 2, .val (.st (.cons (.int .i64) (.cons (.int .i64) (.cons (.int .i64) .nil))))), (.tmp 3, .val .bool)], []⟩
noncomputable def L11_3 (k : Nat) : LOrc := fun _ _ _ _ => none
noncomputable def b11_3 : Code := (findLoop 3 c11).getD .skip
noncomputable def m11_3 : Msk := ⟨[(.tmp 0, .val (.int .i64)), (.tmp 2, .ptr 2 0), (.tmp 4, .row false (.int .i64)), (.tmp 5, .val (.int .i64)), (.cell 2 0, .val (.int .i64)), (.cell 2 1, .val (.int .i64)), (.cell 2 2, .val (.int .i64))], [(2, 3)]⟩
noncomputable def x11_3 : List (X × Msk) := [(.exit 0, ⟨[(.tmp 2, .ptr 2 0), (.cell 2 0, .val (.int .i64)), (.cell 2 1, .val (.int .i64)), (.cell 2 2, .val (.int .i64))], [(2, 3)]⟩), (.ret, ⟨[(.tmp 2, .ptr 2 0), (.tmp 3, .val .bool), (.cell 2 0, .val (.int .i64)), (.cell 2 1, .val (.int .i64)), (.cell 2 2, .val (.int .i64))], [(2, 3)]⟩)]
noncomputable def F11_3 (k : Nat) : Nat → m11_3.den → Option (denE x11_3)
  | 0, _ => none
  | j + 1, v => round TI (O29 k) (L11_3 k) b11_3 m11_3 x11_3 (F11_3 k j) v
theorem lk11_3_ (k : Nat) : LinksOK Try.prog 35 (L11_3 k) b11_3 := (And.intro (And.intro True.intro (And.intro True.intro True.intro)) (And.intro (And.intro True.intro (And.intro (And.intro True.intro True.intro) True.intro)) True.intro))
noncomputable def L11 (k : Nat) : LOrc := fun R lk s K => match lk with
  | .loop r => bif Nat.beq r 3 then link m11_3 x11_3 (F11_3 k k) s K else none
  | .label l => none
theorem lk_L11_3 (k : Nat) : LoopOK Try.prog 35 (L11 k) b11_3 := loopOK_of hm hT (ok_O29 k) (fun _ _ _ h => h) rfl (lk11_3_ k) rfl rfl (F := F11_3 k) (fun _ => rfl) (fun _ _ => rfl) (n := k) fun _ _ _ => rfl
noncomputable def F11 (k : Nat) (v : mi11.den) : Option mo11.den := runF TI (O29 k) (L11 k) c11 mi11 mo11 v
theorem lk11 (k : Nat) : LinksOK Try.prog 35 (L11 k) c11 := (And.intro True.intro (And.intro True.intro (And.intro (And.intro True.intro (lk_L11_3 k)) (And.intro True.intro True.intro))))
theorem fn11 (k : Nat) (args : List AV) (x : mi11.den) (r : mo11.den) (h1 : args.length = mi11.items.length) (h2 : mi11.dec (Th.start args) = some x) (h3 : F11 k x = some r) : CallOK Try.prog 11 args (ansOf (outL mo11.items r)) :=
  call_of hm hT (ok_O29 k) (fn := Try.f11) (c := c11) Try.func11 rfl rfl rfl (lk11 k) rfl (by decide) rfl h1 h2 h3
noncomputable def O11 (k : Nat) : Orc := fun R f args K => bif Nat.beq f 11 then callF mi11 mo11 (F11 k) args K else O29 k R f args K
theorem ok_O11 (k : Nat) : OrcOK (O11 k) (CallOK Try.prog) := orc_add (fn11 k) (ok_O29 k)

/-! 32: paydesk/paydeskref03.Signs -/
noncomputable def c32 : Code := Try.f32.body.getD .skip
noncomputable def mi32 : Msk := ⟨[(.tmp 0, .val (.int .i64)), (.tmp 1, .val .str)], []⟩
noncomputable def mo32 : Msk := ⟨[(.tmp 4, .val .bool)], []⟩
noncomputable def L32_2 (k : Nat) : LOrc := fun _ _ _ _ => none
noncomputable def b32_2 : Code := (findLoop 2 c32).getD .skip
noncomputable def m32_2 : Msk := ⟨[(.tmp 0, .val (.int .i64)), (.tmp 1, .val .str), (.tmp 5, .val (.int .i64))], []⟩
noncomputable def x32_2 : List (X × Msk) := [(.exit 0, ⟨[], []⟩), (.ret, ⟨[(.tmp 4, .val .bool)], []⟩)]
noncomputable def F32_2 (k : Nat) : Nat → m32_2.den → Option (denE x32_2)
  | 0, _ => none
  | j + 1, v => round TI (O11 k) (L32_2 k) b32_2 m32_2 x32_2 (F32_2 k j) v
theorem lk32_2_ (k : Nat) : LinksOK Try.prog 32 (L32_2 k) b32_2 := (And.intro (And.intro True.intro (And.intro True.intro True.intro)) (And.intro (And.intro True.intro (And.intro (And.intro True.intro (And.intro True.intro True.intro)) (And.intro True.intro (And.intro (And.intro True.intro True.intro) True.intro)))) True.intro))
noncomputable def L32 (k : Nat) : LOrc := fun R lk s K => match lk with
  | .loop r => bif Nat.beq r 2 then link m32_2 x32_2 (F32_2 k k) s K else none
  | .label l => none
theorem lk_L32_2 (k : Nat) : LoopOK Try.prog 32 (L32 k) b32_2 := loopOK_of hm hT (ok_O11 k) (fun _ _ _ h => h) rfl (lk32_2_ k) rfl rfl (F := F32_2 k) (fun _ => rfl) (fun _ _ => rfl) (n := k) fun _ _ _ => rfl
noncomputable def F32 (k : Nat) (v : mi32.den) : Option mo32.den := runF TI (O11 k) (L32 k) c32 mi32 mo32 v
theorem lk32 (k : Nat) : LinksOK Try.prog 32 (L32 k) c32 := (And.intro True.intro (And.intro (And.intro True.intro (lk_L32_2 k)) (And.intro True.intro True.intro)))
theorem fn32 (k : Nat) (args : List AV) (x : mi32.den) (r : mo32.den) (h1 : args.length = mi32.items.length) (h2 : mi32.dec (Th.start args) = some x) (h3 : F32 k x = some r) : CallOK Try.prog 32 args (ansOf (outL mo32.items r)) :=
  call_of hm hT (ok_O11 k) (fn := Try.f32) (c := c32) Try.func32 rfl rfl rfl (lk32 k) rfl (by decide) rfl h1 h2 h3
noncomputable def O32 (k : Nat) : Orc := fun R f args K => bif Nat.beq f 32 then callF mi32 mo32 (F32 k) args K else O11 k R f args K
theorem ok_O32 (k : Nat) : OrcOK (O32 k) (CallOK Try.prog) := orc_add (fn32 k) (ok_O11 k)

/-! 13: paydesk/paydeskref03.Right -/
noncomputable def c13 : Code := Try.f13.body.getD .skip
noncomputable def mi13 : Msk := ⟨[(.tmp 0, .val (.int .i64)), (.tmp 1, .val .str)], []⟩
noncomputable def mo13 : Msk := ⟨[(.tmp 4, .val .bool)], []⟩
noncomputable def L13 (k : Nat) : LOrc := fun _ _ _ _ => none
noncomputable def F13 (k : Nat) (v : mi13.den) : Option mo13.den := runF TI (O32 k) (L13 k) c13 mi13 mo13 v
theorem lk13 (k : Nat) : LinksOK Try.prog 42 (L13 k) c13 := (And.intro True.intro (And.intro True.intro (And.intro (And.intro True.intro (And.intro (And.intro True.intro True.intro) True.intro)) (And.intro True.intro True.intro))))
theorem fn13 (k : Nat) (args : List AV) (x : mi13.den) (r : mo13.den) (h1 : args.length = mi13.items.length) (h2 : mi13.dec (Th.start args) = some x) (h3 : F13 k x = some r) : CallOK Try.prog 13 args (ansOf (outL mo13.items r)) :=
  call_of hm hT (ok_O32 k) (fn := Try.f13) (c := c13) Try.func13 rfl rfl rfl (lk13 k) rfl (by decide) rfl h1 h2 h3
noncomputable def O13 (k : Nat) : Orc := fun R f args K => bif Nat.beq f 13 then callF mi13 mo13 (F13 k) args K else O32 k R f args K
theorem ok_O13 (k : Nat) : OrcOK (O13 k) (CallOK Try.prog) := orc_add (fn13 k) (ok_O32 k)

/-! 20: paydesk/paydeskref04.Right -/
noncomputable def c20 : Code := Try.f20.body.getD .skip
noncomputable def mi20 : Msk := ⟨[(.tmp 0, .val (.st (.cons .str (.cons (.slice (.st (.cons (.int .i64) (.cons .str .nil)))) .nil))))], []⟩
noncomputable def mo20 : Msk := ⟨[(.tmp 2, .val .bool)], []⟩
noncomputable def L20_4 (k : Nat) : LOrc := fun _ _ _ _ => none
noncomputable def b20_4 : Code := (findLoop 4 c20).getD .skip
noncomputable def m20_4 : Msk := ⟨[(.tmp 1, .ptr 1 0), (.tmp 3, .val (.int .i64)), (.cell 1 0, .val .str), (.cell 1 1, .val (.slice (.st (.cons (.int .i64) (.cons .str .nil)))))], [(1, 2)]⟩
noncomputable def x20_4 : List (X × Msk) := [(.exit 0, ⟨[], []⟩), (.ret, ⟨[(.tmp 2, .val .bool)], []⟩)]
noncomputable def F20_4 (k : Nat) : Nat → m20_4.den → Option (denE x20_4)
  | 0, _ => none
  | j + 1, v => round TI (O13 k) (L20_4 k) b20_4 m20_4 x20_4 (F20_4 k j) v
theorem lk20_4_ (k : Nat) : LinksOK Try.prog 55 (L20_4 k) b20_4 := (And.intro (And.intro True.intro (And.intro True.intro True.intro)) (And.intro (And.intro True.intro (And.intro (And.intro True.intro True.intro) True.intro)) True.intro))
noncomputable def L20 (k : Nat) : LOrc := fun R lk s K => match lk with
  | .loop r => bif Nat.beq r 4 then link m20_4 x20_4 (F20_4 k k) s K else none
  | .label l => none
theorem lk_L20_4 (k : Nat) : LoopOK Try.prog 55 (L20 k) b20_4 := loopOK_of hm hT (ok_O13 k) (fun _ _ _ h => h) rfl (lk20_4_ k) rfl rfl (F := F20_4 k) (fun _ => rfl) (fun _ _ => rfl) (n := k) fun _ _ _ => rfl
noncomputable def F20 (k : Nat) (v : mi20.den) : Option mo20.den := runF TI (O13 k) (L20 k) c20 mi20 mo20 v
theorem lk20 (k : Nat) : LinksOK Try.prog 55 (L20 k) c20 := (And.intro True.intro (And.intro (And.intro True.intro (And.intro (And.intro True.intro True.intro) True.intro)) (And.intro (And.intro True.intro (lk_L20_4 k)) (And.intro True.intro True.intro))))
theorem fn20 (k : Nat) (args : List AV) (x : mi20.den) (r : mo20.den) (h1 : args.length = mi20.items.length) (h2 : mi20.dec (Th.start args) = some x) (h3 : F20 k x = some r) : CallOK Try.prog 20 args (ansOf (outL mo20.items r)) :=
  call_of hm hT (ok_O13 k) (fn := Try.f20) (c := c20) Try.func20 rfl rfl rfl (lk20 k) rfl (by decide) rfl h1 h2 h3
noncomputable def O20 (k : Nat) : Orc := fun R f args K => bif Nat.beq f 20 then callF mi20 mo20 (F20 k) args K else O13 k R f args K
theorem ok_O20 (k : Nat) : OrcOK (O20 k) (CallOK Try.prog) := orc_add (fn20 k) (ok_O13 k)

/-! 60: paydesk/paydeskref02.Bit -/
noncomputable def c60 : Code := Try.f60.body.getD .skip
noncomputable def mi60 : Msk := ⟨[(.tmp 0, .val (.st (.cons (.int .u64) (.cons (.int .u64) .nil)))), (.tmp 1, .val (.int .i64))], []⟩
noncomputable def mo60 : Msk := ⟨[(.tmp 4, .val .bool)], []⟩
noncomputable def L60_6 (k : Nat) : LOrc := fun _ _ _ _ => none
noncomputable def b60_6 : Code := (findLoop 6 c60).getD .skip
noncomputable def m60_6 : Msk := ⟨[(.tmp 5, .val (.int .u64)), (.tmp 6, .val (.int .i64))], []⟩
noncomputable def x60_6 : List (X × Msk) := [(.exit 0, ⟨[(.tmp 5, .val (.int .u64))], []⟩)]
noncomputable def F60_6 (k : Nat) : Nat → m60_6.den → Option (denE x60_6)
  | 0, _ => none
  | j + 1, v => round TI (O20 k) (L60_6 k) b60_6 m60_6 x60_6 (F60_6 k j) v
theorem lk60_6_ (k : Nat) : LinksOK Try.prog 25 (L60_6 k) b60_6 := (And.intro (And.intro True.intro (And.intro True.intro True.intro)) (And.intro True.intro True.intro))
noncomputable def L60 (k : Nat) : LOrc := fun R lk s K => match lk with
  | .loop r => bif Nat.beq r 6 then link m60_6 x60_6 (F60_6 k k) s K else none
  | .label l => none
theorem lk_L60_6 (k : Nat) : LoopOK Try.prog 25 (L60 k) b60_6 := loopOK_of hm hT (ok_O20 k) (fun _ _ _ h => h) rfl (lk60_6_ k) rfl rfl (F := F60_6 k) (fun _ => rfl) (fun _ _ => rfl) (n := k) fun _ _ _ => rfl
noncomputable def F60 (k : Nat) (v : mi60.den) : Option mo60.den := runF TI (O20 k) (L60 k) c60 mi60 mo60 v
theorem lk60 (k : Nat) : LinksOK Try.prog 25 (L60 k) c60 := (And.intro True.intro (And.intro True.intro (And.intro (And.intro True.intro (And.intro (And.intro True.intro True.intro) True.intro)) (And.intro (And.intro True.intro (lk_L60_6 k)) (And.intro True.intro True.intro)))))
theorem fn60 (k : Nat) (args : List AV) (x : mi60.den) (r : mo60.den) (h1 : args.length = mi60.items.length) (h2 : mi60.dec (Th.start args) = some x) (h3 : F60 k x = some r) : CallOK Try.prog 60 args (ansOf (outL mo60.items r)) :=
  call_of hm hT (ok_O20 k) (fn := Try.f60) (c := c60) Try.func60 rfl rfl rfl (lk60 k) rfl (by decide) rfl h1 h2 h3
noncomputable def O60 (k : Nat) : Orc := fun R f args K => bif Nat.beq f 60 then callF mi60 mo60 (F60 k) args K else O20 k R f args K
theorem ok_O60 (k : Nat) : OrcOK (O60 k) (CallOK Try.prog) := orc_add (fn60 k) (ok_O20 k)

/-! 58: paydesk/paydeskref02.Right -/
noncomputable def c58 : Code := Try.f58.body.getD .skip
noncomputable def mi58 : Msk := ⟨[(.tmp 0, .val (.st (.cons (.int .u64) (.cons (.int .u64) .nil))))], []⟩
noncomputable def mo58 : Msk := ⟨[(.tmp 2, .val .bool)], []⟩
noncomputable def L58 (k : Nat) : LOrc := fun _ _ _ _ => none
noncomputable def F58 (k : Nat) (v : mi58.den) : Option mo58.den := runF TI (O60 k) (L58 k) c58 mi58 mo58 v
theorem lk58 (k : Nat) : LinksOK Try.prog 14 (L58 k) c58 := (And.intro True.intro (And.intro True.intro True.intro))
theorem fn58 (k : Nat) (args : List AV) (x : mi58.den) (r : mo58.den) (h1 : args.length = mi58.items.length) (h2 : mi58.dec (Th.start args) = some x) (h3 : F58 k x = some r) : CallOK Try.prog 58 args (ansOf (outL mo58.items r)) :=
  call_of hm hT (ok_O60 k) (fn := Try.f58) (c := c58) Try.func58 rfl rfl rfl (lk58 k) rfl (by decide) rfl h1 h2 h3
noncomputable def O58 (k : Nat) : Orc := fun R f args K => bif Nat.beq f 58 then callF mi58 mo58 (F58 k) args K else O60 k R f args K
theorem ok_O58 (k : Nat) : OrcOK (O58 k) (CallOK Try.prog) := orc_add (fn58 k) (ok_O60 k)

/-! 59: paydesk/paydeskref02.Field -/
noncomputable def c59 : Code := Try.f59.body.getD .skip
noncomputable def mi59 : Msk := ⟨[(.tmp 0, .val (.int .i64))], []⟩
noncomputable def mo59 : Msk := ⟨[(.tmp 2, .val .bool)], []⟩
noncomputable def L59 (k : Nat) : LOrc := fun _ _ _ _ => none
noncomputable def F59 (k : Nat) (v : mi59.den) : Option mo59.den := runF TI (O58 k) (L59 k) c59 mi59 mo59 v
theorem lk59 (k : Nat) : LinksOK Try.prog 17 (L59 k) c59 := (And.intro True.intro (And.intro True.intro True.intro))
theorem fn59 (k : Nat) (args : List AV) (x : mi59.den) (r : mo59.den) (h1 : args.length = mi59.items.length) (h2 : mi59.dec (Th.start args) = some x) (h3 : F59 k x = some r) : CallOK Try.prog 59 args (ansOf (outL mo59.items r)) :=
  call_of hm hT (ok_O58 k) (fn := Try.f59) (c := c59) Try.func59 rfl rfl rfl (lk59 k) rfl (by decide) rfl h1 h2 h3
noncomputable def O59 (k : Nat) : Orc := fun R f args K => bif Nat.beq f 59 then callF mi59 mo59 (F59 k) args K else O58 k R f args K
theorem ok_O59 (k : Nat) : OrcOK (O59 k) (CallOK Try.prog) := orc_add (fn59 k) (ok_O58 k)

/-! 61: paydesk/paydeskref02.power -/
noncomputable def c61 : Code := Try.f61.body.getD .skip
noncomputable def mi61 : Msk := ⟨[(.tmp 0, .val (.int .i64))], []⟩
noncomputable def mo61 : Msk := ⟨[(.tmp 2, .val (.int .u64))], []⟩
noncomputable def L61_3 (k : Nat) : LOrc := fun _ _ _ _ => none
noncomputable def b61_3 : Code := (findLoop 3 c61).getD .skip
noncomputable def m61_3 : Msk := ⟨[(.tmp 0, .val (.int .i64)), (.tmp 3, .val (.int .u64)), (.tmp 4, .val (.int .i64))], []⟩
noncomputable def x61_3 : List (X × Msk) := [(.exit 0, ⟨[(.tmp 3, .val (.int .u64))], []⟩)]
noncomputable def F61_3 (k : Nat) : Nat → m61_3.den → Option (denE x61_3)
  | 0, _ => none
  | j + 1, v => round TI (O59 k) (L61_3 k) b61_3 m61_3 x61_3 (F61_3 k j) v
theorem lk61_3_ (k : Nat) : LinksOK Try.prog 13 (L61_3 k) b61_3 := (And.intro (And.intro True.intro (And.intro True.intro True.intro)) (And.intro True.intro True.intro))
noncomputable def L61 (k : Nat) : LOrc := fun R lk s K => match lk with
  | .loop r => bif Nat.beq r 3 then link m61_3 x61_3 (F61_3 k k) s K else none
  | .label l => none
theorem lk_L61_3 (k : Nat) : LoopOK Try.prog 13 (L61 k) b61_3 := loopOK_of hm hT (ok_O59 k) (fun _ _ _ h => h) rfl (lk61_3_ k) rfl rfl (F := F61_3 k) (fun _ => rfl) (fun _ _ => rfl) (n := k) fun _ _ _ => rfl
noncomputable def F61 (k : Nat) (v : mi61.den) : Option mo61.den := runF TI (O59 k) (L61 k) c61 mi61 mo61 v
theorem lk61 (k : Nat) : LinksOK Try.prog 13 (L61 k) c61 := (And.intro True.intro (And.intro True.intro (And.intro (And.intro True.intro (lk_L61_3 k)) (And.intro True.intro True.intro))))
theorem fn61 (k : Nat) (args : List AV) (x : mi61.den) (r : mo61.den) (h1 : args.length = mi61.items.length) (h2 : mi61.dec (Th.start args) = some x) (h3 : F61 k x = some r) : CallOK Try.prog 61 args (ansOf (outL mo61.items r)) :=
  call_of hm hT (ok_O59 k) (fn := Try.f61) (c := c61) Try.func61 rfl rfl rfl (lk61 k) rfl (by decide) rfl h1 h2 h3
noncomputable def O61 (k : Nat) : Orc := fun R f args K => bif Nat.beq f 61 then callF mi61 mo61 (F61 k) args K else O59 k R f args K
theorem ok_O61 (k : Nat) : OrcOK (O61 k) (CallOK Try.prog) := orc_add (fn61 k) (ok_O59 k)

/-! 42: paydesk/paydeskref02.Put -/
noncomputable def c42 : Code := Try.f42.body.getD .skip
noncomputable def mi42 : Msk := ⟨[(.tmp 0, .val (.st (.cons (.int .u64) (.cons (.int .u64) .nil)))), (.tmp 1, .val (.int .i64))], []⟩
noncomputable def mo42 : Msk := ⟨[(.res 4, .val (.st (.cons (.int .u64) (.cons (.int .u64) .nil)))), (.tmp 5, .val (.int .i64))], []⟩
noncomputable def L42 (k : Nat) : LOrc := fun _ _ _ _ => none
noncomputable def F42 (k : Nat) (v : mi42.den) : Option mo42.den := runF TI (O61 k) (L42 k) c42 mi42 mo42 v
theorem lk42 (k : Nat) : LinksOK Try.prog 45 (L42 k) c42 := (And.intro True.intro (And.intro (And.intro True.intro (And.intro (And.intro True.intro True.intro) True.intro)) (And.intro (And.intro True.intro (And.intro (And.intro True.intro True.intro) True.intro)) (And.intro (And.intro True.intro (And.intro (And.intro True.intro (And.intro True.intro True.intro)) True.intro)) (And.intro (And.intro True.intro (And.intro True.intro True.intro)) (And.intro True.intro (And.intro True.intro True.intro)))))))
theorem fn42 (k : Nat) (args : List AV) (x : mi42.den) (r : mo42.den) (h1 : args.length = mi42.items.length) (h2 : mi42.dec (Th.start args) = some x) (h3 : F42 k x = some r) : CallOK Try.prog 42 args (ansOf (outL mo42.items r)) :=
  call_of hm hT (ok_O61 k) (fn := Try.f42) (c := c42) Try.func42 rfl rfl rfl (lk42 k) rfl (by decide) rfl h1 h2 h3
noncomputable def O42 (k : Nat) : Orc := fun R f args K => bif Nat.beq f 42 then callF mi42 mo42 (F42 k) args K else O61 k R f args K
theorem ok_O42 (k : Nat) : OrcOK (O42 k) (CallOK Try.prog) := orc_add (fn42 k) (ok_O61 k)

/-! 34: paydesk/paydeskref03.Ahead -/
noncomputable def c34 : Code := Try.f34.body.getD .skip
noncomputable def mi34 : Msk := ⟨[(.tmp 0, .val (.int .i64))], []⟩
noncomputable def mo34 : Msk := ⟨[(.tmp 2, .val (.int .i64))], []⟩
noncomputable def L34 (k : Nat) : LOrc := fun _ _ _ _ => none
noncomputable def F34 (k : Nat) (v : mi34.den) : Option mo34.den := runF TI (O42 k) (L34 k) c34 mi34 mo34 v
theorem lk34 (k : Nat) : LinksOK Try.prog 7 (L34 k) c34 := (And.intro True.intro (And.intro (And.intro True.intro (And.intro (And.intro True.intro True.intro) True.intro)) (And.intro (And.intro True.intro (And.intro (And.intro True.intro True.intro) True.intro)) (And.intro True.intro True.intro))))
theorem fn34 (k : Nat) (args : List AV) (x : mi34.den) (r : mo34.den) (h1 : args.length = mi34.items.length) (h2 : mi34.dec (Th.start args) = some x) (h3 : F34 k x = some r) : CallOK Try.prog 34 args (ansOf (outL mo34.items r)) :=
  call_of hm hT (ok_O42 k) (fn := Try.f34) (c := c34) Try.func34 rfl rfl rfl (lk34 k) rfl (by decide) rfl h1 h2 h3
noncomputable def O34 (k : Nat) : Orc := fun R f args K => bif Nat.beq f 34 then callF mi34 mo34 (F34 k) args K else O42 k R f args K
theorem ok_O34 (k : Nat) : OrcOK (O34 k) (CallOK Try.prog) := orc_add (fn34 k) (ok_O42 k)

/-! 51: paydesk/paydeskref01.Put -/
noncomputable def c51 : Code := Try.f51.body.getD .skip
noncomputable def mi51 : Msk := ⟨[(.tmp 0, .val (.int .u64)), (.tmp 1, .val (.int .i64))], []⟩
noncomputable def mo51 : Msk := ⟨[(.tmp 4, .val .str), (.tmp 5, .val (.int .i64))], []⟩
noncomputable def L51_5 (k : Nat) : LOrc := fun _ _ _ _ => none
noncomputable def b51_5 : Code := (findLoop 5 c51).getD .skip
noncomputable def m51_5 : Msk := ⟨[(.tmp 0, .val (.int .u64)), (.tmp 1, .val (.int .i64)), (.tmp 6, .val .str), (.tmp 7, .val (.int .i64))], []⟩
noncomputable def x51_5 : List (X × Msk) := [(.exit 0, ⟨[(.tmp 0, .val (.int .u64)), (.tmp 6, .val .str)], []⟩)]
noncomputable def F51_5 (k : Nat) : Nat → m51_5.den → Option (denE x51_5)
  | 0, _ => none
  | j + 1, v => round TI (O34 k) (L51_5 k) b51_5 m51_5 x51_5 (F51_5 k j) v
theorem lk51_5_ (k : Nat) : LinksOK Try.prog 32 (L51_5 k) b51_5 := (And.intro (And.intro True.intro (And.intro True.intro True.intro)) (And.intro (And.intro True.intro True.intro) True.intro))
noncomputable def L51 (k : Nat) : LOrc := fun R lk s K => match lk with
  | .loop r => bif Nat.beq r 5 then link m51_5 x51_5 (F51_5 k k) s K else none
  | .label l => none
theorem lk_L51_5 (k : Nat) : LoopOK Try.prog 32 (L51 k) b51_5 := loopOK_of hm hT (ok_O34 k) (fun _ _ _ h => h) rfl (lk51_5_ k) rfl rfl (F := F51_5 k) (fun _ => rfl) (fun _ _ => rfl) (n := k) fun _ _ _ => rfl
noncomputable def F51 (k : Nat) (v : mi51.den) : Option mo51.den := runF TI (O34 k) (L51 k) c51 mi51 mo51 v
theorem lk51 (k : Nat) : LinksOK Try.prog 32 (L51 k) c51 := (And.intro True.intro (And.intro (And.intro True.intro (And.intro (And.intro True.intro True.intro) True.intro)) (And.intro True.intro (And.intro (And.intro True.intro (lk_L51_5 k)) (And.intro (And.intro True.intro (And.intro (And.intro True.intro True.intro) True.intro)) (And.intro True.intro True.intro))))))
theorem fn51 (k : Nat) (args : List AV) (x : mi51.den) (r : mo51.den) (h1 : args.length = mi51.items.length) (h2 : mi51.dec (Th.start args) = some x) (h3 : F51 k x = some r) : CallOK Try.prog 51 args (ansOf (outL mo51.items r)) :=
  call_of hm hT (ok_O34 k) (fn := Try.f51) (c := c51) Try.func51 rfl rfl rfl (lk51 k) rfl (by decide) rfl h1 h2 h3
noncomputable def O51 (k : Nat) : Orc := fun R f args K => bif Nat.beq f 51 then callF mi51 mo51 (F51 k) args K else O34 k R f args K
theorem ok_O51 (k : Nat) : OrcOK (O51 k) (CallOK Try.prog) := orc_add (fn51 k) (ok_O34 k)

/-! 35: paydesk/paydeskref01.Must -/
noncomputable def c35 : Code := Try.f35.body.getD .skip
noncomputable def mi35 : Msk := ⟨[(.tmp 0, .val (.int .u64)), (.tmp 1, .val (.int .i64))], []⟩
noncomputable def mo35 : Msk := ⟨[(.tmp 4, .val .str)], []⟩
noncomputable def L35 (k : Nat) : LOrc := fun _ _ _ _ => none
noncomputable def F35 (k : Nat) (v : mi35.den) : Option mo35.den := runF TI (O51 k) (L35 k) c35 mi35 mo35 v
theorem lk35 (k : Nat) : LinksOK Try.prog 14 (L35 k) c35 := (And.intro True.intro (And.intro True.intro (And.intro True.intro True.intro)))
theorem fn35 (k : Nat) (args : List AV) (x : mi35.den) (r : mo35.den) (h1 : args.length = mi35.items.length) (h2 : mi35.dec (Th.start args) = some x) (h3 : F35 k x = some r) : CallOK Try.prog 35 args (ansOf (outL mo35.items r)) :=
  call_of hm hT (ok_O51 k) (fn := Try.f35) (c := c35) Try.func35 rfl rfl rfl (lk35 k) rfl (by decide) rfl h1 h2 h3
noncomputable def O35 (k : Nat) : Orc := fun R f args K => bif Nat.beq f 35 then callF mi35 mo35 (F35 k) args K else O51 k R f args K
theorem ok_O35 (k : Nat) : OrcOK (O35 k) (CallOK Try.prog) := orc_add (fn35 k) (ok_O51 k)

/-! 15: paydesk/paydeskref03.Write -/
noncomputable def c15 : Code := Try.f15.body.getD .skip
noncomputable def mi15 : Msk := ⟨[(.tmp 0, .val (.int .i64)), (.tmp 1, .val .str)], []⟩
noncomputable def mo15 : Msk := ⟨[(.tmp 4, .row false (.int .u8))], []⟩
noncomputable def L15 (k : Nat) : LOrc := fun _ _ _ _ => none
noncomputable def F15 (k : Nat) (v : mi15.den) : Option mo15.den := runF TI (O35 k) (L15 k) c15 mi15 mo15 v
theorem lk15 (k : Nat) : LinksOK Try.prog 28 (L15 k) c15 := (And.intro True.intro (And.intro True.intro (And.intro True.intro (And.intro (And.intro True.intro (And.intro (And.intro True.intro True.intro) True.intro)) (And.intro True.intro True.intro)))))
theorem fn15 (k : Nat) (args : List AV) (x : mi15.den) (r : mo15.den) (h1 : args.length = mi15.items.length) (h2 : mi15.dec (Th.start args) = some x) (h3 : F15 k x = some r) : CallOK Try.prog 15 args (ansOf (outL mo15.items r)) :=
  call_of hm hT (ok_O35 k) (fn := Try.f15) (c := c15) Try.func15 rfl rfl rfl (lk15 k) rfl (by decide) rfl h1 h2 h3
noncomputable def O15 (k : Nat) : Orc := fun R f args K => bif Nat.beq f 15 then callF mi15 mo15 (F15 k) args K else O35 k R f args K
theorem ok_O15 (k : Nat) : OrcOK (O15 k) (CallOK Try.prog) := orc_add (fn15 k) (ok_O35 k)

/-! 62: paydesk/paydeskref02.bytes -/
noncomputable def c62 : Code := Try.f62.body.getD .skip
noncomputable def mi62 : Msk := ⟨[(.tmp 0, .val (.int .u64))], []⟩
noncomputable def mo62 : Msk := ⟨[(.tmp 2, .row false (.int .u8))], []⟩
noncomputable def L62_3 (k : Nat) : LOrc := fun _ _ _ _ => none
noncomputable def b62_3 : Code := (findLoop 3 c62).getD .skip
noncomputable def m62_3 : Msk := ⟨[(.tmp 0, .val (.int .u64)), (.tmp 3, .row false (.int .u8)), (.tmp 4, .val (.int .i64))], []⟩
noncomputable def x62_3 : List (X × Msk) := [(.exit 0, ⟨[(.tmp 3, .row false (.int .u8))], []⟩)]
noncomputable def F62_3 (k : Nat) : Nat → m62_3.den → Option (denE x62_3)
  | 0, _ => none
  | j + 1, v => round TI (O15 k) (L62_3 k) b62_3 m62_3 x62_3 (F62_3 k j) v
theorem lk62_3_ (k : Nat) : LinksOK Try.prog 19 (L62_3 k) b62_3 := (And.intro (And.intro True.intro (And.intro True.intro True.intro)) (And.intro (And.intro True.intro True.intro) True.intro))
noncomputable def L62 (k : Nat) : LOrc := fun R lk s K => match lk with
  | .loop r => bif Nat.beq r 3 then link m62_3 x62_3 (F62_3 k k) s K else none
  | .label l => none
theorem lk_L62_3 (k : Nat) : LoopOK Try.prog 19 (L62 k) b62_3 := loopOK_of hm hT (ok_O15 k) (fun _ _ _ h => h) rfl (lk62_3_ k) rfl rfl (F := F62_3 k) (fun _ => rfl) (fun _ _ => rfl) (n := k) fun _ _ _ => rfl
noncomputable def F62 (k : Nat) (v : mi62.den) : Option mo62.den := runF TI (O15 k) (L62 k) c62 mi62 mo62 v
theorem lk62 (k : Nat) : LinksOK Try.prog 19 (L62 k) c62 := (And.intro True.intro (And.intro True.intro (And.intro (And.intro True.intro (lk_L62_3 k)) (And.intro True.intro True.intro))))
theorem fn62 (k : Nat) (args : List AV) (x : mi62.den) (r : mo62.den) (h1 : args.length = mi62.items.length) (h2 : mi62.dec (Th.start args) = some x) (h3 : F62 k x = some r) : CallOK Try.prog 62 args (ansOf (outL mo62.items r)) :=
  call_of hm hT (ok_O15 k) (fn := Try.f62) (c := c62) Try.func62 rfl rfl rfl (lk62 k) rfl (by decide) rfl h1 h2 h3
noncomputable def O62 (k : Nat) : Orc := fun R f args K => bif Nat.beq f 62 then callF mi62 mo62 (F62 k) args K else O15 k R f args K
theorem ok_O62 (k : Nat) : OrcOK (O62 k) (CallOK Try.prog) := orc_add (fn62 k) (ok_O15 k)

/-! 43: paydesk/paydeskref02.Bytes -/
noncomputable def c43 : Code := Try.f43.body.getD .skip
noncomputable def mi43 : Msk := ⟨[(.tmp 0, .val (.st (.cons (.int .u64) (.cons (.int .u64) .nil))))], []⟩
noncomputable def mo43 : Msk := ⟨[(.tmp 2, .row false (.int .u8))], []⟩
noncomputable def L43 (k : Nat) : LOrc := fun _ _ _ _ => none
noncomputable def F43 (k : Nat) (v : mi43.den) : Option mo43.den := runF TI (O62 k) (L43 k) c43 mi43 mo43 v
theorem lk43 (k : Nat) : LinksOK Try.prog 16 (L43 k) c43 := (And.intro True.intro (And.intro (And.intro True.intro (And.intro (And.intro True.intro True.intro) True.intro)) (And.intro True.intro True.intro)))
theorem fn43 (k : Nat) (args : List AV) (x : mi43.den) (r : mo43.den) (h1 : args.length = mi43.items.length) (h2 : mi43.dec (Th.start args) = some x) (h3 : F43 k x = some r) : CallOK Try.prog 43 args (ansOf (outL mo43.items r)) :=
  call_of hm hT (ok_O62 k) (fn := Try.f43) (c := c43) Try.func43 rfl rfl rfl (lk43 k) rfl (by decide) rfl h1 h2 h3
noncomputable def O43 (k : Nat) : Orc := fun R f args K => bif Nat.beq f 43 then callF mi43 mo43 (F43 k) args K else O62 k R f args K
theorem ok_O43 (k : Nat) : OrcOK (O43 k) (CallOK Try.prog) := orc_add (fn43 k) (ok_O62 k)

/-! 22: paydesk/paydeskref04.Write -/
noncomputable def c22 : Code := Try.f22.body.getD .skip
noncomputable def mi22 : Msk := ⟨[(.tmp 0, .val (.st (.cons .str (.cons (.slice (.st (.cons (.int .i64) (.cons .str .nil)))) .nil))))], []⟩
noncomputable def mo22 : Msk := ⟨[(.tmp 2, .row false (.int .u8))], []⟩
noncomputable def L22_4 (k : Nat) : LOrc := fun _ _ _ _ => none
noncomputable def b22_4 : Code := (findLoop 4 c22).getD .skip
noncomputable def m22_4 : Msk := ⟨[(.tmp 1, .ptr 1 0), (.tmp 3, .ptr 3 0), (.tmp 4, .row false (.int .u8)), (.tmp 5, .val (.int .i64)), (.cell 1 0, .val .str), (.cell 1 1, .val (.slice (.st (.cons (.int .i64) (.cons .str .nil))))), (.cell 3 0, .val (.int .u64)), (.cell 3 1, .val (.int .u64))], [(1, 2), (3, 2)]⟩
noncomputable def x22_4 : List (X × Msk) := [(.exit 0, ⟨[(.tmp 1, .ptr 1 0), (.tmp 3, .ptr 3 0), (.tmp 4, .row false (.int .u8)), (.cell 1 0, .val .str), (.cell 1 1, .val (.slice (.st (.cons (.int .i64) (.cons .str .nil))))), (.cell 3 0, .val (.int .u64)), (.cell 3 1, .val (.int .u64))], [(1, 2), (3, 2)]⟩)]
noncomputable def F22_4 (k : Nat) : Nat → m22_4.den → Option (denE x22_4)
  | 0, _ => none
  | j + 1, v => round TI (O43 k) (L22_4 k) b22_4 m22_4 x22_4 (F22_4 k j) v
theorem lk22_4_ (k : Nat) : LinksOK Try.prog 50 (L22_4 k) b22_4 := (And.intro (And.intro True.intro (And.intro True.intro True.intro)) (And.intro (And.intro True.intro (And.intro True.intro True.intro)) True.intro))
noncomputable def L22 (k : Nat) : LOrc := fun R lk s K => match lk with
  | .loop r => bif Nat.beq r 4 then link m22_4 x22_4 (F22_4 k k) s K else none
  | .label l => none
theorem lk_L22_4 (k : Nat) : LoopOK Try.prog 50 (L22 k) b22_4 := loopOK_of hm hT (ok_O43 k) (fun _ _ _ h => h) rfl (lk22_4_ k) rfl rfl (F := F22_4 k) (fun _ => rfl) (fun _ _ => rfl) (n := k) fun _ _ _ => rfl
noncomputable def F22 (k : Nat) (v : mi22.den) : Option mo22.den := runF TI (O43 k) (L22 k) c22 mi22 mo22 v
theorem lk22 (k : Nat) : LinksOK Try.prog 50 (L22 k) c22 := (And.intro True.intro (And.intro True.intro (And.intro True.intro (And.intro (And.intro True.intro (lk_L22_4 k)) (And.intro True.intro True.intro)))))
theorem fn22 (k : Nat) (args : List AV) (x : mi22.den) (r : mo22.den) (h1 : args.length = mi22.items.length) (h2 : mi22.dec (Th.start args) = some x) (h3 : F22 k x = some r) : CallOK Try.prog 22 args (ansOf (outL mo22.items r)) :=
  call_of hm hT (ok_O43 k) (fn := Try.f22) (c := c22) Try.func22 rfl rfl rfl (lk22 k) rfl (by decide) rfl h1 h2 h3
noncomputable def O22 (k : Nat) : Orc := fun R f args K => bif Nat.beq f 22 then callF mi22 mo22 (F22 k) args K else O43 k R f args K
theorem ok_O22 (k : Nat) : OrcOK (O22 k) (CallOK Try.prog) := orc_add (fn22 k) (ok_O43 k)

/-! 24: paydesk/paydeskref04.Get -/
noncomputable def c24 : Code := Try.f24.body.getD .skip
noncomputable def mi24 : Msk := ⟨[(.tmp 0, .val (.st (.cons .str (.cons (.slice (.st (.cons (.int .i64) (.cons .str .nil)))) .nil)))), (.tmp 1, .val (.int .i64))], []⟩
noncomputable def mo24 : Msk := ⟨[(.tmp 4, .val .str), (.tmp 5, .val .bool)], []⟩
noncomputable def L24_2 (k : Nat) : LOrc := fun _ _ _ _ => none
noncomputable def b24_2 : Code := (findLoop 2 c24).getD .skip
noncomputable def m24_2 : Msk := ⟨[(.tmp 1, .val (.int .i64)), (.tmp 2, .ptr 2 0), (.tmp 6, .val (.int .i64)), (.cell 2 0, .val .str), (.cell 2 1, .val (.slice (.st (.cons (.int .i64) (.cons .str .nil)))))], [(2, 2)]⟩
noncomputable def x24_2 : List (X × Msk) := [(.exit 0, ⟨[], []⟩), (.ret, ⟨[(.tmp 4, .val .str), (.tmp 5, .val .bool)], []⟩)]
noncomputable def F24_2 (k : Nat) : Nat → m24_2.den → Option (denE x24_2)
  | 0, _ => none
  | j + 1, v => round TI (O22 k) (L24_2 k) b24_2 m24_2 x24_2 (F24_2 k j) v
theorem lk24_2_ (k : Nat) : LinksOK Try.prog 28 (L24_2 k) b24_2 := (And.intro (And.intro True.intro (And.intro True.intro True.intro)) (And.intro (And.intro True.intro (And.intro (And.intro True.intro True.intro) True.intro)) True.intro))
noncomputable def L24 (k : Nat) : LOrc := fun R lk s K => match lk with
  | .loop r => bif Nat.beq r 2 then link m24_2 x24_2 (F24_2 k k) s K else none
  | .label l => none
theorem lk_L24_2 (k : Nat) : LoopOK Try.prog 28 (L24 k) b24_2 := loopOK_of hm hT (ok_O22 k) (fun _ _ _ h => h) rfl (lk24_2_ k) rfl rfl (F := F24_2 k) (fun _ => rfl) (fun _ _ => rfl) (n := k) fun _ _ _ => rfl
noncomputable def F24 (k : Nat) (v : mi24.den) : Option mo24.den := runF TI (O22 k) (L24 k) c24 mi24 mo24 v
theorem lk24 (k : Nat) : LinksOK Try.prog 28 (L24 k) c24 := (And.intro True.intro (And.intro (And.intro True.intro (lk_L24_2 k)) (And.intro True.intro True.intro)))
theorem fn24 (k : Nat) (args : List AV) (x : mi24.den) (r : mo24.den) (h1 : args.length = mi24.items.length) (h2 : mi24.dec (Th.start args) = some x) (h3 : F24 k x = some r) : CallOK Try.prog 24 args (ansOf (outL mo24.items r)) :=
  call_of hm hT (ok_O22 k) (fn := Try.f24) (c := c24) Try.func24 rfl rfl rfl (lk24 k) rfl (by decide) rfl h1 h2 h3
noncomputable def O24 (k : Nat) : Orc := fun R f args K => bif Nat.beq f 24 then callF mi24 mo24 (F24 k) args K else O22 k R f args K
theorem ok_O24 (k : Nat) : OrcOK (O24 k) (CallOK Try.prog) := orc_add (fn24 k) (ok_O22 k)

/-! 65: paydesk/paydeskref02.value -/
noncomputable def c65 : Code := Try.f65.body.getD .skip
noncomputable def mi65 : Msk := ⟨[(.tmp 0, .val (.slice (.int .u8)))], []⟩
noncomputable def mo65 : Msk := ⟨[(.tmp 2, .val (.int .u64))], []⟩
noncomputable def L65_3 (k : Nat) : LOrc := fun _ _ _ _ => none
noncomputable def b65_3 : Code := (findLoop 3 c65).getD .skip
noncomputable def m65_3 : Msk := ⟨[(.tmp 0, .val (.slice (.int .u8))), (.tmp 3, .val (.int .u64)), (.tmp 4, .val (.int .i64))], []⟩
noncomputable def x65_3 : List (X × Msk) := [(.exit 0, ⟨[(.tmp 3, .val (.int .u64))], []⟩)]
noncomputable def F65_3 (k : Nat) : Nat → m65_3.den → Option (denE x65_3)
  | 0, _ => none
  | j + 1, v => round TI (O24 k) (L65_3 k) b65_3 m65_3 x65_3 (F65_3 k j) v
theorem lk65_3_ (k : Nat) : LinksOK Try.prog 18 (L65_3 k) b65_3 := (And.intro (And.intro True.intro (And.intro True.intro True.intro)) (And.intro True.intro True.intro))
noncomputable def L65 (k : Nat) : LOrc := fun R lk s K => match lk with
  | .loop r => bif Nat.beq r 3 then link m65_3 x65_3 (F65_3 k k) s K else none
  | .label l => none
theorem lk_L65_3 (k : Nat) : LoopOK Try.prog 18 (L65 k) b65_3 := loopOK_of hm hT (ok_O24 k) (fun _ _ _ h => h) rfl (lk65_3_ k) rfl rfl (F := F65_3 k) (fun _ => rfl) (fun _ _ => rfl) (n := k) fun _ _ _ => rfl
noncomputable def F65 (k : Nat) (v : mi65.den) : Option mo65.den := runF TI (O24 k) (L65 k) c65 mi65 mo65 v
theorem lk65 (k : Nat) : LinksOK Try.prog 18 (L65 k) c65 := (And.intro True.intro (And.intro True.intro (And.intro (And.intro True.intro (lk_L65_3 k)) (And.intro True.intro True.intro))))
theorem fn65 (k : Nat) (args : List AV) (x : mi65.den) (r : mo65.den) (h1 : args.length = mi65.items.length) (h2 : mi65.dec (Th.start args) = some x) (h3 : F65 k x = some r) : CallOK Try.prog 65 args (ansOf (outL mo65.items r)) :=
  call_of hm hT (ok_O24 k) (fn := Try.f65) (c := c65) Try.func65 rfl rfl rfl (lk65 k) rfl (by decide) rfl h1 h2 h3
noncomputable def O65 (k : Nat) : Orc := fun R f args K => bif Nat.beq f 65 then callF mi65 mo65 (F65 k) args K else O24 k R f args K
theorem ok_O65 (k : Nat) : OrcOK (O65 k) (CallOK Try.prog) := orc_add (fn65 k) (ok_O24 k)

/-! 47: paydesk/paydeskref02.Read -/
noncomputable def c47 : Code := Try.f47.body.getD .skip
noncomputable def mi47 : Msk := ⟨[(.tmp 0, .val (.slice (.int .u8)))], []⟩
noncomputable def mo47 : Msk := ⟨[(.res 2, .val (.st (.cons (.int .u64) (.cons (.int .u64) .nil)))), (.tmp 3, .val (.int .i64)), (.tmp 4, .val (.int .i64))], []⟩
noncomputable def L47 (k : Nat) : LOrc := fun _ _ _ _ => none
noncomputable def F47 (k : Nat) (v : mi47.den) : Option mo47.den := runF TI (O65 k) (L47 k) c47 mi47 mo47 v
theorem lk47 (k : Nat) : LinksOK Try.prog 39 (L47 k) c47 := (And.intro True.intro (And.intro (And.intro True.intro (And.intro (And.intro True.intro True.intro) True.intro)) (And.intro True.intro (And.intro True.intro (And.intro (And.intro True.intro (And.intro (And.intro True.intro True.intro) True.intro)) (And.intro (And.intro True.intro (And.intro (And.intro True.intro True.intro) True.intro)) (And.intro True.intro True.intro)))))))
theorem fn47 (k : Nat) (args : List AV) (x : mi47.den) (r : mo47.den) (h1 : args.length = mi47.items.length) (h2 : mi47.dec (Th.start args) = some x) (h3 : F47 k x = some r) : CallOK Try.prog 47 args (ansOf (outL mo47.items r)) :=
  call_of hm hT (ok_O65 k) (fn := Try.f47) (c := c47) Try.func47 rfl rfl rfl (lk47 k) rfl (by decide) rfl h1 h2 h3
noncomputable def O47 (k : Nat) : Orc := fun R f args K => bif Nat.beq f 47 then callF mi47 mo47 (F47 k) args K else O65 k R f args K
theorem ok_O47 (k : Nat) : OrcOK (O47 k) (CallOK Try.prog) := orc_add (fn47 k) (ok_O65 k)

/-! 48: paydesk/paydeskref02.Has -/
noncomputable def c48 : Code := Try.f48.body.getD .skip
noncomputable def mi48 : Msk := ⟨[(.tmp 0, .val (.st (.cons (.int .u64) (.cons (.int .u64) .nil)))), (.tmp 1, .val (.int .i64))], []⟩
noncomputable def mo48 : Msk := ⟨[(.tmp 4, .val .bool)], []⟩
noncomputable def L48 (k : Nat) : LOrc := fun _ _ _ _ => none
noncomputable def F48 (k : Nat) (v : mi48.den) : Option mo48.den := runF TI (O47 k) (L48 k) c48 mi48 mo48 v
theorem lk48 (k : Nat) : LinksOK Try.prog 12 (L48 k) c48 := (And.intro True.intro (And.intro True.intro True.intro))
theorem fn48 (k : Nat) (args : List AV) (x : mi48.den) (r : mo48.den) (h1 : args.length = mi48.items.length) (h2 : mi48.dec (Th.start args) = some x) (h3 : F48 k x = some r) : CallOK Try.prog 48 args (ansOf (outL mo48.items r)) :=
  call_of hm hT (ok_O47 k) (fn := Try.f48) (c := c48) Try.func48 rfl rfl rfl (lk48 k) rfl (by decide) rfl h1 h2 h3
noncomputable def O48 (k : Nat) : Orc := fun R f args K => bif Nat.beq f 48 then callF mi48 mo48 (F48 k) args K else O47 k R f args K
theorem ok_O48 (k : Nat) : OrcOK (O48 k) (CallOK Try.prog) := orc_add (fn48 k) (ok_O47 k)

/-! 53: paydesk/paydeskref01.Is -/
noncomputable def c53 : Code := Try.f53.body.getD .skip
noncomputable def mi53 : Msk := ⟨[(.tmp 0, .val .str)], []⟩
noncomputable def mo53 : Msk := ⟨[(.tmp 2, .val .bool)], []⟩
noncomputable def L53_2 (k : Nat) : LOrc := fun _ _ _ _ => none
noncomputable def b53_2 : Code := (findLoop 2 c53).getD .skip
noncomputable def m53_2 : Msk := ⟨[(.tmp 0, .val .str), (.tmp 3, .val (.int .i64))], []⟩
noncomputable def x53_2 : List (X × Msk) := [(.exit 0, ⟨[(.tmp 0, .val .str)], []⟩), (.ret, ⟨[(.tmp 2, .val .bool)], []⟩)]
noncomputable def F53_2 (k : Nat) : Nat → m53_2.den → Option (denE x53_2)
  | 0, _ => none
  | j + 1, v => round TI (O48 k) (L53_2 k) b53_2 m53_2 x53_2 (F53_2 k j) v
theorem lk53_2_ (k : Nat) : LinksOK Try.prog 23 (L53_2 k) b53_2 := (And.intro (And.intro True.intro (And.intro True.intro True.intro)) (And.intro (And.intro True.intro (And.intro (And.intro True.intro True.intro) True.intro)) True.intro))
noncomputable def L53 (k : Nat) : LOrc := fun R lk s K => match lk with
  | .loop r => bif Nat.beq r 2 then link m53_2 x53_2 (F53_2 k k) s K else none
  | .label l => none
theorem lk_L53_2 (k : Nat) : LoopOK Try.prog 23 (L53 k) b53_2 := loopOK_of hm hT (ok_O48 k) (fun _ _ _ h => h) rfl (lk53_2_ k) rfl rfl (F := F53_2 k) (fun _ => rfl) (fun _ _ => rfl) (n := k) fun _ _ _ => rfl
noncomputable def F53 (k : Nat) (v : mi53.den) : Option mo53.den := runF TI (O48 k) (L53 k) c53 mi53 mo53 v
theorem lk53 (k : Nat) : LinksOK Try.prog 23 (L53 k) c53 := (And.intro True.intro (And.intro (And.intro True.intro (lk_L53_2 k)) (And.intro True.intro True.intro)))
theorem fn53 (k : Nat) (args : List AV) (x : mi53.den) (r : mo53.den) (h1 : args.length = mi53.items.length) (h2 : mi53.dec (Th.start args) = some x) (h3 : F53 k x = some r) : CallOK Try.prog 53 args (ansOf (outL mo53.items r)) :=
  call_of hm hT (ok_O48 k) (fn := Try.f53) (c := c53) Try.func53 rfl rfl rfl (lk53 k) rfl (by decide) rfl h1 h2 h3
noncomputable def O53 (k : Nat) : Orc := fun R f args K => bif Nat.beq f 53 then callF mi53 mo53 (F53 k) args K else O48 k R f args K
theorem ok_O53 (k : Nat) : OrcOK (O53 k) (CallOK Try.prog) := orc_add (fn53 k) (ok_O48 k)

/-! 37: paydesk/paydeskref01.Get -/
noncomputable def c37 : Code := Try.f37.body.getD .skip
noncomputable def mi37 : Msk := ⟨[(.tmp 0, .val .str)], []⟩
noncomputable def mo37 : Msk := ⟨[(.tmp 2, .val (.int .u64)), (.tmp 3, .val (.int .i64))], []⟩
noncomputable def L37_9 (k : Nat) : LOrc := fun _ _ _ _ => none
noncomputable def b37_9 : Code := (findLoop 9 c37).getD .skip
noncomputable def m37_9 : Msk := ⟨[(.tmp 0, .val .str), (.tmp 4, .val (.int .u64)), (.tmp 5, .val (.int .i64))], []⟩
noncomputable def x37_9 : List (X × Msk) := [(.exit 0, ⟨[(.tmp 4, .val (.int .u64))], []⟩)]
noncomputable def F37_9 (k : Nat) : Nat → m37_9.den → Option (denE x37_9)
  | 0, _ => none
  | j + 1, v => round TI (O53 k) (L37_9 k) b37_9 m37_9 x37_9 (F37_9 k j) v
theorem lk37_9_ (k : Nat) : LinksOK Try.prog 30 (L37_9 k) b37_9 := (And.intro (And.intro True.intro (And.intro True.intro True.intro)) (And.intro True.intro True.intro))
noncomputable def L37 (k : Nat) : LOrc := fun R lk s K => match lk with
  | .loop r => bif Nat.beq r 9 then link m37_9 x37_9 (F37_9 k k) s K else none
  | .label l => none
theorem lk_L37_9 (k : Nat) : LoopOK Try.prog 30 (L37 k) b37_9 := loopOK_of hm hT (ok_O53 k) (fun _ _ _ h => h) rfl (lk37_9_ k) rfl rfl (F := F37_9 k) (fun _ => rfl) (fun _ _ => rfl) (n := k) fun _ _ _ => rfl
noncomputable def F37 (k : Nat) (v : mi37.den) : Option mo37.den := runF TI (O53 k) (L37 k) c37 mi37 mo37 v
theorem lk37 (k : Nat) : LinksOK Try.prog 30 (L37 k) c37 := (And.intro True.intro (And.intro (And.intro True.intro (And.intro (And.intro True.intro True.intro) True.intro)) (And.intro (And.intro True.intro (And.intro (And.intro True.intro True.intro) True.intro)) (And.intro (And.intro True.intro (And.intro (And.intro True.intro True.intro) True.intro)) (And.intro True.intro (And.intro (And.intro True.intro (lk_L37_9 k)) (And.intro True.intro True.intro)))))))
theorem fn37 (k : Nat) (args : List AV) (x : mi37.den) (r : mo37.den) (h1 : args.length = mi37.items.length) (h2 : mi37.dec (Th.start args) = some x) (h3 : F37 k x = some r) : CallOK Try.prog 37 args (ansOf (outL mo37.items r)) :=
  call_of hm hT (ok_O53 k) (fn := Try.f37) (c := c37) Try.func37 rfl rfl rfl (lk37 k) rfl (by decide) rfl h1 h2 h3
noncomputable def O37 (k : Nat) : Orc := fun R f args K => bif Nat.beq f 37 then callF mi37 mo37 (F37 k) args K else O53 k R f args K
theorem ok_O37 (k : Nat) : OrcOK (O37 k) (CallOK Try.prog) := orc_add (fn37 k) (ok_O53 k)

/-! 17: paydesk/paydeskref03.Read -/
noncomputable def c17 : Code := Try.f17.body.getD .skip
noncomputable def mi17 : Msk := ⟨[(.tmp 0, .val (.int .i64)), (.tmp 1, .val (.slice (.int .u8)))], []⟩
noncomputable def mo17 : Msk := ⟨[(.tmp 4, .val .str), (.tmp 5, .val (.int .i64)), (.tmp 6, .val (.int .i64))], []⟩
noncomputable def L17 (k : Nat) : LOrc := fun _ _ _ _ => none
noncomputable def F17 (k : Nat) (v : mi17.den) : Option mo17.den := runF TI (O37 k) (L17 k) c17 mi17 mo17 v
theorem lk17 (k : Nat) : LinksOK Try.prog 74 (L17 k) c17 := (And.intro True.intro (And.intro True.intro (And.intro (And.intro True.intro (And.intro (And.intro True.intro True.intro) True.intro)) (And.intro True.intro (And.intro True.intro (And.intro (And.intro True.intro (And.intro (And.intro (And.intro True.intro (And.intro (And.intro True.intro True.intro) True.intro)) (And.intro True.intro (And.intro (And.intro True.intro (And.intro (And.intro True.intro True.intro) True.intro)) (And.intro True.intro (And.intro True.intro (And.intro (And.intro True.intro True.intro) True.intro)))))) True.intro)) (And.intro (And.intro True.intro (And.intro (And.intro True.intro True.intro) True.intro)) (And.intro True.intro (And.intro (And.intro True.intro (And.intro (And.intro True.intro True.intro) True.intro)) (And.intro True.intro True.intro))))))))))
theorem fn17 (k : Nat) (args : List AV) (x : mi17.den) (r : mo17.den) (h1 : args.length = mi17.items.length) (h2 : mi17.dec (Th.start args) = some x) (h3 : F17 k x = some r) : CallOK Try.prog 17 args (ansOf (outL mo17.items r)) :=
  call_of hm hT (ok_O37 k) (fn := Try.f17) (c := c17) Try.func17 rfl rfl rfl (lk17 k) rfl (by decide) rfl h1 h2 h3
noncomputable def O17 (k : Nat) : Orc := fun R f args K => bif Nat.beq f 17 then callF mi17 mo17 (F17 k) args K else O37 k R f args K
theorem ok_O17 (k : Nat) : OrcOK (O17 k) (CallOK Try.prog) := orc_add (fn17 k) (ok_O37 k)

/-! 26: paydesk/paydeskref04.Read -/
noncomputable def c26 : Code := Try.f26.body.getD .skip
noncomputable def mi26 : Msk := ⟨[(.tmp 0, .val (.slice (.int .u8)))], []⟩
noncomputable def mo26 : Msk := ⟨[(.res 2, .val (.st (.cons .str (.cons (.slice (.st (.cons (.int .i64) (.cons .str .nil)))) .nil)))), (.tmp 3, .val (.int .i64))], []⟩
noncomputable def L26_11 (k : Nat) : LOrc := fun _ _ _ _ => none
noncomputable def b26_11 : Code := (findLoop 11 c26).getD .skip
noncomputable def m26_11 : Msk := ⟨[(.tmp 0, .val (.slice (.int .u8))), (.tmp 2, .ptr 2 0), (.tmp 4, .ptr 4 0), (.tmp 7, .ptr 7 0), (.tmp 8, .val (.int .i64)), (.tmp 9, .val (.int .i64)), (.cell 2 0, .val .str), (.cell 2 1, .row false (.st (.cons (.int .i64) (.cons .str .nil)))), (.cell 4 0, .val (.int .u64)), (.cell 4 1, .val (.int .u64)), (.cell 7 0, .val .str), (.cell 7 1, .row false (.st (.cons (.int .i64) (.cons .str .nil))))], [(2, 2), (4, 2), (7, 2)]⟩
noncomputable def x26_11 : List (X × Msk) := [(.exit 0, ⟨[(.tmp 0, .val (.slice (.int .u8))), (.tmp 2, .ptr 2 0), (.tmp 7, .ptr 7 0), (.tmp 8, .val (.int .i64)), (.cell 2 0, .val .str), (.cell 2 1, .row false (.st (.cons (.int .i64) (.cons .str .nil)))), (.cell 7 0, .val .str), (.cell 7 1, .row false (.st (.cons (.int .i64) (.cons .str .nil))))], [(2, 2), (7, 2)]⟩), (.ret, ⟨[(.tmp 2, .ptr 2 0), (.tmp 3, .val (.int .i64)), (.cell 2 0, .val .str), (.cell 2 1, .row false (.st (.cons (.int .i64) (.cons .str .nil))))], [(2, 2)]⟩)]
noncomputable def F26_11 (k : Nat) : Nat → m26_11.den → Option (denE x26_11)
  | 0, _ => none
  | j + 1, v => round TI (O17 k) (L26_11 k) b26_11 m26_11 x26_11 (F26_11 k j) v
theorem lk26_11_ (k : Nat) : LinksOK Try.prog 83 (L26_11 k) b26_11 := (And.intro (And.intro True.intro (And.intro True.intro True.intro)) (And.intro (And.intro (And.intro True.intro (And.intro True.intro True.intro)) (And.intro True.intro (And.intro (And.intro True.intro (And.intro (And.intro True.intro True.intro) True.intro)) (And.intro True.intro True.intro)))) True.intro))
noncomputable def L26 (k : Nat) : LOrc := fun R lk s K => match lk with
  | .loop r => bif Nat.beq r 11 then link m26_11 x26_11 (F26_11 k k) s K else none
  | .label l => none
theorem lk_L26_11 (k : Nat) : LoopOK Try.prog 83 (L26 k) b26_11 := loopOK_of hm hT (ok_O17 k) (fun _ _ _ h => h) rfl (lk26_11_ k) rfl rfl (F := F26_11 k) (fun _ => rfl) (fun _ _ => rfl) (n := k) fun _ _ _ => rfl
noncomputable def F26 (k : Nat) (v : mi26.den) : Option mo26.den := runF TI (O17 k) (L26 k) c26 mi26 mo26 v
theorem lk26 (k : Nat) : LinksOK Try.prog 83 (L26 k) c26 := (And.intro True.intro (And.intro (And.intro True.intro (And.intro (And.intro True.intro True.intro) True.intro)) (And.intro (And.intro True.intro (And.intro (And.intro True.intro True.intro) True.intro)) (And.intro True.intro (And.intro (And.intro True.intro (And.intro (And.intro True.intro True.intro) True.intro)) (And.intro True.intro (And.intro True.intro (And.intro (And.intro True.intro (lk_L26_11 k)) (And.intro (And.intro True.intro (And.intro (And.intro True.intro True.intro) True.intro)) (And.intro (And.intro True.intro (And.intro (And.intro True.intro True.intro) True.intro)) (And.intro True.intro True.intro)))))))))))
theorem fn26 (k : Nat) (args : List AV) (x : mi26.den) (r : mo26.den) (h1 : args.length = mi26.items.length) (h2 : mi26.dec (Th.start args) = some x) (h3 : F26 k x = some r) : CallOK Try.prog 26 args (ansOf (outL mo26.items r)) :=
  call_of hm hT (ok_O17 k) (fn := Try.f26) (c := c26) Try.func26 rfl rfl rfl (lk26 k) rfl (by decide) rfl h1 h2 h3
noncomputable def O26 (k : Nat) : Orc := fun R f args K => bif Nat.beq f 26 then callF mi26 mo26 (F26 k) args K else O17 k R f args K
theorem ok_O26 (k : Nat) : OrcOK (O26 k) (CallOK Try.prog) := orc_add (fn26 k) (ok_O17 k)

/-! 6: paydesk/paydesklaw04.MessageRight -/
noncomputable def c6 : Code := Try.f6.body.getD .skip
noncomputable def mi6 : Msk := ⟨[(.tmp 0, .val (.st (.cons .str (.cons (.slice (.st (.cons (.int .i64) (.cons .str .nil)))) .nil)))), (.tmp 1, .val (.int .i64)), (.tmp 2, .val (.slice (.int .u8)))], []⟩
noncomputable def mo6 : Msk := ⟨[(.tmp 6, .val .bool)], []⟩
noncomputable def L6 (k : Nat) : LOrc := fun _ _ _ _ => none
noncomputable def F6 (k : Nat) (v : mi6.den) : Option mo6.den := runF TI (O26 k) (L6 k) c6 mi6 mo6 v
theorem lk6 (k : Nat) : LinksOK Try.prog 107 (L6 k) c6 := (And.intro True.intro (And.intro (And.intro True.intro (And.intro (And.intro True.intro True.intro) True.intro)) (And.intro (And.intro True.intro (And.intro (And.intro True.intro True.intro) True.intro)) (And.intro True.intro (And.intro True.intro (And.intro (And.intro True.intro (And.intro (And.intro True.intro True.intro) True.intro)) (And.intro True.intro (And.intro True.intro (And.intro True.intro (And.intro True.intro (And.intro True.intro True.intro)))))))))))
theorem fn6 (k : Nat) (args : List AV) (x : mi6.den) (r : mo6.den) (h1 : args.length = mi6.items.length) (h2 : mi6.dec (Th.start args) = some x) (h3 : F6 k x = some r) : CallOK Try.prog 6 args (ansOf (outL mo6.items r)) :=
  call_of hm hT (ok_O26 k) (fn := Try.f6) (c := c6) Try.func6 rfl rfl rfl (lk6 k) rfl (by decide) rfl h1 h2 h3
noncomputable def O6 (k : Nat) : Orc := fun R f args K => bif Nat.beq f 6 then callF mi6 mo6 (F6 k) args K else O26 k R f args K
theorem ok_O6 (k : Nat) : OrcOK (O6 k) (CallOK Try.prog) := orc_add (fn6 k) (ok_O26 k)

/-! 7: paydesk/paydesklaw04.MessageBack -/
noncomputable def c7 : Code := Try.f7.body.getD .skip
noncomputable def mi7 : Msk := ⟨[(.tmp 0, .val (.st (.cons .str (.cons (.slice (.st (.cons (.int .i64) (.cons .str .nil)))) .nil)))), (.tmp 1, .val (.st (.cons .str (.cons (.slice (.st (.cons (.int .i64) (.cons .str .nil)))) .nil)))), (.tmp 2, .val (.slice (.int .u8))), (.tmp 3, .val (.int .u16))], []⟩
noncomputable def mo7 : Msk := ⟨[(.tmp 8, .val .bool)], []⟩
noncomputable def L7 (k : Nat) : LOrc := fun _ _ _ _ => none
noncomputable def F7 (k : Nat) (v : mi7.den) : Option mo7.den := runF TI (O6 k) (L7 k) c7 mi7 mo7 v
theorem lk7 (k : Nat) : LinksOK Try.prog 141 (L7 k) c7 := (And.intro True.intro (And.intro (And.intro True.intro (And.intro (And.intro True.intro True.intro) True.intro)) (And.intro (And.intro True.intro (And.intro (And.intro True.intro True.intro) True.intro)) (And.intro True.intro (And.intro True.intro (And.intro (And.intro True.intro (And.intro (And.intro True.intro (And.intro True.intro (And.intro True.intro (And.intro True.intro (And.intro (And.intro True.intro True.intro) True.intro))))) True.intro)) (And.intro True.intro (And.intro (And.intro True.intro (And.intro (And.intro True.intro True.intro) True.intro)) (And.intro True.intro (And.intro True.intro True.intro))))))))))
theorem fn7 (k : Nat) (args : List AV) (x : mi7.den) (r : mo7.den) (h1 : args.length = mi7.items.length) (h2 : mi7.dec (Th.start args) = some x) (h3 : F7 k x = some r) : CallOK Try.prog 7 args (ansOf (outL mo7.items r)) :=
  call_of hm hT (ok_O6 k) (fn := Try.f7) (c := c7) Try.func7 rfl rfl rfl (lk7 k) rfl (by decide) rfl h1 h2 h3
noncomputable def O7 (k : Nat) : Orc := fun R f args K => bif Nat.beq f 7 then callF mi7 mo7 (F7 k) args K else O6 k R f args K
theorem ok_O7 (k : Nat) : OrcOK (O7 k) (CallOK Try.prog) := orc_add (fn7 k) (ok_O6 k)

/-! 8: paydesk/paydesklaw04.MessageGets -/
noncomputable def c8 : Code := Try.f8.body.getD .skip
noncomputable def mi8 : Msk := ⟨[(.tmp 0, .val (.st (.cons .str (.cons (.slice (.st (.cons (.int .i64) (.cons .str .nil)))) .nil)))), (.tmp 1, .val (.int .i64))], []⟩
noncomputable def mo8 : Msk := ⟨[(.tmp 4, .val .bool)], []⟩
noncomputable def L8_7 (k : Nat) : LOrc := fun _ _ _ _ => none
noncomputable def b8_7 : Code := (findLoop 7 c8).getD .skip
noncomputable def m8_7 : Msk := ⟨[(.tmp 1, .val (.int .i64)), (.tmp 2, .ptr 2 0), (.tmp 5, .val .bool), (.tmp 6, .val (.int .i64)), (.cell 2 0, .val .str), (.cell 2 1, .val (.slice (.st (.cons (.int .i64) (.cons .str .nil)))))], [(2, 2)]⟩
noncomputable def x8_7 : List (X × Msk) := [(.exit 0, ⟨[(.tmp 1, .val (.int .i64)), (.tmp 2, .ptr 2 0), (.tmp 5, .val .bool), (.cell 2 0, .val .str), (.cell 2 1, .val (.slice (.st (.cons (.int .i64) (.cons .str .nil)))))], [(2, 2)]⟩), (.ret, ⟨[(.tmp 4, .val .bool)], []⟩)]
noncomputable def F8_7 (k : Nat) : Nat → m8_7.den → Option (denE x8_7)
  | 0, _ => none
  | j + 1, v => round TI (O7 k) (L8_7 k) b8_7 m8_7 x8_7 (F8_7 k j) v
theorem lk8_7_ (k : Nat) : LinksOK Try.prog 78 (L8_7 k) b8_7 := (And.intro (And.intro True.intro (And.intro True.intro True.intro)) (And.intro (And.intro True.intro (And.intro (And.intro True.intro (And.intro (And.intro True.intro True.intro) True.intro)) True.intro)) True.intro))
noncomputable def L8 (k : Nat) : LOrc := fun R lk s K => match lk with
  | .loop r => bif Nat.beq r 7 then link m8_7 x8_7 (F8_7 k k) s K else none
  | .label l => none
theorem lk_L8_7 (k : Nat) : LoopOK Try.prog 78 (L8 k) b8_7 := loopOK_of hm hT (ok_O7 k) (fun _ _ _ h => h) rfl (lk8_7_ k) rfl rfl (F := F8_7 k) (fun _ => rfl) (fun _ _ => rfl) (n := k) fun _ _ _ => rfl
noncomputable def F8 (k : Nat) (v : mi8.den) : Option mo8.den := runF TI (O7 k) (L8 k) c8 mi8 mo8 v
theorem lk8 (k : Nat) : LinksOK Try.prog 78 (L8 k) c8 := (And.intro True.intro (And.intro (And.intro True.intro (And.intro (And.intro True.intro True.intro) True.intro)) (And.intro (And.intro True.intro (And.intro (And.intro True.intro True.intro) True.intro)) (And.intro True.intro (And.intro (And.intro True.intro (lk_L8_7 k)) (And.intro True.intro (And.intro True.intro True.intro)))))))
theorem fn8 (k : Nat) (args : List AV) (x : mi8.den) (r : mo8.den) (h1 : args.length = mi8.items.length) (h2 : mi8.dec (Th.start args) = some x) (h3 : F8 k x = some r) : CallOK Try.prog 8 args (ansOf (outL mo8.items r)) :=
  call_of hm hT (ok_O7 k) (fn := Try.f8) (c := c8) Try.func8 rfl rfl rfl (lk8 k) rfl (by decide) rfl h1 h2 h3
noncomputable def O8 (k : Nat) : Orc := fun R f args K => bif Nat.beq f 8 then callF mi8 mo8 (F8 k) args K else O7 k R f args K
theorem ok_O8 (k : Nat) : OrcOK (O8 k) (CallOK Try.prog) := orc_add (fn8 k) (ok_O7 k)

end Go.Proofs.Ytjgnpmdbkgeakaa.G
