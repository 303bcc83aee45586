/- functions -/
import Derived.Test.YtjgnpmdbkgeakaaThU
import Derived.Test.YtjgnpmdbkgeakaaSigns
import Derived.Test.YtjgnpmdbkgeakaaProg
import Derived.KernelRfl
set_option linter.unusedVariables false
set_option linter.unusedSimpArgs false
namespace Go.Proofs.Ytjgnpmdbkgeakaa.G
open Go Go.Proofs.Ytjgnpmdbkgeakaa.Th
def til : List (Nat × TInfo) := [
  (3, ⟨.int .i64, 1, 8, (.int .i64), [.int .i64 0], [], [], true, false, []⟩),
  (4, ⟨.bool, 1, 1, .bool, [.bool false], [], [], true, false, []⟩),
  (5, ⟨.int .u8, 1, 1, (.int .u8), [.int .u8 0], [], [], true, false, []⟩),
  (9, ⟨.str, 1, 16, .str, [.str []], [], [], true, false, []⟩),
  (22, ⟨.slice 5, 1, 24, (.slice (.int .u8)), [.nilsl], [], [], true, false, []⟩),
  (25, ⟨.struct, 3, 24, (.st (.cons (.int .i64) (.cons (.int .i64) (.cons (.int .i64) .nil)))), [.int .i64 0, .int .i64 0, .int .i64 0], [(0, 3), (1, 3), (2, 3)], [1, 1, 1], true, true, []⟩),
  (28, ⟨.int .i64, 1, 8, (.int .i64), [.int .i64 0], [], [], true, false, []⟩),
  (38, ⟨.int .u16, 1, 2, (.int .u16), [.int .u16 0], [], [], true, false, []⟩),
  (58, ⟨.slice 25, 1, 24, (.slice (.st (.cons (.int .i64) (.cons (.int .i64) (.cons (.int .i64) .nil))))), [.nilsl], [], [], true, false, []⟩),
  (59, ⟨.slice 3, 1, 24, (.slice (.int .i64)), [.nilsl], [], [], true, false, []⟩),
  (67, ⟨.int .u64, 1, 8, (.int .u64), [.int .u64 0], [], [], true, false, []⟩),
  (94, ⟨.struct, 2, 16, (.st (.cons (.int .i64) (.cons (.int .i64) .nil))), [.int .i64 0, .int .i64 0], [(0, 3), (1, 3)], [1, 1], true, true, [("paydesk/field.ahead", 86), ("paydesk/field.sized", 87)]⟩),
  (96, ⟨.struct, 1, 8, (.st (.cons (.int .i64) .nil)), [.int .i64 0], [(0, 3)], [1], true, true, [("paydesk/field.ahead", 88), ("paydesk/field.sized", 89)]⟩)
]
noncomputable def TI : TEnv := tiOf til
theorem hT : TIok Try.prog TI := TIok.of (by kernel_rfl)
theorem hm : Try.prog.follows .mixedOrders = true := rfl
noncomputable def O_0 (_ : Nat) : Orc := fun _ _ _ _ => none
theorem ok_O_0 (k : Nat) : OrcOK (O_0 k) (CallOK Try.prog) := orc_none
/-! 10: paydesk/field.Def -/
noncomputable def c10 : Code := Try.f10.body.getD .skip
noncomputable def mi10 : Msk := ⟨[(.tmp 0, .val (.int .i64))], []⟩
noncomputable def mo10 : Msk := ⟨[(.res 2, .val (.st (.cons (.int .i64) (.cons (.int .i64) (.cons (.int .i64) .nil))))), (.tmp 3, .val .bool)], []⟩
noncomputable def L10_2 (k : Nat) : LOrc := fun _ _ _ _ => none
noncomputable def b10_2 : Code := (findLoop 2 c10).getD .skip
noncomputable def m10_2 : Msk := ⟨[(.tmp 0, .val (.int .i64)), (.tmp 2, .ptr 2 0), (.tmp 21, .row false (.st (.cons (.int .i64) (.cons (.int .i64) (.cons (.int .i64) .nil))))), (.tmp 22, .val (.int .i64)), (.tmp 23, .val (.int .i64)), (.cell 2 0, .val (.int .i64)), (.cell 2 1, .val (.int .i64)), (.cell 2 2, .val (.int .i64))], [(2, 3)]⟩
noncomputable def x10_2 : List (X × Msk) := [(.exit 0, ⟨[(.tmp 2, .ptr 2 0), (.cell 2 0, .val (.int .i64)), (.cell 2 1, .val (.int .i64)), (.cell 2 2, .val (.int .i64))], [(2, 3)]⟩), (.ret, ⟨[(.tmp 2, .ptr 2 0), (.tmp 3, .val .bool), (.cell 2 0, .val (.int .i64)), (.cell 2 1, .val (.int .i64)), (.cell 2 2, .val (.int .i64))], [(2, 3)]⟩)]
noncomputable def F10_2 (k : Nat) : Nat → m10_2.den → Option (denE x10_2)
  | 0, _ => none
  | j + 1, v => round TI (O_0 k) (L10_2 k) b10_2 m10_2 x10_2 (F10_2 k j) v
theorem lk10_2_ (k : Nat) : LinksOK Try.prog 34 (L10_2 k) b10_2 := (And.intro True.intro (And.intro (And.intro True.intro True.intro) (And.intro (And.intro True.intro (And.intro True.intro (And.intro (And.intro True.intro True.intro) True.intro))) True.intro)))
noncomputable def L10 (k : Nat) : LOrc := fun R lk s K => match lk with
  | .loop r => bif Nat.beq r 2 then link m10_2 x10_2 (F10_2 k k) s K else none
  | .label l => none
theorem lk_L10_2 (k : Nat) : LoopOK Try.prog 34 (L10 k) b10_2 := loopOK_of hm hT (ok_O_0 k) (fun _ _ _ h => h) rfl (lk10_2_ k) rfl rfl (F := F10_2 k) (fun _ => rfl) (fun _ _ => rfl) (n := k) fun _ _ _ => rfl
noncomputable def F10 (k : Nat) (v : mi10.den) : Option mo10.den := runF TI (O_0 k) (L10 k) c10 mi10 mo10 v
theorem lk10 (k : Nat) : LinksOK Try.prog 34 (L10 k) c10 := (And.intro True.intro (And.intro (And.intro True.intro (lk_L10_2 k)) (And.intro True.intro True.intro)))
theorem fn10 (k : Nat) (args : List AV) (x : mi10.den) (r : mo10.den) (h1 : args.length = mi10.items.length) (h2 : mi10.dec (Th.start args) = some x) (h3 : F10 k x = some r) : CallOK Try.prog 10 args (ansOf (outL mo10.items r)) :=
  call_of hm hT (ok_O_0 k) (fn := Try.f10) (c := c10) rfl rfl rfl rfl (lk10 k) rfl (by decide) rfl h1 h2 h3
noncomputable def O10 (k : Nat) : Orc := fun R f args K => bif Nat.beq f 10 then callF mi10 mo10 (F10 k) args K else O_0 k R f args K
theorem ok_O10 (k : Nat) : OrcOK (O10 k) (CallOK Try.prog) := orc_add (fn10 k) (ok_O_0 k)

/-! 30: paydesk/field.formOf -/
noncomputable def c30 : Code := Try.f30.body.getD .skip
noncomputable def mi30 : Msk := ⟨[(.tmp 0, .val (.st (.cons (.int .i64) (.cons (.int .i64) (.cons (.int .i64) .nil)))))], []⟩
noncomputable def mo30 : List Msk := [⟨[(.tmp 2, .val (.ifc 94 (.st (.cons (.int .i64) (.cons (.int .i64) .nil)))))], []⟩, ⟨[(.tmp 2, .val (.ifc 96 (.st (.cons (.int .i64) .nil))))], []⟩]
noncomputable def L30 (k : Nat) : LOrc := fun _ _ _ _ => none
noncomputable def F30 (k : Nat) (v : mi30.den) : Option (denA mo30) := runA TI (O10 k) (L30 k) c30 mi30 mo30 v
theorem lk30 (k : Nat) : LinksOK Try.prog 22 (L30 k) c30 := (And.intro True.intro (And.intro (And.intro True.intro (And.intro (And.intro True.intro (And.intro True.intro True.intro)) (And.intro (And.intro True.intro True.intro) (And.intro True.intro (And.intro (And.intro True.intro True.intro) True.intro))))) (And.intro True.intro True.intro)))
theorem fn30 (k : Nat) (args : List AV) (x : mi30.den) (r : (denA mo30)) (h1 : args.length = mi30.items.length) (h2 : mi30.dec (Th.start args) = some x) (h3 : F30 k x = some r) : CallOK Try.prog 30 args (valA mo30 r) :=
  call_ofA hm hT (ok_O10 k) (fn := Try.f30) (c := c30) rfl rfl rfl rfl (lk30 k) rfl (by decide) rfl h1 h2 h3
noncomputable def O30 (k : Nat) : Orc := fun R f args K => bif Nat.beq f 30 then callA mi30 mo30 (F30 k) args K else O10 k R f args K
theorem ok_O30 (k : Nat) : OrcOK (O30 k) (CallOK Try.prog) := orc_addA (fn30 k) (ok_O10 k)

/-! 87: (paydesk/field.loose).sized -/
noncomputable def c87 : Code := Try.f87.body.getD .skip
noncomputable def mi87 : Msk := ⟨[(.tmp 0, .val (.st (.cons (.int .i64) (.cons (.int .i64) .nil)))), (.tmp 1, .val (.int .i64))], []⟩
noncomputable def mo87 : Msk := ⟨[(.tmp 4, .val .bool)], []⟩
noncomputable def L87 (k : Nat) : LOrc := fun _ _ _ _ => none
noncomputable def F87 (k : Nat) (v : mi87.den) : Option mo87.den := runF TI (O30 k) (L87 k) c87 mi87 mo87 v
theorem lk87 (k : Nat) : LinksOK Try.prog 13 (L87 k) c87 := (And.intro True.intro (And.intro True.intro True.intro))
theorem fn87 (k : Nat) (args : List AV) (x : mi87.den) (r : mo87.den) (h1 : args.length = mi87.items.length) (h2 : mi87.dec (Th.start args) = some x) (h3 : F87 k x = some r) : CallOK Try.prog 87 args (ansOf (outL mo87.items r)) :=
  call_of hm hT (ok_O30 k) (fn := Try.f87) (c := c87) rfl rfl rfl rfl (lk87 k) rfl (by decide) rfl h1 h2 h3
noncomputable def O87 (k : Nat) : Orc := fun R f args K => bif Nat.beq f 87 then callF mi87 mo87 (F87 k) args K else O30 k R f args K
theorem ok_O87 (k : Nat) : OrcOK (O87 k) (CallOK Try.prog) := orc_add (fn87 k) (ok_O30 k)

/-! 89: (paydesk/field.fixed).sized -/
noncomputable def c89 : Code := Try.f89.body.getD .skip
noncomputable def mi89 : Msk := ⟨[(.tmp 0, .val (.st (.cons (.int .i64) .nil))), (.tmp 1, .val (.int .i64))], []⟩
noncomputable def mo89 : Msk := ⟨[(.tmp 4, .val .bool)], []⟩
noncomputable def L89 (k : Nat) : LOrc := fun _ _ _ _ => none
noncomputable def F89 (k : Nat) (v : mi89.den) : Option mo89.den := runF TI (O87 k) (L89 k) c89 mi89 mo89 v
theorem lk89 (k : Nat) : LinksOK Try.prog 9 (L89 k) c89 := (And.intro True.intro (And.intro True.intro True.intro))
theorem fn89 (k : Nat) (args : List AV) (x : mi89.den) (r : mo89.den) (h1 : args.length = mi89.items.length) (h2 : mi89.dec (Th.start args) = some x) (h3 : F89 k x = some r) : CallOK Try.prog 89 args (ansOf (outL mo89.items r)) :=
  call_of hm hT (ok_O87 k) (fn := Try.f89) (c := c89) rfl rfl rfl rfl (lk89 k) rfl (by decide) rfl h1 h2 h3
noncomputable def O89 (k : Nat) : Orc := fun R f args K => bif Nat.beq f 89 then callF mi89 mo89 (F89 k) args K else O87 k R f args K
theorem ok_O89 (k : Nat) : OrcOK (O89 k) (CallOK Try.prog) := orc_add (fn89 k) (ok_O87 k)

/-! 50: paydesk/digit.Is -/
noncomputable def c50 : Code := Try.f50.body.getD .skip
noncomputable def mi50 : Msk := ⟨[(.tmp 0, .val .str)], []⟩
noncomputable def mo50 : Msk := ⟨[(.tmp 2, .val .bool)], []⟩
noncomputable def L50_g0 (k : Nat) : LOrc := fun _ _ _ _ => none
noncomputable def b50_g0 : Code := (findScope 0 c50).getD .skip
noncomputable def l50_g0 : List (X × Msk) := [(.goto 0, ⟨[(.tmp 0, .val .str), (.tmp 3, .val (.int .i64))], []⟩)]
noncomputable def x50_g0 : List (X × Msk) := [(.ret, ⟨[(.tmp 2, .val .bool)], []⟩)]
noncomputable def F50_g0 (k : Nat) : Nat → denE l50_g0 → Option (denE x50_g0)
  | 0, _ => none
  | j + 1, v => pass TI (O89 k) (L50_g0 k) b50_g0 l50_g0 x50_g0 (F50_g0 k j) v
theorem lk50_g0_ (k : Nat) : LinksOK Try.prog 22 (L50_g0 k) b50_g0 := (And.intro True.intro (And.intro True.intro (And.intro (And.intro True.intro (And.intro (And.intro True.intro True.intro) True.intro)) (And.intro (And.intro True.intro (And.intro (And.intro True.intro True.intro) True.intro)) (And.intro True.intro True.intro)))))
noncomputable def L50 (k : Nat) : LOrc := fun R lk s K => match lk with
  | .loop r => none
  | .label l => (match findLabel b50_g0 l with | some _ => linkJ l50_g0 x50_g0 (F50_g0 k k) l s K | none => none)
theorem lk_L50_g0 (k : Nat) : JumpsOK Try.prog 22 (L50 k) b50_g0 := jumpsOK_of hm hT (ok_O89 k) (fun _ _ _ h => h) rfl (lk50_g0_ k) rfl rfl (F := F50_g0 k) (fun _ => rfl) (fun _ _ => rfl) (n := k) fun R l s K rest hf => by
  show (match findLabel b50_g0 l with | some _ => linkJ l50_g0 x50_g0 (F50_g0 k k) l s K | none => none) = _
  rw [hf]
noncomputable def F50 (k : Nat) (v : mi50.den) : Option mo50.den := runF TI (O89 k) (L50 k) c50 mi50 mo50 v
theorem lk50 (k : Nat) : LinksOK Try.prog 22 (L50 k) c50 := (And.intro True.intro (And.intro (lk_L50_g0 k) (And.intro True.intro (And.intro True.intro (And.intro (And.intro True.intro (And.intro (And.intro True.intro True.intro) True.intro)) (And.intro (And.intro True.intro (And.intro (And.intro True.intro True.intro) True.intro)) (And.intro True.intro True.intro)))))))
theorem fn50 (k : Nat) (args : List AV) (x : mi50.den) (r : mo50.den) (h1 : args.length = mi50.items.length) (h2 : mi50.dec (Th.start args) = some x) (h3 : F50 k x = some r) : CallOK Try.prog 50 args (ansOf (outL mo50.items r)) :=
  call_of hm hT (ok_O89 k) (fn := Try.f50) (c := c50) rfl rfl rfl rfl (lk50 k) rfl (by decide) rfl h1 h2 h3
noncomputable def O50 (k : Nat) : Orc := fun R f args K => bif Nat.beq f 50 then callF mi50 mo50 (F50 k) args K else O89 k R f args K
theorem ok_O50 (k : Nat) : OrcOK (O50 k) (CallOK Try.prog) := orc_add (fn50 k) (ok_O89 k)

/-! 33: paydesk/field.signs (walked by hand) -/
noncomputable def F33 (k : Nat) (v : (Int × Int × Int × Unit) × List UInt8 × Unit) : Option (Bool × Unit) := sel (decide (v.2.1.length ≤ 9223372036854775807)) (ocall (α := Bool × Unit) (F50 k ((v.2.1, ()) : List UInt8 × Unit)) fun r => some (Signs.signsOf v.1.2.1 r.1 v.2.1, ())) none
noncomputable def O33 (k : Nat) : Orc := fun R f args K => bif Nat.beq f 33 then (match args with | [.agg [.int .i64 a, .int .i64 b, .int .i64 c], .str s] => ocall (F33 k ((a, b, c, ()), s, ())) fun r => K (.bool r.1) | _ => none) else O50 k R f args K
theorem ok_O33 (k : Nat) : OrcOK (O33 k) (CallOK Try.prog) := by
  intro R f args K r h
  unfold O33 at h
  cases hb : Nat.beq f 33 with
  | false => rw [hb] at h; exact ok_O50 k R f args K r h
  | true =>
    rw [hb] at h
    rw [Nat.eq_of_beq_eq_true hb]
    simp only [cond_true] at h
    split at h
    · rename_i a b c s
      obtain ⟨y, hy, h⟩ := obind_some h
      unfold F33 at hy
      by_cases hl : s.length ≤ 9223372036854775807
      · rw [sel_pos hl] at hy
        obtain ⟨d, hd, hy⟩ := obind_some hy
        cases hy
        exact ⟨_, Signs.fn33 a b c s hl d.1 (fn50 k [.str s] ((s, ()) : List UInt8 × Unit) d rfl rfl hd), h⟩
      · rw [sel_neg hl] at hy; cases hy
    · cases h

/-! 14: paydesk/field.Right -/
noncomputable def c14 : Code := Try.f14.body.getD .skip
noncomputable def mi14 : Msk := ⟨[(.tmp 0, .val (.int .i64)), (.tmp 1, .val .str)], []⟩
noncomputable def mo14 : Msk := ⟨[(.tmp 4, .val .bool)], []⟩
noncomputable def L14 (k : Nat) : LOrc := fun _ _ _ _ => none
noncomputable def F14 (k : Nat) (v : mi14.den) : Option mo14.den := runF TI (O33 k) (L14 k) c14 mi14 mo14 v
theorem lk14 (k : Nat) : LinksOK Try.prog 25 (L14 k) c14 := (And.intro True.intro (And.intro True.intro (And.intro True.intro True.intro)))
theorem fn14 (k : Nat) (args : List AV) (x : mi14.den) (r : mo14.den) (h1 : args.length = mi14.items.length) (h2 : mi14.dec (Th.start args) = some x) (h3 : F14 k x = some r) : CallOK Try.prog 14 args (ansOf (outL mo14.items r)) :=
  call_of hm hT (ok_O33 k) (fn := Try.f14) (c := c14) rfl rfl rfl rfl (lk14 k) rfl (by decide) rfl h1 h2 h3
noncomputable def O14 (k : Nat) : Orc := fun R f args K => bif Nat.beq f 14 then callF mi14 mo14 (F14 k) args K else O33 k R f args K
theorem ok_O14 (k : Nat) : OrcOK (O14 k) (CallOK Try.prog) := orc_add (fn14 k) (ok_O33 k)

/-! 86: (paydesk/field.loose).ahead -/
noncomputable def c86 : Code := Try.f86.body.getD .skip
noncomputable def mi86 : Msk := ⟨[(.tmp 0, .val (.st (.cons (.int .i64) (.cons (.int .i64) .nil))))], []⟩
noncomputable def mo86 : Msk := ⟨[(.tmp 2, .val (.int .i64))], []⟩
noncomputable def L86 (k : Nat) : LOrc := fun _ _ _ _ => none
noncomputable def F86 (k : Nat) (v : mi86.den) : Option mo86.den := runF TI (O14 k) (L86 k) c86 mi86 mo86 v
theorem lk86 (k : Nat) : LinksOK Try.prog 5 (L86 k) c86 := (And.intro True.intro (And.intro True.intro True.intro))
theorem fn86 (k : Nat) (args : List AV) (x : mi86.den) (r : mo86.den) (h1 : args.length = mi86.items.length) (h2 : mi86.dec (Th.start args) = some x) (h3 : F86 k x = some r) : CallOK Try.prog 86 args (ansOf (outL mo86.items r)) :=
  call_of hm hT (ok_O14 k) (fn := Try.f86) (c := c86) rfl rfl rfl rfl (lk86 k) rfl (by decide) rfl h1 h2 h3
noncomputable def O86 (k : Nat) : Orc := fun R f args K => bif Nat.beq f 86 then callF mi86 mo86 (F86 k) args K else O14 k R f args K
theorem ok_O86 (k : Nat) : OrcOK (O86 k) (CallOK Try.prog) := orc_add (fn86 k) (ok_O14 k)

/-! 88: (paydesk/field.fixed).ahead -/
noncomputable def c88 : Code := Try.f88.body.getD .skip
noncomputable def mi88 : Msk := ⟨[(.tmp 0, .val (.st (.cons (.int .i64) .nil)))], []⟩
noncomputable def mo88 : Msk := ⟨[(.tmp 2, .val (.int .i64))], []⟩
noncomputable def L88 (k : Nat) : LOrc := fun _ _ _ _ => none
noncomputable def F88 (k : Nat) (v : mi88.den) : Option mo88.den := runF TI (O86 k) (L88 k) c88 mi88 mo88 v
theorem lk88 (k : Nat) : LinksOK Try.prog 3 (L88 k) c88 := (And.intro True.intro (And.intro True.intro True.intro))
theorem fn88 (k : Nat) (args : List AV) (x : mi88.den) (r : mo88.den) (h1 : args.length = mi88.items.length) (h2 : mi88.dec (Th.start args) = some x) (h3 : F88 k x = some r) : CallOK Try.prog 88 args (ansOf (outL mo88.items r)) :=
  call_of hm hT (ok_O86 k) (fn := Try.f88) (c := c88) rfl rfl rfl rfl (lk88 k) rfl (by decide) rfl h1 h2 h3
noncomputable def O88 (k : Nat) : Orc := fun R f args K => bif Nat.beq f 88 then callF mi88 mo88 (F88 k) args K else O86 k R f args K
theorem ok_O88 (k : Nat) : OrcOK (O88 k) (CallOK Try.prog) := orc_add (fn88 k) (ok_O86 k)

/-! 31: paydesk/digit.Put -/
noncomputable def c31 : Code := Try.f31.body.getD .skip
noncomputable def mi31 : Msk := ⟨[(.tmp 0, .val (.int .u64)), (.tmp 1, .val (.int .i64))], []⟩
noncomputable def mo31 : Msk := ⟨[(.tmp 4, .val .str), (.tmp 5, .val (.int .i64))], []⟩
noncomputable def L31_5 (k : Nat) : LOrc := fun _ _ _ _ => none
noncomputable def b31_5 : Code := (findLoop 5 c31).getD .skip
noncomputable def m31_5 : Msk := ⟨[(.tmp 0, .val (.int .u64)), (.tmp 6, .row false (.int .u8)), (.tmp 7, .val (.int .i64))], []⟩
noncomputable def x31_5 : List (X × Msk) := [(.exit 0, ⟨[(.tmp 0, .val (.int .u64)), (.tmp 6, .row false (.int .u8))], []⟩)]
noncomputable def F31_5 (k : Nat) : Nat → m31_5.den → Option (denE x31_5)
  | 0, _ => none
  | j + 1, v => round TI (O88 k) (L31_5 k) b31_5 m31_5 x31_5 (F31_5 k j) v
theorem lk31_5_ (k : Nat) : LinksOK Try.prog 35 (L31_5 k) b31_5 := (And.intro (And.intro True.intro (And.intro True.intro True.intro)) (And.intro (And.intro True.intro True.intro) True.intro))
noncomputable def L31 (k : Nat) : LOrc := fun R lk s K => match lk with
  | .loop r => bif Nat.beq r 5 then link m31_5 x31_5 (F31_5 k k) s K else none
  | .label l => none
theorem lk_L31_5 (k : Nat) : LoopOK Try.prog 35 (L31 k) b31_5 := loopOK_of hm hT (ok_O88 k) (fun _ _ _ h => h) rfl (lk31_5_ k) rfl rfl (F := F31_5 k) (fun _ => rfl) (fun _ _ => rfl) (n := k) fun _ _ _ => rfl
noncomputable def F31 (k : Nat) (v : mi31.den) : Option mo31.den := runF TI (O88 k) (L31 k) c31 mi31 mo31 v
theorem lk31 (k : Nat) : LinksOK Try.prog 35 (L31 k) c31 := (And.intro True.intro (And.intro (And.intro True.intro (And.intro (And.intro True.intro True.intro) True.intro)) (And.intro True.intro (And.intro (And.intro True.intro (lk_L31_5 k)) (And.intro (And.intro True.intro (And.intro (And.intro True.intro True.intro) True.intro)) (And.intro True.intro True.intro))))))
theorem fn31 (k : Nat) (args : List AV) (x : mi31.den) (r : mo31.den) (h1 : args.length = mi31.items.length) (h2 : mi31.dec (Th.start args) = some x) (h3 : F31 k x = some r) : CallOK Try.prog 31 args (ansOf (outL mo31.items r)) :=
  call_of hm hT (ok_O88 k) (fn := Try.f31) (c := c31) rfl rfl rfl rfl (lk31 k) rfl (by decide) rfl h1 h2 h3
noncomputable def O31 (k : Nat) : Orc := fun R f args K => bif Nat.beq f 31 then callF mi31 mo31 (F31 k) args K else O88 k R f args K
theorem ok_O31 (k : Nat) : OrcOK (O31 k) (CallOK Try.prog) := orc_add (fn31 k) (ok_O88 k)

/-! 12: paydesk/field.Write -/
noncomputable def c12 : Code := Try.f12.body.getD .skip
noncomputable def mi12 : Msk := ⟨[(.tmp 0, .val (.int .i64)), (.tmp 1, .val .str)], []⟩
noncomputable def mo12 : Msk := ⟨[(.tmp 4, .row false (.int .u8)), (.tmp 5, .val (.int .i64))], []⟩
noncomputable def L12 (k : Nat) : LOrc := fun _ _ _ _ => none
noncomputable def F12 (k : Nat) (v : mi12.den) : Option mo12.den := runF TI (O31 k) (L12 k) c12 mi12 mo12 v
theorem lk12 (k : Nat) : LinksOK Try.prog 42 (L12 k) c12 := (And.intro True.intro (And.intro True.intro (And.intro (And.intro True.intro (And.intro (And.intro True.intro True.intro) (And.intro True.intro (And.intro (And.intro True.intro True.intro) True.intro)))) (And.intro (And.intro True.intro (And.intro True.intro (And.intro (And.intro True.intro True.intro) True.intro))) (And.intro True.intro True.intro)))))
theorem fn12 (k : Nat) (args : List AV) (x : mi12.den) (r : mo12.den) (h1 : args.length = mi12.items.length) (h2 : mi12.dec (Th.start args) = some x) (h3 : F12 k x = some r) : CallOK Try.prog 12 args (ansOf (outL mo12.items r)) :=
  call_of hm hT (ok_O31 k) (fn := Try.f12) (c := c12) rfl rfl rfl rfl (lk12 k) rfl (by decide) rfl h1 h2 h3
noncomputable def O12 (k : Nat) : Orc := fun R f args K => bif Nat.beq f 12 then callF mi12 mo12 (F12 k) args K else O31 k R f args K
theorem ok_O12 (k : Nat) : OrcOK (O12 k) (CallOK Try.prog) := orc_add (fn12 k) (ok_O31 k)

/-! 52: paydesk/digit.Get -/
noncomputable def c52 : Code := Try.f52.body.getD .skip
noncomputable def mi52 : Msk := ⟨[(.tmp 0, .val .str)], []⟩
noncomputable def mo52 : Msk := ⟨[(.tmp 2, .val (.int .u64)), (.tmp 3, .val (.int .i64))], []⟩
noncomputable def L52_9 (k : Nat) : LOrc := fun _ _ _ _ => none
noncomputable def b52_9 : Code := (findLoop 9 c52).getD .skip
noncomputable def m52_9 : Msk := ⟨[(.tmp 4, .val (.int .u64)), (.tmp 19, .row false (.int .u8)), (.tmp 20, .val (.int .i64)), (.tmp 21, .val (.int .i64))], []⟩
noncomputable def x52_9 : List (X × Msk) := [(.exit 1, ⟨[(.tmp 4, .val (.int .u64))], []⟩)]
noncomputable def F52_9 (k : Nat) : Nat → m52_9.den → Option (denE x52_9)
  | 0, _ => none
  | j + 1, v => round TI (O12 k) (L52_9 k) b52_9 m52_9 x52_9 (F52_9 k j) v
theorem lk52_9_ (k : Nat) : LinksOK Try.prog 33 (L52_9 k) b52_9 := (And.intro True.intro (And.intro (And.intro True.intro True.intro) (And.intro (And.intro True.intro True.intro) True.intro)))
noncomputable def L52 (k : Nat) : LOrc := fun R lk s K => match lk with
  | .loop r => bif Nat.beq r 9 then link m52_9 x52_9 (F52_9 k k) s K else none
  | .label l => none
theorem lk_L52_9 (k : Nat) : LoopOK Try.prog 33 (L52 k) b52_9 := loopOK_of hm hT (ok_O12 k) (fun _ _ _ h => h) rfl (lk52_9_ k) rfl rfl (F := F52_9 k) (fun _ => rfl) (fun _ _ => rfl) (n := k) fun _ _ _ => rfl
noncomputable def F52 (k : Nat) (v : mi52.den) : Option mo52.den := runF TI (O12 k) (L52 k) c52 mi52 mo52 v
theorem lk52 (k : Nat) : LinksOK Try.prog 33 (L52 k) c52 := (And.intro True.intro (And.intro (And.intro True.intro (And.intro (And.intro True.intro True.intro) (And.intro True.intro (And.intro (And.intro True.intro True.intro) (And.intro True.intro (And.intro (And.intro True.intro True.intro) True.intro)))))) (And.intro True.intro (And.intro (And.intro True.intro (lk_L52_9 k)) (And.intro True.intro True.intro)))))
theorem fn52 (k : Nat) (args : List AV) (x : mi52.den) (r : mo52.den) (h1 : args.length = mi52.items.length) (h2 : mi52.dec (Th.start args) = some x) (h3 : F52 k x = some r) : CallOK Try.prog 52 args (ansOf (outL mo52.items r)) :=
  call_of hm hT (ok_O12 k) (fn := Try.f52) (c := c52) rfl rfl rfl rfl (lk52 k) rfl (by decide) rfl h1 h2 h3
noncomputable def O52 (k : Nat) : Orc := fun R f args K => bif Nat.beq f 52 then callF mi52 mo52 (F52 k) args K else O12 k R f args K
theorem ok_O52 (k : Nat) : OrcOK (O52 k) (CallOK Try.prog) := orc_add (fn52 k) (ok_O12 k)

/-! 36: paydesk/field.length -/
noncomputable def c36 : Code := Try.f36.body.getD .skip
noncomputable def mi36 : Msk := ⟨[(.tmp 0, .val (.st (.cons (.int .i64) (.cons (.int .i64) (.cons (.int .i64) .nil))))), (.tmp 1, .val (.slice (.int .u8)))], []⟩
noncomputable def mo36 : Msk := ⟨[(.tmp 4, .val (.int .i64)), (.tmp 5, .val (.int .i64))], []⟩
noncomputable def L36 (k : Nat) : LOrc := fun _ _ _ _ => none
noncomputable def F36 (k : Nat) (v : mi36.den) : Option mo36.den := runF TI (O52 k) (L36 k) c36 mi36 mo36 v
theorem lk36 (k : Nat) : LinksOK Try.prog 41 (L36 k) c36 := (And.intro True.intro (And.intro True.intro (And.intro (And.intro True.intro (And.intro (And.intro True.intro True.intro) True.intro)) (And.intro (And.intro True.intro (And.intro (And.intro True.intro True.intro) True.intro)) (And.intro True.intro (And.intro (And.intro (And.intro True.intro (And.intro True.intro True.intro)) (And.intro (And.intro True.intro True.intro) (And.intro True.intro (And.intro (And.intro True.intro True.intro) True.intro)))) (And.intro True.intro True.intro)))))))
theorem fn36 (k : Nat) (args : List AV) (x : mi36.den) (r : mo36.den) (h1 : args.length = mi36.items.length) (h2 : mi36.dec (Th.start args) = some x) (h3 : F36 k x = some r) : CallOK Try.prog 36 args (ansOf (outL mo36.items r)) :=
  call_of hm hT (ok_O52 k) (fn := Try.f36) (c := c36) rfl rfl rfl rfl (lk36 k) rfl (by decide) rfl h1 h2 h3
noncomputable def O36 (k : Nat) : Orc := fun R f args K => bif Nat.beq f 36 then callF mi36 mo36 (F36 k) args K else O52 k R f args K
theorem ok_O36 (k : Nat) : OrcOK (O36 k) (CallOK Try.prog) := orc_add (fn36 k) (ok_O52 k)

/-! 16: paydesk/field.Read -/
noncomputable def c16 : Code := Try.f16.body.getD .skip
noncomputable def mi16 : Msk := ⟨[(.tmp 0, .val (.int .i64)), (.tmp 1, .val (.slice (.int .u8)))], []⟩
noncomputable def mo16 : Msk := ⟨[(.tmp 4, .val .str), (.tmp 5, .val (.int .i64)), (.tmp 6, .val (.int .i64))], []⟩
noncomputable def L16 (k : Nat) : LOrc := fun _ _ _ _ => none
noncomputable def F16 (k : Nat) (v : mi16.den) : Option mo16.den := runF TI (O36 k) (L16 k) c16 mi16 mo16 v
theorem lk16 (k : Nat) : LinksOK Try.prog 51 (L16 k) c16 := (And.intro True.intro (And.intro True.intro (And.intro (And.intro True.intro (And.intro (And.intro True.intro True.intro) True.intro)) (And.intro True.intro (And.intro (And.intro True.intro (And.intro (And.intro True.intro True.intro) True.intro)) (And.intro True.intro (And.intro True.intro (And.intro (And.intro True.intro (And.intro (And.intro True.intro True.intro) True.intro)) (And.intro True.intro (And.intro (And.intro True.intro (And.intro (And.intro True.intro True.intro) True.intro)) (And.intro True.intro True.intro)))))))))))
theorem fn16 (k : Nat) (args : List AV) (x : mi16.den) (r : mo16.den) (h1 : args.length = mi16.items.length) (h2 : mi16.dec (Th.start args) = some x) (h3 : F16 k x = some r) : CallOK Try.prog 16 args (ansOf (outL mo16.items r)) :=
  call_of hm hT (ok_O36 k) (fn := Try.f16) (c := c16) rfl rfl rfl rfl (lk16 k) rfl (by decide) rfl h1 h2 h3
noncomputable def O16 (k : Nat) : Orc := fun R f args K => bif Nat.beq f 16 then callF mi16 mo16 (F16 k) args K else O36 k R f args K
theorem ok_O16 (k : Nat) : OrcOK (O16 k) (CallOK Try.prog) := orc_add (fn16 k) (ok_O36 k)

/-! 9: paydesk/paydesklaw03.awake -/
noncomputable def c9 : Code := Try.f9.body.getD .skip
noncomputable def mi9 : Msk := ⟨[], []⟩
noncomputable def mo9 : Msk := ⟨[(.tmp 0, .val .bool)], []⟩
noncomputable def L9 (k : Nat) : LOrc := fun _ _ _ _ => none
noncomputable def F9 (k : Nat) (v : mi9.den) : Option mo9.den := runF TI (O16 k) (L9 k) c9 mi9 mo9 v
theorem lk9 (k : Nat) : LinksOK Try.prog 63 (L9 k) c9 := (And.intro True.intro (And.intro True.intro (And.intro True.intro (And.intro True.intro (And.intro True.intro (And.intro True.intro True.intro))))))
theorem fn9 (k : Nat) (args : List AV) (x : mi9.den) (r : mo9.den) (h1 : args.length = mi9.items.length) (h2 : mi9.dec (Th.start args) = some x) (h3 : F9 k x = some r) : CallOK Try.prog 9 args (ansOf (outL mo9.items r)) :=
  call_of hm hT (ok_O16 k) (fn := Try.f9) (c := c9) rfl rfl rfl rfl (lk9 k) rfl (by decide) rfl h1 h2 h3
noncomputable def O9 (k : Nat) : Orc := fun R f args K => bif Nat.beq f 9 then callF mi9 mo9 (F9 k) args K else O16 k R f args K
theorem ok_O9 (k : Nat) : OrcOK (O9 k) (CallOK Try.prog) := orc_add (fn9 k) (ok_O16 k)

/-! 29: paydesk/paydeskref03.Fields -/
noncomputable def c29 : Code := Try.f29.body.getD .skip
noncomputable def mi29 : Msk := ⟨[], []⟩
noncomputable def mo29 : Msk := ⟨[(.tmp 0, .row false (.int .i64))], []⟩
noncomputable def L29 (k : Nat) : LOrc := fun _ _ _ _ => none
noncomputable def F29 (k : Nat) (v : mi29.den) : Option mo29.den := runF TI (O9 k) (L29 k) c29 mi29 mo29 v
theorem lk29 (k : Nat) : LinksOK Try.prog 2 (L29 k) c29 := (And.intro True.intro (And.intro True.intro True.intro))
theorem fn29 (k : Nat) (args : List AV) (x : mi29.den) (r : mo29.den) (h1 : args.length = mi29.items.length) (h2 : mi29.dec (Th.start args) = some x) (h3 : F29 k x = some r) : CallOK Try.prog 29 args (ansOf (outL mo29.items r)) :=
  call_of hm hT (ok_O9 k) (fn := Try.f29) (c := c29) rfl rfl rfl rfl (lk29 k) rfl (by decide) rfl h1 h2 h3
noncomputable def O29 (k : Nat) : Orc := fun R f args K => bif Nat.beq f 29 then callF mi29 mo29 (F29 k) args K else O9 k R f args K
theorem ok_O29 (k : Nat) : OrcOK (O29 k) (CallOK Try.prog) := orc_add (fn29 k) (ok_O9 k)

/-! 11: paydesk/paydeskref03.Def -/
noncomputable def c11 : Code := Try.f11.body.getD .skip
noncomputable def mi11 : Msk := ⟨[(.tmp 0, .val (.int .i64))], []⟩
noncomputable def mo11 : Msk := ⟨[(.res 2, .val (.st (.cons (.int .i64) (.cons (.int .i64) (.cons (.int .i64) .nil))))), (.tmp 3, .val .bool)], []⟩
noncomputable def L11_3 (k : Nat) : LOrc := fun _ _ _ _ => none
noncomputable def b11_3 : Code := (findLoop 3 c11).getD .skip
noncomputable def m11_3 : Msk := ⟨[(.tmp 0, .val (.int .i64)), (.tmp 2, .ptr 2 0), (.tmp 4, .row false (.int .i64)), (.tmp 5, .val (.int .i64)), (.cell 2 0, .val (.int .i64)), (.cell 2 1, .val (.int .i64)), (.cell 2 2, .val (.int .i64))], [(2, 3)]⟩
noncomputable def x11_3 : List (X × Msk) := [(.exit 0, ⟨[(.tmp 2, .ptr 2 0), (.cell 2 0, .val (.int .i64)), (.cell 2 1, .val (.int .i64)), (.cell 2 2, .val (.int .i64))], [(2, 3)]⟩), (.ret, ⟨[(.tmp 2, .ptr 2 0), (.tmp 3, .val .bool), (.cell 2 0, .val (.int .i64)), (.cell 2 1, .val (.int .i64)), (.cell 2 2, .val (.int .i64))], [(2, 3)]⟩)]
noncomputable def F11_3 (k : Nat) : Nat → m11_3.den → Option (denE x11_3)
  | 0, _ => none
  | j + 1, v => round TI (O29 k) (L11_3 k) b11_3 m11_3 x11_3 (F11_3 k j) v
theorem lk11_3_ (k : Nat) : LinksOK Try.prog 35 (L11_3 k) b11_3 := (And.intro (And.intro True.intro (And.intro True.intro True.intro)) (And.intro (And.intro True.intro (And.intro (And.intro True.intro True.intro) True.intro)) True.intro))
noncomputable def L11 (k : Nat) : LOrc := fun R lk s K => match lk with
  | .loop r => bif Nat.beq r 3 then link m11_3 x11_3 (F11_3 k k) s K else none
  | .label l => none
theorem lk_L11_3 (k : Nat) : LoopOK Try.prog 35 (L11 k) b11_3 := loopOK_of hm hT (ok_O29 k) (fun _ _ _ h => h) rfl (lk11_3_ k) rfl rfl (F := F11_3 k) (fun _ => rfl) (fun _ _ => rfl) (n := k) fun _ _ _ => rfl
noncomputable def F11 (k : Nat) (v : mi11.den) : Option mo11.den := runF TI (O29 k) (L11 k) c11 mi11 mo11 v
theorem lk11 (k : Nat) : LinksOK Try.prog 35 (L11 k) c11 := (And.intro True.intro (And.intro True.intro (And.intro (And.intro True.intro (lk_L11_3 k)) (And.intro True.intro True.intro))))
theorem fn11 (k : Nat) (args : List AV) (x : mi11.den) (r : mo11.den) (h1 : args.length = mi11.items.length) (h2 : mi11.dec (Th.start args) = some x) (h3 : F11 k x = some r) : CallOK Try.prog 11 args (ansOf (outL mo11.items r)) :=
  call_of hm hT (ok_O29 k) (fn := Try.f11) (c := c11) rfl rfl rfl rfl (lk11 k) rfl (by decide) rfl h1 h2 h3
noncomputable def O11 (k : Nat) : Orc := fun R f args K => bif Nat.beq f 11 then callF mi11 mo11 (F11 k) args K else O29 k R f args K
theorem ok_O11 (k : Nat) : OrcOK (O11 k) (CallOK Try.prog) := orc_add (fn11 k) (ok_O29 k)

/-! 32: paydesk/paydeskref03.Signs -/
noncomputable def c32 : Code := Try.f32.body.getD .skip
noncomputable def mi32 : Msk := ⟨[(.tmp 0, .val (.int .i64)), (.tmp 1, .val .str)], []⟩
noncomputable def mo32 : Msk := ⟨[(.tmp 4, .val .bool)], []⟩
noncomputable def L32_2 (k : Nat) : LOrc := fun _ _ _ _ => none
noncomputable def b32_2 : Code := (findLoop 2 c32).getD .skip
noncomputable def m32_2 : Msk := ⟨[(.tmp 0, .val (.int .i64)), (.tmp 1, .val .str), (.tmp 5, .val (.int .i64))], []⟩
noncomputable def x32_2 : List (X × Msk) := [(.exit 0, ⟨[], []⟩), (.ret, ⟨[(.tmp 4, .val .bool)], []⟩)]
noncomputable def F32_2 (k : Nat) : Nat → m32_2.den → Option (denE x32_2)
  | 0, _ => none
  | j + 1, v => round TI (O11 k) (L32_2 k) b32_2 m32_2 x32_2 (F32_2 k j) v
theorem lk32_2_ (k : Nat) : LinksOK Try.prog 32 (L32_2 k) b32_2 := (And.intro (And.intro True.intro (And.intro True.intro True.intro)) (And.intro (And.intro True.intro (And.intro (And.intro True.intro (And.intro True.intro True.intro)) (And.intro True.intro (And.intro (And.intro True.intro True.intro) True.intro)))) True.intro))
noncomputable def L32 (k : Nat) : LOrc := fun R lk s K => match lk with
  | .loop r => bif Nat.beq r 2 then link m32_2 x32_2 (F32_2 k k) s K else none
  | .label l => none
theorem lk_L32_2 (k : Nat) : LoopOK Try.prog 32 (L32 k) b32_2 := loopOK_of hm hT (ok_O11 k) (fun _ _ _ h => h) rfl (lk32_2_ k) rfl rfl (F := F32_2 k) (fun _ => rfl) (fun _ _ => rfl) (n := k) fun _ _ _ => rfl
noncomputable def F32 (k : Nat) (v : mi32.den) : Option mo32.den := runF TI (O11 k) (L32 k) c32 mi32 mo32 v
theorem lk32 (k : Nat) : LinksOK Try.prog 32 (L32 k) c32 := (And.intro True.intro (And.intro (And.intro True.intro (lk_L32_2 k)) (And.intro True.intro True.intro)))
theorem fn32 (k : Nat) (args : List AV) (x : mi32.den) (r : mo32.den) (h1 : args.length = mi32.items.length) (h2 : mi32.dec (Th.start args) = some x) (h3 : F32 k x = some r) : CallOK Try.prog 32 args (ansOf (outL mo32.items r)) :=
  call_of hm hT (ok_O11 k) (fn := Try.f32) (c := c32) rfl rfl rfl rfl (lk32 k) rfl (by decide) rfl h1 h2 h3
noncomputable def O32 (k : Nat) : Orc := fun R f args K => bif Nat.beq f 32 then callF mi32 mo32 (F32 k) args K else O11 k R f args K
theorem ok_O32 (k : Nat) : OrcOK (O32 k) (CallOK Try.prog) := orc_add (fn32 k) (ok_O11 k)

/-! 13: paydesk/paydeskref03.Right -/
noncomputable def c13 : Code := Try.f13.body.getD .skip
noncomputable def mi13 : Msk := ⟨[(.tmp 0, .val (.int .i64)), (.tmp 1, .val .str)], []⟩
noncomputable def mo13 : Msk := ⟨[(.tmp 4, .val .bool)], []⟩
noncomputable def L13 (k : Nat) : LOrc := fun _ _ _ _ => none
noncomputable def F13 (k : Nat) (v : mi13.den) : Option mo13.den := runF TI (O32 k) (L13 k) c13 mi13 mo13 v
theorem lk13 (k : Nat) : LinksOK Try.prog 42 (L13 k) c13 := (And.intro True.intro (And.intro True.intro (And.intro (And.intro True.intro (And.intro (And.intro True.intro True.intro) True.intro)) (And.intro True.intro True.intro))))
theorem fn13 (k : Nat) (args : List AV) (x : mi13.den) (r : mo13.den) (h1 : args.length = mi13.items.length) (h2 : mi13.dec (Th.start args) = some x) (h3 : F13 k x = some r) : CallOK Try.prog 13 args (ansOf (outL mo13.items r)) :=
  call_of hm hT (ok_O32 k) (fn := Try.f13) (c := c13) rfl rfl rfl rfl (lk13 k) rfl (by decide) rfl h1 h2 h3
noncomputable def O13 (k : Nat) : Orc := fun R f args K => bif Nat.beq f 13 then callF mi13 mo13 (F13 k) args K else O32 k R f args K
theorem ok_O13 (k : Nat) : OrcOK (O13 k) (CallOK Try.prog) := orc_add (fn13 k) (ok_O32 k)

/-! 34: paydesk/paydeskref03.Ahead -/
noncomputable def c34 : Code := Try.f34.body.getD .skip
noncomputable def mi34 : Msk := ⟨[(.tmp 0, .val (.int .i64))], []⟩
noncomputable def mo34 : Msk := ⟨[(.tmp 2, .val (.int .i64))], []⟩
noncomputable def L34 (k : Nat) : LOrc := fun _ _ _ _ => none
noncomputable def F34 (k : Nat) (v : mi34.den) : Option mo34.den := runF TI (O13 k) (L34 k) c34 mi34 mo34 v
theorem lk34 (k : Nat) : LinksOK Try.prog 7 (L34 k) c34 := (And.intro True.intro (And.intro (And.intro True.intro (And.intro (And.intro True.intro True.intro) True.intro)) (And.intro (And.intro True.intro (And.intro (And.intro True.intro True.intro) True.intro)) (And.intro True.intro True.intro))))
theorem fn34 (k : Nat) (args : List AV) (x : mi34.den) (r : mo34.den) (h1 : args.length = mi34.items.length) (h2 : mi34.dec (Th.start args) = some x) (h3 : F34 k x = some r) : CallOK Try.prog 34 args (ansOf (outL mo34.items r)) :=
  call_of hm hT (ok_O13 k) (fn := Try.f34) (c := c34) rfl rfl rfl rfl (lk34 k) rfl (by decide) rfl h1 h2 h3
noncomputable def O34 (k : Nat) : Orc := fun R f args K => bif Nat.beq f 34 then callF mi34 mo34 (F34 k) args K else O13 k R f args K
theorem ok_O34 (k : Nat) : OrcOK (O34 k) (CallOK Try.prog) := orc_add (fn34 k) (ok_O13 k)

/-! 51: paydesk/paydeskref01.Put -/
noncomputable def c51 : Code := Try.f51.body.getD .skip
noncomputable def mi51 : Msk := ⟨[(.tmp 0, .val (.int .u64)), (.tmp 1, .val (.int .i64))], []⟩
noncomputable def mo51 : Msk := ⟨[(.tmp 4, .val .str), (.tmp 5, .val (.int .i64))], []⟩
noncomputable def L51_5 (k : Nat) : LOrc := fun _ _ _ _ => none
noncomputable def b51_5 : Code := (findLoop 5 c51).getD .skip
noncomputable def m51_5 : Msk := ⟨[(.tmp 0, .val (.int .u64)), (.tmp 1, .val (.int .i64)), (.tmp 6, .val .str), (.tmp 7, .val (.int .i64))], []⟩
noncomputable def x51_5 : List (X × Msk) := [(.exit 0, ⟨[(.tmp 0, .val (.int .u64)), (.tmp 6, .val .str)], []⟩)]
noncomputable def F51_5 (k : Nat) : Nat → m51_5.den → Option (denE x51_5)
  | 0, _ => none
  | j + 1, v => round TI (O34 k) (L51_5 k) b51_5 m51_5 x51_5 (F51_5 k j) v
theorem lk51_5_ (k : Nat) : LinksOK Try.prog 32 (L51_5 k) b51_5 := (And.intro (And.intro True.intro (And.intro True.intro True.intro)) (And.intro (And.intro True.intro True.intro) True.intro))
noncomputable def L51 (k : Nat) : LOrc := fun R lk s K => match lk with
  | .loop r => bif Nat.beq r 5 then link m51_5 x51_5 (F51_5 k k) s K else none
  | .label l => none
theorem lk_L51_5 (k : Nat) : LoopOK Try.prog 32 (L51 k) b51_5 := loopOK_of hm hT (ok_O34 k) (fun _ _ _ h => h) rfl (lk51_5_ k) rfl rfl (F := F51_5 k) (fun _ => rfl) (fun _ _ => rfl) (n := k) fun _ _ _ => rfl
noncomputable def F51 (k : Nat) (v : mi51.den) : Option mo51.den := runF TI (O34 k) (L51 k) c51 mi51 mo51 v
theorem lk51 (k : Nat) : LinksOK Try.prog 32 (L51 k) c51 := (And.intro True.intro (And.intro (And.intro True.intro (And.intro (And.intro True.intro True.intro) True.intro)) (And.intro True.intro (And.intro (And.intro True.intro (lk_L51_5 k)) (And.intro (And.intro True.intro (And.intro (And.intro True.intro True.intro) True.intro)) (And.intro True.intro True.intro))))))
theorem fn51 (k : Nat) (args : List AV) (x : mi51.den) (r : mo51.den) (h1 : args.length = mi51.items.length) (h2 : mi51.dec (Th.start args) = some x) (h3 : F51 k x = some r) : CallOK Try.prog 51 args (ansOf (outL mo51.items r)) :=
  call_of hm hT (ok_O34 k) (fn := Try.f51) (c := c51) rfl rfl rfl rfl (lk51 k) rfl (by decide) rfl h1 h2 h3
noncomputable def O51 (k : Nat) : Orc := fun R f args K => bif Nat.beq f 51 then callF mi51 mo51 (F51 k) args K else O34 k R f args K
theorem ok_O51 (k : Nat) : OrcOK (O51 k) (CallOK Try.prog) := orc_add (fn51 k) (ok_O34 k)

/-! 35: paydesk/paydeskref01.Must -/
noncomputable def c35 : Code := Try.f35.body.getD .skip
noncomputable def mi35 : Msk := ⟨[(.tmp 0, .val (.int .u64)), (.tmp 1, .val (.int .i64))], []⟩
noncomputable def mo35 : Msk := ⟨[(.tmp 4, .val .str)], []⟩
noncomputable def L35 (k : Nat) : LOrc := fun _ _ _ _ => none
noncomputable def F35 (k : Nat) (v : mi35.den) : Option mo35.den := runF TI (O51 k) (L35 k) c35 mi35 mo35 v
theorem lk35 (k : Nat) : LinksOK Try.prog 14 (L35 k) c35 := (And.intro True.intro (And.intro True.intro (And.intro True.intro True.intro)))
theorem fn35 (k : Nat) (args : List AV) (x : mi35.den) (r : mo35.den) (h1 : args.length = mi35.items.length) (h2 : mi35.dec (Th.start args) = some x) (h3 : F35 k x = some r) : CallOK Try.prog 35 args (ansOf (outL mo35.items r)) :=
  call_of hm hT (ok_O51 k) (fn := Try.f35) (c := c35) rfl rfl rfl rfl (lk35 k) rfl (by decide) rfl h1 h2 h3
noncomputable def O35 (k : Nat) : Orc := fun R f args K => bif Nat.beq f 35 then callF mi35 mo35 (F35 k) args K else O51 k R f args K
theorem ok_O35 (k : Nat) : OrcOK (O35 k) (CallOK Try.prog) := orc_add (fn35 k) (ok_O51 k)

/-! 15: paydesk/paydeskref03.Write -/
noncomputable def c15 : Code := Try.f15.body.getD .skip
noncomputable def mi15 : Msk := ⟨[(.tmp 0, .val (.int .i64)), (.tmp 1, .val .str)], []⟩
noncomputable def mo15 : Msk := ⟨[(.tmp 4, .row false (.int .u8))], []⟩
noncomputable def L15 (k : Nat) : LOrc := fun _ _ _ _ => none
noncomputable def F15 (k : Nat) (v : mi15.den) : Option mo15.den := runF TI (O35 k) (L15 k) c15 mi15 mo15 v
theorem lk15 (k : Nat) : LinksOK Try.prog 28 (L15 k) c15 := (And.intro True.intro (And.intro True.intro (And.intro True.intro (And.intro (And.intro True.intro (And.intro (And.intro True.intro True.intro) True.intro)) (And.intro True.intro True.intro)))))
theorem fn15 (k : Nat) (args : List AV) (x : mi15.den) (r : mo15.den) (h1 : args.length = mi15.items.length) (h2 : mi15.dec (Th.start args) = some x) (h3 : F15 k x = some r) : CallOK Try.prog 15 args (ansOf (outL mo15.items r)) :=
  call_of hm hT (ok_O35 k) (fn := Try.f15) (c := c15) rfl rfl rfl rfl (lk15 k) rfl (by decide) rfl h1 h2 h3
noncomputable def O15 (k : Nat) : Orc := fun R f args K => bif Nat.beq f 15 then callF mi15 mo15 (F15 k) args K else O35 k R f args K
theorem ok_O15 (k : Nat) : OrcOK (O15 k) (CallOK Try.prog) := orc_add (fn15 k) (ok_O35 k)

/-! 53: paydesk/paydeskref01.Is -/
noncomputable def c53 : Code := Try.f53.body.getD .skip
noncomputable def mi53 : Msk := ⟨[(.tmp 0, .val .str)], []⟩
noncomputable def mo53 : Msk := ⟨[(.tmp 2, .val .bool)], []⟩
noncomputable def L53_2 (k : Nat) : LOrc := fun _ _ _ _ => none
noncomputable def b53_2 : Code := (findLoop 2 c53).getD .skip
noncomputable def m53_2 : Msk := ⟨[(.tmp 0, .val .str), (.tmp 3, .val (.int .i64))], []⟩
noncomputable def x53_2 : List (X × Msk) := [(.exit 0, ⟨[(.tmp 0, .val .str)], []⟩), (.ret, ⟨[(.tmp 2, .val .bool)], []⟩)]
noncomputable def F53_2 (k : Nat) : Nat → m53_2.den → Option (denE x53_2)
  | 0, _ => none
  | j + 1, v => round TI (O15 k) (L53_2 k) b53_2 m53_2 x53_2 (F53_2 k j) v
theorem lk53_2_ (k : Nat) : LinksOK Try.prog 23 (L53_2 k) b53_2 := (And.intro (And.intro True.intro (And.intro True.intro True.intro)) (And.intro (And.intro True.intro (And.intro (And.intro True.intro True.intro) True.intro)) True.intro))
noncomputable def L53 (k : Nat) : LOrc := fun R lk s K => match lk with
  | .loop r => bif Nat.beq r 2 then link m53_2 x53_2 (F53_2 k k) s K else none
  | .label l => none
theorem lk_L53_2 (k : Nat) : LoopOK Try.prog 23 (L53 k) b53_2 := loopOK_of hm hT (ok_O15 k) (fun _ _ _ h => h) rfl (lk53_2_ k) rfl rfl (F := F53_2 k) (fun _ => rfl) (fun _ _ => rfl) (n := k) fun _ _ _ => rfl
noncomputable def F53 (k : Nat) (v : mi53.den) : Option mo53.den := runF TI (O15 k) (L53 k) c53 mi53 mo53 v
theorem lk53 (k : Nat) : LinksOK Try.prog 23 (L53 k) c53 := (And.intro True.intro (And.intro (And.intro True.intro (lk_L53_2 k)) (And.intro True.intro True.intro)))
theorem fn53 (k : Nat) (args : List AV) (x : mi53.den) (r : mo53.den) (h1 : args.length = mi53.items.length) (h2 : mi53.dec (Th.start args) = some x) (h3 : F53 k x = some r) : CallOK Try.prog 53 args (ansOf (outL mo53.items r)) :=
  call_of hm hT (ok_O15 k) (fn := Try.f53) (c := c53) rfl rfl rfl rfl (lk53 k) rfl (by decide) rfl h1 h2 h3
noncomputable def O53 (k : Nat) : Orc := fun R f args K => bif Nat.beq f 53 then callF mi53 mo53 (F53 k) args K else O15 k R f args K
theorem ok_O53 (k : Nat) : OrcOK (O53 k) (CallOK Try.prog) := orc_add (fn53 k) (ok_O15 k)

/-! 37: paydesk/paydeskref01.Get -/
noncomputable def c37 : Code := Try.f37.body.getD .skip
noncomputable def mi37 : Msk := ⟨[(.tmp 0, .val .str)], []⟩
noncomputable def mo37 : Msk := ⟨[(.tmp 2, .val (.int .u64)), (.tmp 3, .val (.int .i64))], []⟩
noncomputable def L37_9 (k : Nat) : LOrc := fun _ _ _ _ => none
noncomputable def b37_9 : Code := (findLoop 9 c37).getD .skip
noncomputable def m37_9 : Msk := ⟨[(.tmp 0, .val .str), (.tmp 4, .val (.int .u64)), (.tmp 5, .val (.int .i64))], []⟩
noncomputable def x37_9 : List (X × Msk) := [(.exit 0, ⟨[(.tmp 4, .val (.int .u64))], []⟩)]
noncomputable def F37_9 (k : Nat) : Nat → m37_9.den → Option (denE x37_9)
  | 0, _ => none
  | j + 1, v => round TI (O53 k) (L37_9 k) b37_9 m37_9 x37_9 (F37_9 k j) v
theorem lk37_9_ (k : Nat) : LinksOK Try.prog 30 (L37_9 k) b37_9 := (And.intro (And.intro True.intro (And.intro True.intro True.intro)) (And.intro True.intro True.intro))
noncomputable def L37 (k : Nat) : LOrc := fun R lk s K => match lk with
  | .loop r => bif Nat.beq r 9 then link m37_9 x37_9 (F37_9 k k) s K else none
  | .label l => none
theorem lk_L37_9 (k : Nat) : LoopOK Try.prog 30 (L37 k) b37_9 := loopOK_of hm hT (ok_O53 k) (fun _ _ _ h => h) rfl (lk37_9_ k) rfl rfl (F := F37_9 k) (fun _ => rfl) (fun _ _ => rfl) (n := k) fun _ _ _ => rfl
noncomputable def F37 (k : Nat) (v : mi37.den) : Option mo37.den := runF TI (O53 k) (L37 k) c37 mi37 mo37 v
theorem lk37 (k : Nat) : LinksOK Try.prog 30 (L37 k) c37 := (And.intro True.intro (And.intro (And.intro True.intro (And.intro (And.intro True.intro True.intro) True.intro)) (And.intro (And.intro True.intro (And.intro (And.intro True.intro True.intro) True.intro)) (And.intro (And.intro True.intro (And.intro (And.intro True.intro True.intro) True.intro)) (And.intro True.intro (And.intro (And.intro True.intro (lk_L37_9 k)) (And.intro True.intro True.intro)))))))
theorem fn37 (k : Nat) (args : List AV) (x : mi37.den) (r : mo37.den) (h1 : args.length = mi37.items.length) (h2 : mi37.dec (Th.start args) = some x) (h3 : F37 k x = some r) : CallOK Try.prog 37 args (ansOf (outL mo37.items r)) :=
  call_of hm hT (ok_O53 k) (fn := Try.f37) (c := c37) rfl rfl rfl rfl (lk37 k) rfl (by decide) rfl h1 h2 h3
noncomputable def O37 (k : Nat) : Orc := fun R f args K => bif Nat.beq f 37 then callF mi37 mo37 (F37 k) args K else O53 k R f args K
theorem ok_O37 (k : Nat) : OrcOK (O37 k) (CallOK Try.prog) := orc_add (fn37 k) (ok_O53 k)

/-! 17: paydesk/paydeskref03.Read -/
noncomputable def c17 : Code := Try.f17.body.getD .skip
noncomputable def mi17 : Msk := ⟨[(.tmp 0, .val (.int .i64)), (.tmp 1, .val (.slice (.int .u8)))], []⟩
noncomputable def mo17 : Msk := ⟨[(.tmp 4, .val .str), (.tmp 5, .val (.int .i64)), (.tmp 6, .val (.int .i64))], []⟩
noncomputable def L17 (k : Nat) : LOrc := fun _ _ _ _ => none
noncomputable def F17 (k : Nat) (v : mi17.den) : Option mo17.den := runF TI (O37 k) (L17 k) c17 mi17 mo17 v
theorem lk17 (k : Nat) : LinksOK Try.prog 74 (L17 k) c17 := (And.intro True.intro (And.intro True.intro (And.intro (And.intro True.intro (And.intro (And.intro True.intro True.intro) True.intro)) (And.intro True.intro (And.intro True.intro (And.intro (And.intro True.intro (And.intro (And.intro (And.intro True.intro (And.intro (And.intro True.intro True.intro) True.intro)) (And.intro True.intro (And.intro (And.intro True.intro (And.intro (And.intro True.intro True.intro) True.intro)) (And.intro True.intro (And.intro True.intro (And.intro (And.intro True.intro True.intro) True.intro)))))) True.intro)) (And.intro (And.intro True.intro (And.intro (And.intro True.intro True.intro) True.intro)) (And.intro True.intro (And.intro (And.intro True.intro (And.intro (And.intro True.intro True.intro) True.intro)) (And.intro True.intro True.intro))))))))))
theorem fn17 (k : Nat) (args : List AV) (x : mi17.den) (r : mo17.den) (h1 : args.length = mi17.items.length) (h2 : mi17.dec (Th.start args) = some x) (h3 : F17 k x = some r) : CallOK Try.prog 17 args (ansOf (outL mo17.items r)) :=
  call_of hm hT (ok_O37 k) (fn := Try.f17) (c := c17) rfl rfl rfl rfl (lk17 k) rfl (by decide) rfl h1 h2 h3
noncomputable def O17 (k : Nat) : Orc := fun R f args K => bif Nat.beq f 17 then callF mi17 mo17 (F17 k) args K else O37 k R f args K
theorem ok_O17 (k : Nat) : OrcOK (O17 k) (CallOK Try.prog) := orc_add (fn17 k) (ok_O37 k)

/-! 3: paydesk/paydesklaw03.FieldRight -/
noncomputable def c3 : Code := Try.f3.body.getD .skip
noncomputable def mi3 : Msk := ⟨[(.tmp 0, .val (.int .i64)), (.tmp 1, .val .str), (.tmp 2, .val (.slice (.int .u8)))], []⟩
noncomputable def mo3 : Msk := ⟨[(.tmp 6, .val .bool)], []⟩
noncomputable def L3 (k : Nat) : LOrc := fun _ _ _ _ => none
noncomputable def F3 (k : Nat) (v : mi3.den) : Option mo3.den := runF TI (O17 k) (L3 k) c3 mi3 mo3 v
theorem lk3 (k : Nat) : LinksOK Try.prog 122 (L3 k) c3 := (And.intro True.intro (And.intro (And.intro True.intro (And.intro (And.intro True.intro True.intro) True.intro)) (And.intro (And.intro True.intro (And.intro (And.intro True.intro True.intro) True.intro)) (And.intro True.intro (And.intro True.intro (And.intro True.intro (And.intro True.intro (And.intro True.intro (And.intro (And.intro True.intro (And.intro True.intro (And.intro True.intro (And.intro True.intro True.intro)))) (And.intro (And.intro True.intro (And.intro (And.intro True.intro True.intro) True.intro)) (And.intro True.intro (And.intro True.intro (And.intro True.intro True.intro)))))))))))))
theorem fn3 (k : Nat) (args : List AV) (x : mi3.den) (r : mo3.den) (h1 : args.length = mi3.items.length) (h2 : mi3.dec (Th.start args) = some x) (h3 : F3 k x = some r) : CallOK Try.prog 3 args (ansOf (outL mo3.items r)) :=
  call_of hm hT (ok_O17 k) (fn := Try.f3) (c := c3) rfl rfl rfl rfl (lk3 k) rfl (by decide) rfl h1 h2 h3
noncomputable def O3 (k : Nat) : Orc := fun R f args K => bif Nat.beq f 3 then callF mi3 mo3 (F3 k) args K else O17 k R f args K
theorem ok_O3 (k : Nat) : OrcOK (O3 k) (CallOK Try.prog) := orc_add (fn3 k) (ok_O17 k)

/-! 4: paydesk/paydesklaw03.FieldBack -/
noncomputable def c4 : Code := Try.f4.body.getD .skip
noncomputable def mi4 : Msk := ⟨[(.tmp 0, .val (.int .i64)), (.tmp 1, .val .str), (.tmp 2, .val .str), (.tmp 3, .val (.slice (.int .u8))), (.tmp 4, .val (.int .u16))], []⟩
noncomputable def mo4 : Msk := ⟨[(.tmp 10, .val .bool)], []⟩
noncomputable def L4 (k : Nat) : LOrc := fun _ _ _ _ => none
noncomputable def F4 (k : Nat) (v : mi4.den) : Option mo4.den := runF TI (O3 k) (L4 k) c4 mi4 mo4 v
theorem lk4 (k : Nat) : LinksOK Try.prog 172 (L4 k) c4 := (And.intro True.intro (And.intro (And.intro True.intro (And.intro (And.intro True.intro True.intro) True.intro)) (And.intro (And.intro True.intro (And.intro (And.intro True.intro True.intro) True.intro)) (And.intro True.intro (And.intro True.intro (And.intro (And.intro True.intro (And.intro (And.intro True.intro (And.intro True.intro (And.intro (And.intro True.intro (And.intro (And.intro True.intro True.intro) True.intro)) (And.intro True.intro (And.intro (And.intro True.intro True.intro) True.intro))))) True.intro)) (And.intro True.intro (And.intro (And.intro True.intro (And.intro (And.intro True.intro True.intro) True.intro)) (And.intro True.intro (And.intro True.intro True.intro))))))))))
theorem fn4 (k : Nat) (args : List AV) (x : mi4.den) (r : mo4.den) (h1 : args.length = mi4.items.length) (h2 : mi4.dec (Th.start args) = some x) (h3 : F4 k x = some r) : CallOK Try.prog 4 args (ansOf (outL mo4.items r)) :=
  call_of hm hT (ok_O3 k) (fn := Try.f4) (c := c4) rfl rfl rfl rfl (lk4 k) rfl (by decide) rfl h1 h2 h3
noncomputable def O4 (k : Nat) : Orc := fun R f args K => bif Nat.beq f 4 then callF mi4 mo4 (F4 k) args K else O3 k R f args K
theorem ok_O4 (k : Nat) : OrcOK (O4 k) (CallOK Try.prog) := orc_add (fn4 k) (ok_O3 k)

/-! 5: paydesk/paydesklaw03.FieldKnown -/
noncomputable def c5 : Code := Try.f5.body.getD .skip
noncomputable def mi5 : Msk := ⟨[(.tmp 0, .val (.int .i64)), (.tmp 1, .val .str)], []⟩
noncomputable def mo5 : Msk := ⟨[(.tmp 4, .val .bool)], []⟩
noncomputable def L5_7 (k : Nat) : LOrc := fun _ _ _ _ => none
noncomputable def b5_7 : Code := (findLoop 7 c5).getD .skip
noncomputable def m5_7 : Msk := ⟨[(.tmp 0, .val (.int .i64)), (.tmp 1, .val .str), (.tmp 5, .val (.int .i64)), (.tmp 6, .val (.int .i64))], []⟩
noncomputable def x5_7 : List (X × Msk) := [(.exit 0, ⟨[(.tmp 0, .val (.int .i64)), (.tmp 1, .val .str), (.tmp 5, .val (.int .i64))], []⟩), (.ret, ⟨[(.tmp 4, .val .bool)], []⟩)]
noncomputable def F5_7 (k : Nat) : Nat → m5_7.den → Option (denE x5_7)
  | 0, _ => none
  | j + 1, v => round TI (O4 k) (L5_7 k) b5_7 m5_7 x5_7 (F5_7 k j) v
theorem lk5_7_ (k : Nat) : LinksOK Try.prog 114 (L5_7 k) b5_7 := (And.intro (And.intro True.intro (And.intro True.intro True.intro)) (And.intro (And.intro True.intro (And.intro (And.intro True.intro (And.intro True.intro True.intro)) (And.intro True.intro (And.intro (And.intro True.intro True.intro) True.intro)))) True.intro))
noncomputable def L5 (k : Nat) : LOrc := fun R lk s K => match lk with
  | .loop r => bif Nat.beq r 7 then link m5_7 x5_7 (F5_7 k k) s K else none
  | .label l => none
theorem lk_L5_7 (k : Nat) : LoopOK Try.prog 114 (L5 k) b5_7 := loopOK_of hm hT (ok_O4 k) (fun _ _ _ h => h) rfl (lk5_7_ k) rfl rfl (F := F5_7 k) (fun _ => rfl) (fun _ _ => rfl) (n := k) fun _ _ _ => rfl
noncomputable def F5 (k : Nat) (v : mi5.den) : Option mo5.den := runF TI (O4 k) (L5 k) c5 mi5 mo5 v
theorem lk5 (k : Nat) : LinksOK Try.prog 114 (L5 k) c5 := (And.intro True.intro (And.intro (And.intro True.intro (And.intro (And.intro True.intro True.intro) True.intro)) (And.intro (And.intro True.intro (And.intro (And.intro True.intro True.intro) True.intro)) (And.intro True.intro (And.intro (And.intro True.intro (lk_L5_7 k)) (And.intro True.intro (And.intro (And.intro True.intro (And.intro (And.intro True.intro True.intro) True.intro)) (And.intro True.intro (And.intro True.intro (And.intro True.intro True.intro))))))))))
theorem fn5 (k : Nat) (args : List AV) (x : mi5.den) (r : mo5.den) (h1 : args.length = mi5.items.length) (h2 : mi5.dec (Th.start args) = some x) (h3 : F5 k x = some r) : CallOK Try.prog 5 args (ansOf (outL mo5.items r)) :=
  call_of hm hT (ok_O4 k) (fn := Try.f5) (c := c5) rfl rfl rfl rfl (lk5 k) rfl (by decide) rfl h1 h2 h3
noncomputable def O5 (k : Nat) : Orc := fun R f args K => bif Nat.beq f 5 then callF mi5 mo5 (F5 k) args K else O4 k R f args K
theorem ok_O5 (k : Nat) : OrcOK (O5 k) (CallOK Try.prog) := orc_add (fn5 k) (ok_O4 k)

end Go.Proofs.Ytjgnpmdbkgeakaa.G
