/- THE CLAIM'S TEXTS, part 3: what its proof needs of the theory, the functions, their equations and the laws. No condition. -/
import Derived.Test.YtcgnmecbdleehaaDoorQTraceOthers2
import Derived.WalkKit
import Derived.ProofKit
import Derived.OpenShut
import Derived.ShutString
import Derived.ChangeOld
import Derived.SizedLaws
import Derived.ChangeArms
import Derived.RangeFuncFrom
import Derived.RangeFuncBox
import Derived.RangeFuncLeaves
import Derived.Shelf.Abstract
import Derived.OwnWalkIn
import Derived.TacticsIn
import Derived.TacticsInMore
import Derived.BigFrameIn
import Derived.LoopNIn
import Derived.LoopIn
import Derived.Test.YtcgnmecbdleehaaDoorProg
import Derived.Lib.OthersKept
import Derived.Laws.RangeAny
import Derived.Shelf.RegionOpenPlain
import Derived.Lib.Walk
import Derived.Lib.SliceRun
import Derived.Lib.AppendZerosOnto
import Derived.Laws.MakeOwn
import Derived.Laws.CopyOwn
import Derived.KernelRfl
section
set_option linter.unusedVariables false
set_option linter.unusedSimpArgs false
set_option linter.unusedVariables false
set_option linter.unusedSimpArgs false
set_option linter.unusedVariables false
set_option linter.unusedSimpArgs false
set_option linter.unusedVariables false
set_option linter.unusedSimpArgs false
set_option linter.unusedVariables false
set_option linter.unusedSimpArgs false
set_option linter.unusedVariables false
set_option linter.unusedSimpArgs false
namespace Go.Proofs.YtcgnmecbdleehaaDoor.Th
open Go Go.RowKit
section
variable {P : Program} {TI : TEnv} {O : Orc} {L : LOrc} {B : Bd} {N : Nat} {g : Gh} {s : S} {w : World} {a : Act}
theorem call_coreL (hm : P.follows .mixedOrders = true) (hT : TIok P TI) (hO : OrcOK O (CallOK P)) {f : FuncId} {fn : Func} {c : Code} (hf : P.funcs[f]? = some fn) (hb : fn.body = some c)
    (hc : codeOK fn.ntmps c = true) (hl : LinksOK P fn.ntmps L c) {R : Type} {K : X → S → Option R} {r0 : R} {s0 : S} (hr : run TI O L c s0 K = some r0) {v : AV}
    (hK : ∀ x s, K x s = some r0 → (x = .ret ∨ x = .norm) ∧ ∃ (mo : Msk) (r : mo.den), mskOKB TI fn.results.toList mo = true ∧ mo.dec s = some r ∧ v = backOf fn.results.toList.length (outM mo.items r))
    {w : World} {pr : Nat → Nat → Prop} {us : List Value} {kb : Nat} {own : List (Option Nat)} (hJ0 : J (bdL w.heap.size pr kb own) w fn.ntmps s0 { tmps := us.toArray ++ Array.replicate (fn.ntmps - us.toArray.size) undef, defers := [] } w) :
    ∃ r cs', v = .back r cs' ∧ Calls P f us.toArray w fun e w' => ∃ ru pr' own', e = .returned ru ∧ BelowB (bdL w.heap.size pr kb own) w w' ∧ (∀ k o, ¬ (bdL w.heap.size pr kb own).mine k → (pr' k o ↔ pr k o)) ∧ (∀ k o, pr' k o → k < w'.heap.size) ∧
      BoxC (bdL w.heap.size pr kb own) w' pr' kb cs' own' ∧ RetL w' pr' kb r ru := by
  obtain ⟨x1, s1, h1, w1⟩ := run_wp hm hT hO (fun _ _ _ h => h) c hc hl _ _ _ _ hr
  obtain ⟨hx1, mo, r, ho, hd0, rfl⟩ := hK x1 s1 h1
  refine ⟨_, _, rfl, ?_⟩
  refine calls_of_wp hf hb (wp_mono (w1 _ _ _ _ hJ0) ?_)
  rintro e a w' ⟨rfl, g0, hrel0, hbel⟩
  have hend : a.defers = [] ∧ ∃ v, (results fn a.tmps).run P w' = .ok v w' ∧ (∃ ru pr' own', Ending.returned v = .returned ru ∧ BelowB (bdL w.heap.size pr kb own) w w' ∧ (∀ k o, ¬ (bdL w.heap.size pr kb own).mine k → (pr' k o ↔ pr k o)) ∧ (∀ k o, pr' k o → k < w'.heap.size) ∧
      BoxC (bdL w.heap.size pr kb own) w' pr' kb ((outM mo.items r).drop fn.results.toList.length) own' ∧ RetL w' pr' kb (ansOf ((outM mo.items r).take fn.results.toList.length)) ru) := by
    refine ⟨hrel0.df, ?_⟩
    unfold mskOKB at ho
    simp only [Bool.and_eq_true] at ho
    obtain ⟨⟨ho, hbo⟩, hown⟩ := ho
    have hd := hd0
    unfold Msk.dec at hd
    cases hbx : boxesOK s1 mo.boxes with
    | false => rw [hbx] at hd; cases hd
    | true =>
      rw [hbx] at hd
      simp only [] at hd
      cases hdl : decL (snapL mo.items s1) (mo.boxes.map (·.1)) mo.items [] with
      | none => rw [hdl] at hd; cases hd
      | some y =>
        obtain ⟨v', used'⟩ := y
        rw [hdl] at hd
        have hvv : r = v' := by simpa using hd.symm
        subst hvv
        clear hd
        obtain ⟨g, hrel⟩ := snapL_rel mo.items hrel0
        obtain ⟨bs, U⟩ := decL_outM hrel _ mo.items hown hdl
        obtain ⟨len1, hcells, hpos⟩ := outOKB_get ho
        obtain ⟨nr, hnr⟩ : ∃ nr, nr = fn.results.toList.length := ⟨_, rfl⟩
        rw [← hnr] at len1 hcells hbo ⊢
        -- the lent box at the end
        obtain ⟨bcs, hbcs, hblen, hnfz⟩ : ∃ bcs, s1.boxes lentBox = some bcs ∧ bcs.length = mo.items.length - nr ∧ bcs.any isFz = false := by
          refine boxesOK_get hbx lentBox _ ?_
          revert hbo
          cases hmb : mo.boxes with
          | nil => intro h; simp [boxesOKB] at h
          | cons p l =>
            cases l with
            | cons _ _ => intro h; obtain ⟨_, _⟩ := p; simp [boxesOKB] at h
            | nil =>
              obtain ⟨b, m⟩ := p
              intro hbo
              simp only [boxesOKB, Bool.and_eq_true] at hbo
              rw [Nat.eq_of_beq_eq_true hbo.1, Nat.eq_of_beq_eq_true hbo.2]
              simp
        have hsb : (snapL mo.items s1).boxes = s1.boxes := (snapL_same mo.items s1).2
        have hbcs2 : (snapL mo.items s1).boxes lentBox = some bcs := by rw [hsb]; exact hbcs
        obtain ⟨k0, hβ, ok⟩ := hrel.bx _ _ hbcs2
        have hk0 : k0 = kb := by
          have := (hrel.ex.lb lentBox kb (by simp [bdL])).2 (by rw [hbcs2]; simp)
          rw [hβ] at this; cases this; rfl
        subst hk0
        obtain ⟨cus, el, fr, r1, r2, r3⟩ := ok.row
        have hcl := r3.len
        -- results
        have hmapM : ∀ f : ResultVar → Sem Value, (∀ t, f (.tmp t) = pure (a.tmps.getD t undef)) → (∀ b t, f (.cell b t) = (do loadVar t (← asAddr (a.tmps.getD b undef)))) →
            ∃ vals : List Value, (fn.results.mapM f).run P w' = .ok vals.toArray w' ∧ vals.length = nr ∧ ∀ (i : Nat) (u : Value) (q : Pos × MC), vals[i]? = some u → (mo.items.take nr)[i]? = some q → VR w' g (q.1.get (snapL mo.items s1)) u := by
          intro f hf hf2
          obtain ⟨vals, v1, v2, v3⟩ := run_resultsL (P := P) (w := w') (f := f) (rs := fn.results.toList) (l := mo.items.take nr) (V := fun q u => VR w' g (q.1.get (snapL mo.items s1)) u) (by rw [List.length_take]; omega) (fun i r q e1 e2 => by
            have hi : i < nr := by have := (List.getElem?_eq_some_iff.1 e2).1; simp at this; omega
            have e2' : mo.items[i]? = some q := by rw [List.getElem?_take_of_lt hi] at e2; exact e2
            rcases hpos i r q e1 e2' with ⟨h1, _⟩ | ⟨t, o⟩
            · exact run_res hT hrel h1 (fun T e => decL_item hdl i q.1 T (by rw [e2', ← e])) hf hf2
            · exact ⟨_, by rw [hf]; rfl, hrel.tm t⟩)
          refine ⟨vals, ?_, by rw [v2]; simp; omega, v3⟩
          rw [Array.mapM_eq_mapM_toList]
          show ((List.mapM f fn.results.toList) >>= fun x => pure x.toArray).run P w' = _
          rw [Sem.run_bind, v1]
          rfl
        obtain ⟨vals, hmapM, hvals, hval⟩ := hmapM (fun
          | .tmp t => pure (a.tmps.getD t undef)
          | .cell b t => do loadVar t (← asAddr (a.tmps.getD b undef))) (fun _ => rfl) (fun _ _ => rfl)
        have hlenO := U.len
        have hlenB := U.blen
        have hkbmine : ∀ o, ¬ g.pr k0 o := fun o p => by
          obtain ⟨v, hv⟩ := ok.free o p
          exact absurd rfl (List.any_eq_false.1 hnfz _ (List.mem_of_getElem? hv))
        have hres : ∀ (i : Nat) (x : AV) (u : Value), i < nr → (outM mo.items r)[i]? = some x → vals[i]? = some u → ARg w' g.pr k0 x u := by
          intro i x u hi e1 e2
          have hil : i < mo.items.length := by omega
          have hq : mo.items[i]? = some mo.items[i] := by simp [hil]
          have hbi : bs[i]? = some bs[i] := by simp [show i < bs.length by omega]
          have hv := hval i u mo.items[i] e2 (by rw [List.getElem?_take_of_lt hi]; exact hq)
          have hir : i < fn.results.toList.length := by omega
          have hO2 := hpos i fn.results.toList[i] mo.items[i] (by simp [hir]) hq
          rcases U.own i x mo.items[i] bs[i] e1 hq hbi u hv with h | ⟨b', o, rfl, _, hlr⟩
          · by_cases hx : ∃ T l, x = .own T l
            · obtain ⟨T, l, rfl⟩ := hx
              exfalso
              have hrow : ∃ sh T', mo.items[i].2 = .row sh T' := outM_own e1 hq
              obtain ⟨sh, T', hrow⟩ := hrow
              revert hrow hO2
              generalize mo.items[i] = q
              generalize fn.results.toList[i] = rr
              intro hO2 hrow
              cases hO2 with
              | one _ hv => obtain ⟨T2, e⟩ := hv; rw [e] at hrow; cases hrow
              | ptr t o => cases hrow
            · right
              cases x <;> first | exact h.1 | exact absurd ⟨_, _, rfl⟩ hx
          · obtain ⟨k, e, e'⟩ := hlr
            have hpt : mo.items[i].2 = .ptr b' o := outM_ptr e1 hq
            have hb' : b' = lentBox := by
              revert hpt hO2
              generalize mo.items[i] = q
              generalize fn.results.toList[i] = rr
              intro hO2 hpt
              cases hO2 with
              | one _ hv => obtain ⟨T2, e⟩ := hv; rw [e] at hpt; cases hpt
              | ptr t o' => cases hpt; rfl
            subst hb'
            rw [hβ] at e; cases e
            exact .inl ⟨o, rfl, e'⟩
        refine ⟨if h : vals.toArray.size = 1 then vals.toArray[0] else .tuple vals.toArray, ?_, ?_⟩
        · unfold results
          rw [Sem.run_bind]
          exact congrArg (fun r => Result.andThen r (fun (vs : Array Value) w' => (pure (if h : vs.size = 1 then vs[0] else .tuple vs) : Sem Value).run P w')) hmapM
        · refine ⟨_, g.pr, bs.drop nr, rfl, hbel, hrel.prB, hrel.prlt, ?_, ?_⟩
          · refine ⟨⟨cus, el, fr, r1, r2, by rw [List.length_drop, hlenO, ← hcl, hblen], fun i x u b e1 e2 e3 => ?_⟩, hkbmine, by rw [List.length_drop, List.length_drop, hlenO, hlenB], ?_, ?_⟩
            · rw [List.getElem?_drop] at e1 e3
              have hil : nr + i < mo.items.length := by rw [← hlenO]; exact (List.getElem?_eq_some_iff.1 e1).1
              have hq : mo.items[nr + i]? = some mo.items[nr + i] := by simp [hil]
              have hcg := cellsOKB_get hcells i mo.items[nr + i] (by rw [List.getElem?_drop]; exact hq)
              obtain ⟨hpos1, hval1⟩ := hcg
              rw [Nat.zero_add] at hpos1
              have hv : VR w' g (mo.items[nr + i].1.get (snapL mo.items s1)) u := by
                rw [hpos1]
                show VR w' g (match (snapL mo.items s1).boxes lentBox with
                  | some cs => cs.getD i .undef
                  | none => .undef) u
                rw [hbcs2]
                have hib : i < bcs.length := by omega
                obtain ⟨u', hu', hlr⟩ := r3.get i bcs[i] (by simp [hib])
                rw [e2] at hu'; cases hu'
                have : bcs.getD i .undef = bcs[i] := by simp [hib]
                simp only [this]
                exact VR_of_LR hlr
              rcases U.own (nr + i) x _ b e1 hq e3 u hv with h | ⟨b', o, rfl, _, _⟩
              · exact h
              · exfalso
                have hpt := outM_ptr e1 hq
                rcases hval1 with ⟨T, e⟩ | ⟨T, e⟩ <;> rw [e] at hpt <;> cases hpt
            · intro i j k e1 e2
              rw [List.getElem?_drop] at e1 e2
              have := U.inj _ _ _ e1 e2
              omega
            · intro k hk e
              obtain ⟨i, hi⟩ := List.getElem?_of_mem hk
              rw [List.getElem?_drop] at hi
              obtain ⟨h, tg0, _, _, q3, q4, q5⟩ := U.src _ _ hi
              exact hrel.tbx h tg0 k lentBox q3 q4 q5 (by rw [hβ, e])
          · have hlt : ((outM mo.items r).take nr).length = nr := by rw [List.length_take, hlenO]; omega
            by_cases h1 : vals.length = 1
            · obtain ⟨u, rfl⟩ := List.length_eq_one_iff.1 h1
              have hnr1 : nr = 1 := by rw [← hvals]; rfl
              cases hol : (outM mo.items r).take nr with
              | nil => rw [hol] at hlt; simp at hlt; omega
              | cons x xs =>
                cases xs with
                | cons _ _ => rw [hol] at hlt; simp at hlt; omega
                | nil =>
                  have hx0 : (outM mo.items r)[0]? = some x := by
                    have : ((outM mo.items r).take nr)[0]? = some x := by rw [hol]; rfl
                    rw [List.getElem?_take_of_lt (by omega)] at this; exact this
                  have := hres 0 x u (by omega) hx0 rfl
                  show RetL w' g.pr k0 x u
                  unfold RetL
                  split
                  · rename_i vs
                    rcases this with ⟨_, e, _⟩ | h | ⟨_, _, e, _⟩
                    · cases e
                    · exact h.elim
                    · cases e
                  · exact this
            · rw [dif_neg (by simpa using h1)]
              have hne : ((outM mo.items r).take nr).length ≠ 1 := by rw [hlt, ← hvals]; exact h1
              have : ansOf ((outM mo.items r).take nr) = .tup ((outM mo.items r).take nr) := by
                unfold ansOf
                split
                · rename_i e; rw [e] at hne; simp at hne
                · rfl
              rw [this]
              refine ⟨vals, rfl, All2.of_get (by rw [hlt, hvals]) fun i x u e1 e2 => ?_⟩
              have hi : i < nr := by rw [← hlt]; exact (List.getElem?_eq_some_iff.1 e1).1
              rw [List.getElem?_take_of_lt hi] at e1
              exact hres i x u hi e1 e2
  rcases hx1 with rfl | rfl
  · exact hend
  · exact hend
theorem call_ofL (hm : P.follows .mixedOrders = true) (hT : TIok P TI) (hO : OrcOK O (CallOK P)) {f : FuncId} {fn : Func} {c : Code} (hf : P.funcs[f]? = some fn) (hb : fn.body = some c) (hname : (fn.name == "runtime.NumGoroutine") = false)
    (hc : codeOK fn.ntmps c = true) (hl : LinksOK P fn.ntmps L c) {mi : Msk} {ms : List Msk} (hi : mi.ok = true) {na : Nat} (hn : na ≤ fn.ntmps) (hN : fn.ntmps ≤ lentBox) (ho : ms.all (mskOKB TI fn.results.toList) = true)
    {vs cs : List AV} {x : mi.den} {r : denA ms} (hlen : vs.length = na) (hx : mi.dec (startL vs cs) = some x) (hr : runA TI O L c mi ms x = some r) : CallOK P f (vs ++ [.lent cs]) (valB fn.results.toList.length ms r) := by
  have hK : ∀ (x : X) (s : S), endA ms x s = some r → (x = .ret ∨ x = .norm) ∧ ∃ (mo : Msk) (y : mo.den), mskOKB TI fn.results.toList mo = true ∧ mo.dec s = some y ∧ valB fn.results.toList.length ms r = backOf fn.results.toList.length (outM mo.items y) := by
    intro x s h
    have key : ∀ h : inA ms s = some r, ∃ (mo : Msk) (y : mo.den), mskOKB TI fn.results.toList mo = true ∧ mo.dec s = some y ∧ valB fn.results.toList.length ms r = backOf fn.results.toList.length (outM mo.items y) := fun h => by
      obtain ⟨mo, y, a, b, c⟩ := inA_getB h
      exact ⟨mo, y, List.all_eq_true.1 ho mo a, b, c⟩
    cases x with
    | ret => exact ⟨.inl rfl, key h⟩
    | norm => exact ⟨.inr rfl, key h⟩
    | exit i => cases h
    | goto l => cases h
  obtain ⟨x1, s1, h1, _⟩ := run_wp hm hT hO (fun _ _ _ h => h) c hc hl _ _ _ _ hr
  obtain ⟨_, mo, y, _, _, e⟩ := hK x1 s1 h1
  refine .inr (.inl ⟨vs, cs, _, _, rfl, e, ⟨fn, hf, hname, by rw [hb]; rfl⟩, fun w pr us kb own hp hgl hbox ha => ?_⟩)
  obtain ⟨g, h0⟩ := startL_rel (n := fn.ntmps) hp hgl hbox ha (by omega) hN
  obtain ⟨r', cs', e', hcall⟩ := call_coreL hm hT hO hf hb hc hl hr hK (Msk.dec_J hi hx ⟨_, h0, BelowB.refl _ _⟩)
  rw [e] at e'
  unfold backOf at e'
  cases e'
  exact hcall
theorem splitLent_eq : ∀ {args vs cs : List AV}, splitLent args = some (vs, cs) → args = vs ++ [.lent cs] := by
  intro args
  induction args with
  | nil => intro vs cs h; cases h
  | cons a args ih =>
    intro vs cs h
    by_cases ha : args = [] ∧ ∃ c, a = .lent c
    · obtain ⟨rfl, c, rfl⟩ := ha
      simp only [splitLent, Option.some.injEq, Prod.mk.injEq] at h
      obtain ⟨rfl, rfl⟩ := h
      rfl
    · have h' : (match splitLent args with
        | some (x, cs) => some (a :: x, cs)
        | none => none) = some (vs, cs) := by
        cases args with
        | nil => cases a <;> first | exact h | exact absurd ⟨rfl, _, rfl⟩ ha
        | cons b l => cases a <;> exact h
      cases hs : splitLent args with
      | none => rw [hs] at h'; cases h'
      | some y =>
        obtain ⟨x, c⟩ := y
        rw [hs] at h'
        simp only [Option.some.injEq, Prod.mk.injEq] at h'
        obtain ⟨rfl, rfl⟩ := h'
        rw [ih hs]; rfl
theorem orc_addL {k na nr : Nat} {mi : Msk} {ms : List Msk} {F : mi.den → Option (denA ms)} (hF : ∀ (vs cs : List AV) (x : mi.den) (r : denA ms), vs.length = na → mi.dec (startL vs cs) = some x → F x = some r → CallOK P k (vs ++ [.lent cs]) (valB nr ms r)) (hO : OrcOK O (CallOK P)) :
    OrcOK (fun R f args K => bif Nat.beq f k then callB mi na nr ms F args K else O R f args K) (CallOK P) := by
  intro R f args K r h
  cases hk : Nat.beq f k with
  | false => simp only [hk, cond_false] at h; exact hO R f args K r h
  | true =>
    simp only [hk, cond_true] at h
    have := Nat.eq_of_beq_eq_true hk
    subst this
    unfold callB at h
    cases hsp : splitLent args with
    | none => rw [hsp] at h; cases h
    | some y =>
      obtain ⟨vs, cs⟩ := y
      rw [hsp] at h
      simp only [] at h
      cases hlen : Nat.beq vs.length na with
      | false => rw [hlen] at h; cases h
      | true =>
        rw [hlen] at h
        simp only [cond_true] at h
        obtain ⟨x, hx, h⟩ := obind_some h
        obtain ⟨r', hr, h⟩ := obind_some h
        rw [splitLent_eq hsp]
        exact ⟨_, hF vs cs x r' (Nat.eq_of_beq_eq_true hlen) hx hr, outB_val h⟩
end
end Go.Proofs.YtcgnmecbdleehaaDoor.Th
set_option linter.unusedVariables false
set_option linter.unusedSimpArgs false
namespace Go.Proofs.YtcgnmecbdleehaaDoor.Th
open Go Go.RowKit
def eatName : Nat := lentName 0
def startE (a0 : AV) (rest : List AV) : S := match a0 with
  | .own T l => ((start (.undef :: rest)).put (.tok eatName (.live false T l))).put (.tmp 0 (.ref eatName))
  | v => start (v :: rest)
def callE {R : Type} (mi mo : Msk) (f : mi.den → Option mo.den) (args : List AV) (K : AV → Option R) : Option R := match args with
  | a0 :: rest => bif Nat.beq (a0 :: rest).length mi.items.length then obind (mi.dec (startE a0 rest)) fun v => ocall (f v) fun r => K (.back (ansOf (outL mo.items r)) [.lent []]) else none
  | [] => none
section
variable {P : Program} {TI : TEnv} {O : Orc} {L : LOrc} {B : Bd} {N : Nat} {g : Gh} {s : S} {w : World} {a : Act}
theorem Rel.retmp (h : Rel B g s w a N) {t : Nat} {v : AV} (hv : VR w g v (a.tmps.getD t undef)) : Rel B g (s.put (.tmp t v)) w a N :=
  ⟨h.df, h.nt, h.hB, fun i => by
    by_cases e : i = t
    · subst e; simpa [S.put, upd_same] using hv
    · simpa [S.put, upd_ne _ _ _ _ e] using h.tm i, h.prlt, h.bx0, h.bx, h.binj, h.tk0, h.tk, h.tinj, h.tbx, h.prB, ⟨h.ex.lb, h.ex.gl⟩⟩
theorem start_relE {pr : Nat → Nat → Prop} {b0 : Option Nat} {args : List AV} {us : List Value} {n : Nat} (hp : ∀ k o, pr k o → k < w.heap.size) (hgl : GlobOK w pr) (ha : All2 (VR w ⟨pr, fun _ => none, fun _ => none⟩) args us) (hn : args.length ≤ n) :
    Rel (bdE w.heap.size pr b0) ⟨pr, fun _ => none, fun _ => none⟩ (start args) w { tmps := us.toArray ++ Array.replicate (n - us.toArray.size) undef, defers := [] } n := by
  have h := start_rel hp hgl ha hn
  exact ⟨h.df, h.nt, Nat.le_refl _, h.tm, h.prlt, h.bx0, (fun b cs h => by simp [start] at h), h.binj, h.tk0, (fun t sh T l h => by simp [start] at h), h.tinj, h.tbx, fun _ _ _ => Iff.rfl, ⟨(fun b k e => by cases e), hgl⟩⟩
theorem startE_rel {pr : Nat → Nat → Prop} {b0 : Option Nat} {a0 : AV} {rest : List AV} {u0 : Value} {us : List Value} {n : Nat} (hp : ∀ k o, pr k o → k < w.heap.size) (hgl : GlobOK w pr)
    (h0 : OwnC (bdE w.heap.size pr b0) w pr a0 u0 b0) (ha : All2 (PV w pr) rest us) (hn : (a0 :: rest).length ≤ n) :
    ∃ g, Rel (bdE w.heap.size pr b0) g (startE a0 rest) w { tmps := (u0 :: us).toArray ++ Array.replicate (n - (u0 :: us).toArray.size) undef, defers := [] } n := by
  have ha' : All2 (VR w ⟨pr, fun _ => none, fun _ => none⟩) rest us := ha.imp fun _ _ h => PV.VR (g := ⟨pr, fun _ => none, fun _ => none⟩) h
  by_cases hown : ∃ T l, a0 = .own T l
  · obtain ⟨T, l, rfl⟩ := hown
    obtain ⟨tg, ok, rfl, hblk, hlt⟩ := h0
    have hs := start_relE (b0 := b0) (args := .undef :: rest) (us := tg.val :: us) (n := n) hp hgl ⟨VR_of_LR (show LR w _ .undef _ from trivial), ha'⟩ (by simpa using hn)
    obtain ⟨q1, _, q2, _⟩ := ok.reads.out
    have hone : tg.val.oneCell' = true := by rw [q2]; rfl
    obtain ⟨h2, k2⟩ := hs.newTok (t := eatName) (sh := false) (T := T) (l := l) (tg := tg) rfl (fun k hk => ⟨(fun b e => by cases e), fun t tg' hl => by simp [start, Tok.isLive] at hl⟩) ok
    have e0 : ((tg.val :: us).toArray ++ Array.replicate (n - (tg.val :: us).toArray.size) undef).getD 0 undef = tg.val := by
      rw [Array.getD_eq_getD_getElem?, Array.getElem?_append_left (by simp)]; simp
    refine ⟨_, h2.retmp ?_⟩
    rw [e0]
    refine VR_of_LR (show LR w _ (.ref eatName) _ from ⟨tg, upd_same (fun _ : Nat => (none : Option TG)) eatName (some tg), ?_, ?_⟩)
    · rfl
    · exact hone
  · have h1 : PV w pr a0 u0 ∧ b0 = none := by cases a0 <;> first | exact h0 | exact absurd ⟨_, _, rfl⟩ hown
    have e : startE a0 rest = start (a0 :: rest) := by cases a0 <;> first | rfl | exact absurd ⟨_, _, rfl⟩ hown
    rw [e]
    exact ⟨_, start_relE hp hgl ⟨PV.VR (g := ⟨pr, fun _ => none, fun _ => none⟩) h1.1, ha'⟩ hn⟩
theorem call_ofE (hm : P.follows .mixedOrders = true) (hT : TIok P TI) (hO : OrcOK O (CallOK P)) {f : FuncId} {fn : Func} {c : Code} (hf : P.funcs[f]? = some fn) (hb : fn.body = some c) (hname : (fn.name == "runtime.NumGoroutine") = false)
    (hc : codeOK fn.ntmps c = true) (hl : LinksOK P fn.ntmps L c) {mi mo : Msk} (hi : mi.ok = true) (hn : mi.items.length ≤ fn.ntmps) (ho : outOK TI fn.results.toList mo.items = true)
    {a0 : AV} {rest : List AV} {x : mi.den} {r : mo.den} (hlen : (a0 :: rest).length = mi.items.length) (hx : mi.dec (startE a0 rest) = some x) (hr : runF TI O L c mi mo x = some r) :
    CallOK P f (a0 :: rest) (.back (ansOf (outL mo.items r)) [.lent []]) := by
  refine .inr (.inr ⟨a0, rest, _, [], rfl, rfl, ⟨fn, hf, hname, by rw [hb]; rfl⟩, fun w pr u0 us b0 hp hgl h0 ha => ?_⟩)
  obtain ⟨g, h1⟩ := startE_rel (n := fn.ntmps) hp hgl h0 ha (by omega)
  refine call_coreB hm hT hO hf hb hc hl hr (fun x s h => ?_) (Msk.dec_J hi hx ⟨_, h1, BelowB.refl _ _⟩)
  cases x with
  | ret => exact ⟨.inl rfl, mo, r, ho, h, rfl⟩
  | norm => exact ⟨.inr rfl, mo, r, ho, h, rfl⟩
  | exit i => cases h
  | goto l => cases h
theorem orc_addE {k : Nat} {mi mo : Msk} {F : mi.den → Option mo.den} (hF : ∀ (a0 : AV) (rest : List AV) (x : mi.den) (r : mo.den), (a0 :: rest).length = mi.items.length → mi.dec (startE a0 rest) = some x → F x = some r → CallOK P k (a0 :: rest) (.back (ansOf (outL mo.items r)) [.lent []])) (hO : OrcOK O (CallOK P)) :
    OrcOK (fun R f args K => bif Nat.beq f k then callE mi mo F args K else O R f args K) (CallOK P) := by
  intro R f args K r h
  cases hk : Nat.beq f k with
  | false => simp only [hk, cond_false] at h; exact hO R f args K r h
  | true =>
    simp only [hk, cond_true] at h
    have := Nat.eq_of_beq_eq_true hk
    subst this
    unfold callE at h
    split at h
    · rename_i a0 rest
      cases hlen : Nat.beq (a0 :: rest).length mi.items.length with
      | false => rw [hlen] at h; cases h
      | true =>
        rw [hlen] at h
        simp only [cond_true] at h
        obtain ⟨x, hx, h⟩ := obind_some h
        obtain ⟨r', hr, h⟩ := obind_some h
        exact ⟨_, hF a0 rest x r' (Nat.eq_of_beq_eq_true hlen) hx hr, h⟩
    · cases h
theorem orc_addEP {k : Nat} {p : List AV → Bool} {mi mo : Msk} {F : mi.den → Option mo.den} (hF : ∀ (a0 : AV) (rest : List AV) (x : mi.den) (r : mo.den), (a0 :: rest).length = mi.items.length → mi.dec (startE a0 rest) = some x → F x = some r → CallOK P k (a0 :: rest) (.back (ansOf (outL mo.items r)) [.lent []])) (hO : OrcOK O (CallOK P)) :
    OrcOK (fun R f args K => bif (bif Nat.beq f k then p args else false) then callE mi mo F args K else O R f args K) (CallOK P) := by
  intro R f args K r h
  have hE := orc_addE hF hO
  cases hk : Nat.beq f k with
  | false => simp only [hk, cond_false] at h; exact hO R f args K r h
  | true =>
    simp only [hk, cond_true] at h
    cases hp : p args with
    | false => simp only [hp, cond_false] at h; exact hO R f args K r h
    | true =>
      simp only [hp, cond_true] at h
      exact hE R f args K r (by simp only [hk, cond_true]; exact h)
end
end Go.Proofs.YtcgnmecbdleehaaDoor.Th
end
section
set_option linter.unusedVariables false
set_option linter.unusedSimpArgs false
namespace Go.Proofs.YtcgnmecbdleehaaDoor.Th
open Go Go.RowKit Go.WideShapes
def ru (n a : Nat) : Nat := (n + a - 1) / a * a
def Ty.align : Ty → Nat
  | .int k => k.bits / 8
  | .bool => 1
  | .st f => f.align
  | .nil => 1
  | .cons a b => max a.align b.align
  | _ => 8
def Ty.place : Ty → Nat → Nat
  | .int k, o => ru o (k.bits / 8) + k.bits / 8
  | .bool, o => o + 1
  | .str, o => ru o 8 + 16
  | .flt, o => ru o 8 + 8
  | .cpx, o => ru o 8 + 16
  | .slice _, o => ru o 8 + 24
  | .st f, o => ru (f.place (ru o f.align)) f.align
  | .nil, o => o
  | .cons a b, o => b.place (a.place o)
  | .ifc _ _, o => ru o 8 + 16
  | .clo _ _, o => ru o 8 + 8
  | .ref _, o => ru o 8 + 8
def Ty.bytes (T : Ty) : Nat := T.place 0
def Ty.Good : (T : Ty) → T.den → Prop
  | .int k, n => k.min ≤ (show Int from n) ∧ (show Int from n) ≤ k.max
  | .bool, _ => True
  | .str, s => List.length (α := UInt8) s ≤ 140737488351232
  | .flt, _ => True
  | .cpx, _ => True
  | .slice e, l => List.length (α := e.den) l ≤ maxLen ∧ List.length (α := e.den) l * e.bytes ≤ 140737488351232 ∧ ∀ x : e.den, x ∈ (show List e.den from l) → e.Good x
  | .st f, x => f.Good x
  | .nil, _ => True
  | .cons a b, x => a.Good x.1 ∧ b.Good x.2
  | .ifc _ _, _ => True
  | .clo _ _, _ => True
  | .ref _, _ => True
def fits (P : Program) : Ty → Bool → TypeId → List Field → Nat → Bool
  | .int k, row, t, _, _ => !row && match P.underlying t with
    | some (.int k') => decide (k' = k)
    | _ => false
  | .bool, row, t, _, _ => !row && match P.underlying t with
    | some .bool => true
    | _ => false
  | .str, row, t, _, _ => !row && match P.underlying t with
    | some .string => true
    | _ => false
  | .flt, row, t, _, _ => !row && match P.underlying t with
    | some (.float .f64) => true
    | _ => false
  | .slice e, row, t, _, _ => !row && match P.underlying t with
    | some (.slice te) => fits P e false te [] 0 && (Nat.beq (P.cellsOf te) e.size && Nat.beq (P.bytesOf te) e.bytes)
    | _ => false
  | .st f, row, t, _, _ => !row && match P.underlying t with
    | some (.struct fs) => fits P f true 0 fs.toList 0 && Nat.beq (P.cellsOf t) f.size
    | _ => false
  | .nil, row, _, fs, _ => row && fs.isEmpty
  | .cons a b, row, _, fs, off => row && match fs with
    | fd :: rest => Nat.beq fd.offset off && (fits P a false fd.type [] 0 && (Nat.beq (P.cellsOf fd.type) a.size && fits P b true 0 rest (off + a.size)))
    | [] => false
  | _, _, _, _, _ => false
section
variable {H : Type} {enc : TypeId × Value → H} {P : Program} {w : World} {base : Nat} {spare : Nat → Bool} {held : Bool}
abbrev Old (w : World) : Nat → Nat → Prop := fun k _ => k < w.heap.size
theorem cell_old {a : Addr} {v : Value} (h : w.cell? a = some v) : Cell w (Old w) a v := ⟨h, World.block_lt_of_cell? w a h⟩
theorem pick_list {α : Type} (R : Nat → α → Prop) : ∀ n, (∀ i, i < n → ∃ x, R i x) → ∃ l : List α, l.length = n ∧ ∀ i x, l[i]? = some x → R i x
  | 0, _ => ⟨[], rfl, fun i x h => by simp at h⟩
  | n + 1, h => by
    obtain ⟨l, h1, h2⟩ := pick_list R n fun i hi => h i (by omega)
    obtain ⟨y, hy⟩ := h n (by omega)
    refine ⟨l ++ [y], by simp [h1], fun i x hx => ?_⟩
    rcases Nat.lt_or_ge i n with hlt | hge
    · rw [List.getElem?_append_left (by omega)] at hx; exact h2 i x hx
    · rw [List.getElem?_append_right (by omega)] at hx
      have : i - l.length = 0 := by
        have := (List.getElem?_eq_some_iff.1 hx).1
        simp at this; omega
      rw [this] at hx
      simp at hx
      subst hx
      have : i = n := by omega
      subst this; exact hy
theorem weights_slice {e t : TypeId} (ht : P.underlying t = some (.slice e)) (elems rest : List (DataW H)) :
    DataW.weights P t (.slice elems rest) = (elems.length + rest.length) * P.bytesOf e :: (DataW.weightsAll P e elems ++ DataW.weightsAll P e rest) := by
  simp only [DataW.weights, ht]
theorem weights_agg {t : TypeId} {fs : Array Field} (ht : P.underlying t = some (.struct fs)) (parts : List (DataW H)) :
    DataW.weights P t (.agg parts) = DataW.weightsEach P (fs.toList.map (·.type)) parts := by
  simp only [DataW.weights, ht]
theorem weightsAll_mem {e : TypeId} : ∀ {l : List (DataW H)} {d : DataW H}, d ∈ l → ∀ n ∈ d.weights P e, n ∈ DataW.weightsAll P e l
  | x :: l, d, h, n, hn => by
    simp only [DataW.weightsAll, List.mem_append]
    rcases List.mem_cons.1 h with rfl | h
    · exact .inl hn
    · exact .inr (weightsAll_mem h n hn)
theorem trod_float {fuel : Nat} {t : TypeId} {cs : List Value} {x : DataW H × List MemPlace} (ht : P.underlying t = some (.float .f64)) (h : DataW.trod enc P w base spare held fuel t cs = some x) : ∃ n, cs = [.float .f64 n] ∧ x = (.lit (.float .f64 n), []) ∧ (Lit.float .f64 n).wf = true := by
  cases fuel with
  | zero => simp [DataW.trod] at h
  | succ n =>
    unfold DataW.trod at h
    rw [ht] at h
    split at h <;> simp_all
theorem okWide_float {P : Program} {w : World} {r : Reach} {b0 : Nat} {t : TypeId} {v : Value} (ht : P.underlying t = some (.float .f64)) (h : Value.okWide P w r b0 t v) : ∃ n, v = .float .f64 n := by
  simp only [Value.okWide, ht, Cell.okWide] at h
  cases v <;> simp_all [Cell.ok]
theorem open_TR : ∀ (T : Ty),
    (∀ (t : TypeId) (cs : List Value) (fuel : Nat) (x : DataW H × List MemPlace), fits P T false t [] 0 = true → DataW.trod enc P w base spare held fuel t cs = some x → (∀ n ∈ x.1.weights P t, n ≤ reachBytes) →
      ∃ v : T.den, TR w (Old w) T v cs ∧ T.Good v) ∧
    (∀ (fs : List Field) (off : Nat) (cs : List Value) (ds : List (DataW H × List MemPlace)), fits P T true 0 fs off = true → ds.length = fs.length →
      (∀ (i : Nat) (f : Field), fs[i]? = some f → ∃ fuel, DataW.trod enc P w base spare held fuel f.type ((cs.drop f.offset).take (P.cellsOf f.type)) = ds[i]?) →
      (∀ n ∈ DataW.weightsEach P (fs.map (·.type)) (ds.map (·.1)), n ≤ reachBytes) → cs.length = off + T.size → ∃ v : T.den, TR w (Old w) T v (cs.drop off) ∧ T.Good v) := by
  intro T
  induction T with
  | int k =>
    refine ⟨fun t cs fuel x hf h _ => ?_, fun fs off cs ds hf => by simp [fits] at hf⟩
    simp only [fits, Bool.not_false, Bool.true_and] at hf
    split at hf
    · rename_i k' ht
      have : k' = k := by simpa using hf
      subst this
      obtain ⟨n, rfl, _, hw⟩ := DataW.trod_int ht h
      exact ⟨n, rfl, (by simpa [Lit.wf] using hw : k'.min ≤ n ∧ n ≤ k'.max)⟩
    · cases hf
  | bool =>
    refine ⟨fun t cs fuel x hf h _ => ?_, fun fs off cs ds hf => by simp [fits] at hf⟩
    simp only [fits, Bool.not_false, Bool.true_and] at hf
    split at hf
    · rename_i ht
      obtain ⟨b, rfl, _⟩ := DataW.trod_bool ht h
      exact ⟨b, rfl, trivial⟩
    · cases hf
  | str =>
    refine ⟨fun t cs fuel x hf h hw => ?_, fun fs off cs ds hf => by simp [fits] at hf⟩
    simp only [fits, Bool.not_false, Bool.true_and] at hf
    split at hf
    · rename_i ht
      obtain ⟨s, rfl, rfl, _⟩ := DataW.trod_string ht h
      have h1 := hw s.data.toList.length (by simp [DataW.weights])
      refine ⟨s.data.toList, ?_, h1⟩
      show [Value.string s] = [strV s.data.toList]
      rw [strV_data]
    · cases hf
  | flt =>
    refine ⟨fun t cs fuel x hf h _ => ?_, fun fs off cs ds hf => by simp [fits] at hf⟩
    simp only [fits, Bool.not_false, Bool.true_and] at hf
    split at hf
    · rename_i ht
      obtain ⟨b, rfl, _, _⟩ := trod_float ht h
      exact ⟨b, rfl, trivial⟩
    · cases hf
  | cpx => exact ⟨fun t cs fuel x hf => by simp [fits] at hf, fun fs off cs ds hf => by simp [fits] at hf⟩
  | ifc _ _ _ => exact ⟨fun t cs fuel x hf => by simp [fits] at hf, fun fs off cs ds hf => by simp [fits] at hf⟩
  | clo _ _ _ => exact ⟨fun t cs fuel x hf => by simp [fits] at hf, fun fs off cs ds hf => by simp [fits] at hf⟩
  | ref _ _ => exact ⟨fun t cs fuel x hf => by simp [fits] at hf, fun fs off cs ds hf => by simp [fits] at hf⟩
  | nil =>
    refine ⟨fun t cs fuel x hf => by simp [fits] at hf, fun fs off cs ds hf hl h hw hc => ⟨(), ?_, trivial⟩⟩
    show cs.drop off = []
    apply List.drop_eq_nil_of_le
    simp [Ty.size] at hc; omega
  | slice e ih =>
    refine ⟨fun t cs fuel x hf h hw => ?_, fun fs off cs ds hf => by simp [fits] at hf⟩
    simp only [fits, Bool.not_false, Bool.true_and] at hf
    split at hf
    · rename_i te ht
      simp only [Bool.and_eq_true] at hf
      obtain ⟨hf1, hf2, hf3⟩ := hf
      have hsz : P.cellsOf te = e.size := Nat.eq_of_beq_eq_true hf2
      have hby : P.bytesOf te = e.bytes := Nat.eq_of_beq_eq_true hf3
      rcases DataW.trod_slice ht h with ⟨rfl, _⟩ | ⟨a, len, cap, elems, rest, n, rfl, rfl, rfl, hb, hl, hcm, hel, hget, _, _⟩
      · exact ⟨[], TR_nilsl _ _ _, by simp [Ty.Good, maxLen]⟩
      · rw [weights_slice ht] at hw
        have hw0 := hw _ (.head _)
        have key : ∀ j, j < len → ∃ y : e.den, e.Good y ∧ ∃ vs : List Value, vs.length = e.size ∧ (∀ (i : Nat) (v : Value), vs[i]? = some v → Cell w (Old w) (a.add (j * e.size + i)) v) ∧ TR w (Old w) e y vs := by
          intro j hj
          have h1 := hget j hj
          have hje : j < elems.length := by omega
          rw [List.getElem?_eq_getElem hje] at h1
          obtain ⟨vs, hv1, hv2⟩ := Option.bind_eq_some_iff.1 h1
          obtain ⟨_, c1, c2⟩ := World.cells?_some hv1
          rw [hsz] at c1 c2
          obtain ⟨y, hy, hg⟩ := ih.1 te vs n elems[j] hf1 hv2 (fun m hm => hw m (.tail _ (List.mem_append.2 (.inl (weightsAll_mem (List.mem_map.2 ⟨elems[j], List.getElem_mem _, rfl⟩) m hm)))))
          refine ⟨y, hg, vs, c1, fun i v hv => ?_, hy⟩
          have hi : i < e.size := by rw [← c1]; exact (List.getElem?_eq_some_iff.1 hv).1
          have h2 := c2 i hi
          rw [add_add, hv] at h2
          exact cell_old h2
        obtain ⟨l, hl1, hl2⟩ := pick_list (fun j (y : e.den) => e.Good y ∧ ∃ vs : List Value, vs.length = e.size ∧ (∀ (i : Nat) (v : Value), vs[i]? = some v → Cell w (Old w) (a.add (j * e.size + i)) v) ∧ TR w (Old w) e y vs) len key
        refine ⟨l, ⟨some a, cap, by rw [hl1], ⟨by rw [hl1]; exact hl, fun h => by cases h⟩, fun j y hj => ?_⟩, by rw [hl1]; omega, ?_, fun y hy => ?_⟩
        · obtain ⟨_, vs, v1, v2, v3⟩ := hl2 j y hj
          exact ⟨a, vs, rfl, v1, v2, v3⟩
        · rw [hl1, ← hby]
          refine Nat.le_trans (Nat.mul_le_mul_right _ ?_) hw0
          simp; omega
        · obtain ⟨i, hi⟩ := List.mem_iff_getElem?.1 hy
          exact (hl2 i y hi).1
    · cases hf
  | st f ih =>
    refine ⟨fun t cs fuel x hf h hw => ?_, fun fs off cs ds hf => by simp [fits] at hf⟩
    simp only [fits, Bool.not_false, Bool.true_and] at hf
    split at hf
    · rename_i fs ht
      simp only [Bool.and_eq_true] at hf
      obtain ⟨hf1, hf2⟩ := hf
      have hsz : P.cellsOf t = f.size := Nat.eq_of_beq_eq_true hf2
      obtain ⟨xs, n, rfl, rfl, hc, hx, hg⟩ := DataW.trod_struct ht h
      rw [weights_agg ht] at hw
      obtain ⟨v, hv, hG⟩ := ih.2 fs.toList 0 cs xs hf1 (by simpa using hx) (fun i fd hi => ⟨n, hg i fd (by simpa using hi)⟩) hw (by rw [hc, hsz]; omega)
      exact ⟨v, (by simpa using hv : TR w (Old w) f v cs), hG⟩
    · cases hf
  | cons a b iha ihb =>
    refine ⟨fun t cs fuel x hf => by simp [fits] at hf, fun fs off cs ds hf hl h hw hc => ?_⟩
    simp only [fits, Bool.true_and] at hf
    cases fs with
    | nil => cases hf
    | cons fd rest =>
      cases ds with
      | nil => simp at hl
      | cons d ds =>
        simp only [Bool.and_eq_true] at hf
        obtain ⟨hf1, hf2, hf3, hf4⟩ := hf
        have hoff : fd.offset = off := Nat.eq_of_beq_eq_true hf1
        have hsz : P.cellsOf fd.type = a.size := Nat.eq_of_beq_eq_true hf3
        simp only [Ty.size] at hc
        obtain ⟨fuel, h0⟩ := h 0 fd rfl
        simp only [List.map_cons, DataW.weightsEach] at hw
        obtain ⟨v1, hv1, hg1⟩ := iha.1 fd.type _ fuel d hf2 h0 (fun m hm => hw m (List.mem_append.2 (.inl hm)))
        obtain ⟨v2, hv2, hg2⟩ := ihb.2 rest (off + a.size) cs ds hf4 (by simpa using hl) (fun i f hi => by simpa using h (i + 1) f (by simpa using hi)) (fun m hm => hw m (List.mem_append.2 (.inr hm))) (by omega)
        refine ⟨(v1, v2), ⟨_, _, ?_, hv1, hv2⟩, hg1, hg2⟩
        rw [hsz, hoff, ← List.drop_drop]
        exact (List.take_append_drop _ _).symm
theorem okWide_st {fs : Array Field} {r : Reach} {t : TypeId} {v : Value} (ht : P.underlying t = some (.struct fs)) (h : Value.okWide P w r base t v) : ∃ cs, v = .agg cs := by
  simp only [Value.okWide, ht] at h
  obtain ⟨cs, h, _⟩ := h
  exact ⟨cs, h⟩
theorem open_arg {T : Ty} {t : TypeId} {v : Value} {d : DataW H} {ps : List MemPlace} {r : Reach} {b0 : Nat} (hf : fits P T false t [] 0 = true) (hval : Value.okWide P w r b0 t v) (h : DataW.Trod enc P w base spare held t v d ps)
    (hw : ∀ n ∈ d.weights P t, n ≤ reachBytes) : ∃ x : T.den, PV w (Old w) (T.av x) v ∧ T.Good x := by
  obtain ⟨fuel, h⟩ := h
  obtain ⟨x, hx, hg⟩ := (open_TR T).1 t _ fuel (d, ps) hf h hw
  refine ⟨x, ?_, hg⟩
  have one : ∀ u : Value, u.oneCell' = true → v = u → u.cells = #[u] → All2 (PR w (Old w)) (T.cells x) [u] → PV w (Old w) ((T.cells x).headD .undef) v := by
    intro u _ e _ h2
    subst e
    cases hc : T.cells x with
    | nil => rw [hc] at h2; exact h2.elim
    | cons c cs => rw [hc] at h2; exact .inl h2.1
  have hcp := cells_PR hx
  cases T with
  | int k =>
    simp only [fits, Bool.not_false, Bool.true_and] at hf
    split at hf
    · rename_i k' ht
      obtain ⟨n, rfl⟩ := okWide_int ht hval
      exact one _ rfl rfl rfl hcp
    · cases hf
  | bool =>
    simp only [fits, Bool.not_false, Bool.true_and] at hf
    split at hf
    · rename_i ht
      obtain ⟨n, rfl⟩ := okWide_bool ht hval
      exact one _ rfl rfl rfl hcp
    · cases hf
  | flt =>
    simp only [fits, Bool.not_false, Bool.true_and] at hf
    split at hf
    · rename_i ht
      obtain ⟨n, rfl⟩ := okWide_float ht hval
      exact one _ rfl rfl rfl hcp
    · cases hf
  | str =>
    simp only [fits, Bool.not_false, Bool.true_and] at hf
    split at hf
    · rename_i ht
      obtain ⟨n, rfl⟩ := okWide_string ht hval
      exact one _ rfl rfl rfl hcp
    · cases hf
  | slice e =>
    simp only [fits, Bool.not_false, Bool.true_and] at hf
    split at hf
    · rename_i te ht
      obtain ⟨a, n, c, rfl⟩ := okWide_slice ht hval
      exact one _ rfl rfl rfl hcp
    · cases hf
  | st f =>
    simp only [fits, Bool.not_false, Bool.true_and] at hf
    split at hf
    · rename_i fs ht
      obtain ⟨cs, rfl⟩ := okWide_st ht hval
      exact .inr ⟨_, cs.toList, rfl, by simp, hcp⟩
    · cases hf
  | _ => simp [fits] at hf
theorem law_of {n : FuncId} {args : List AV} (hc : CallOK P n args (.bool true)) {us : List Value} {W : World} (hgl : GlobOK W (Old W)) (h : All2 (PV W (Old W)) args us) :
    Calls P n us.toArray W fun e W' => e = .returned (.bool true) ∧ Below W.heap.size W W' := by
  rcases hc with ⟨_, hc⟩ | ⟨_, _, _, _, _, e, _⟩ | ⟨_, _, _, _, _, e, _⟩
  case inr.inl => cases e
  case inr.inr => cases e
  refine (hc.2 W (Old W) us (fun _ _ h => h) hgl h).mono ?_
  rintro e W' ⟨r, pr', rfl, hb, _, _, hr⟩
  obtain ⟨b, hr⟩ := hr
  refine ⟨?_, hb⟩
  rcases hr.1 with h1 | ⟨_, _, h1, _⟩
  · rw [show r = .bool true from h1]
  · cases h1
theorem weights_of {ts : List TypeId} {ds : List (DataW H)} (h : (DataW.weightsEach P ts ds).all (· ≤ reachBytes) = true) {j : Nat} {t : TypeId} {d : DataW H} (ht : ts[j]? = some t) (hd : ds[j]? = some d) : ∀ n ∈ d.weights P t, n ≤ reachBytes :=
  fun n hn => by simpa using List.all_eq_true.1 h n (DataW.weights_mem_each ht hd n hn)
end
end Go.Proofs.YtcgnmecbdleehaaDoor.Th
set_option linter.unusedVariables false
set_option linter.unusedSimpArgs false
namespace Go.Proofs.YtcgnmecbdleehaaDoor.Th
open Go
section
variable {α β γ : Type}
@[simp] theorem sel_true (a b : α) : sel true a b = a := rfl
@[simp] theorem sel_false (a b : α) : sel false a b = b := rfl
theorem sel_dec {p : Prop} [Decidable p] (a b : α) : sel (decide p) a b = if p then a else b := by
  by_cases h : p <;> simp [sel, h]
theorem sel_not (c : Bool) (a b : α) : sel (!c) a b = sel c b a := by cases c <;> rfl
theorem sel_pos {p : Prop} [Decidable p] (h : p) (a b : α) : sel (decide p) a b = a := by simp [sel, h]
theorem sel_neg {p : Prop} [Decidable p] (h : ¬p) (a b : α) : sel (decide p) a b = b := by simp [sel, h]
theorem sel_eq (c : Bool) (a b : α) : sel c a b = if c = true then a else b := by cases c <;> rfl
@[simp] theorem ocall_some (x : α) (f : α → Option β) : ocall (some x) f = f x := rfl
@[simp] theorem esel_inl (x : α) (f : α → γ) (g : β → γ) : esel (.inl x) f g = f x := rfl
@[simp] theorem esel_inr (x : β) (f : α → γ) (g : β → γ) : esel (.inr x) f g = g x := rfl
end
theorem wrap_of {k : IntKind} {n : Int} (h1 : k.min ≤ n) (h2 : n ≤ k.max) : k.wrap n = n := by
  cases k <;> simp [IntKind.wrap, IntKind.bits, IntKind.signed, IntKind.min, IntKind.max] at h1 h2 ⊢ <;> (try split) <;> omega
theorem wrap64 {n : Int} (h1 : -9223372036854775808 ≤ n) (h2 : n ≤ 9223372036854775807) : IntKind.i64.wrap n = n :=
  wrap_of (by simpa [IntKind.min, IntKind.bits, IntKind.signed] using h1) (by simpa [IntKind.max, IntKind.bits, IntKind.signed] using h2)
theorem wrapu64 {n : Int} (h1 : 0 ≤ n) (h2 : n ≤ 18446744073709551615) : IntKind.u64.wrap n = n :=
  wrap_of (by simpa [IntKind.min, IntKind.bits, IntKind.signed] using h1) (by simpa [IntKind.max, IntKind.bits, IntKind.signed] using h2)
theorem wrapu8 {n : Int} (h1 : 0 ≤ n) (h2 : n ≤ 255) : IntKind.u8.wrap n = n :=
  wrap_of (by simpa [IntKind.min, IntKind.bits, IntKind.signed] using h1) (by simpa [IntKind.max, IntKind.bits, IntKind.signed] using h2)
theorem maxLen_eq : maxLen = 9223372036854775807 := rfl
theorem good_u64 {n : Int} (h : Ty.Good (.int .u64) n) : 0 ≤ n ∧ n ≤ 18446744073709551615 := by
  simpa [Ty.Good, IntKind.min, IntKind.max, IntKind.bits, IntKind.signed] using h
theorem good_u8 {n : Int} (h : Ty.Good (.int .u8) n) : 0 ≤ n ∧ n ≤ 255 := by
  simpa [Ty.Good, IntKind.min, IntKind.max, IntKind.bits, IntKind.signed] using h
theorem good_u32 {n : Int} (h : Ty.Good (.int .u32) n) : 0 ≤ n ∧ n ≤ 4294967295 := by
  simpa [Ty.Good, IntKind.min, IntKind.max, IntKind.bits, IntKind.signed] using h
theorem wrapu32 {n : Int} (h1 : 0 ≤ n) (h2 : n ≤ 4294967295) : IntKind.u32.wrap n = n :=
  wrap_of (by simpa [IntKind.min, IntKind.bits, IntKind.signed] using h1) (by simpa [IntKind.max, IntKind.bits, IntKind.signed] using h2)
theorem ofNat_len {α : Type} (l : List α) : Int.ofNat l.length = (l.length : Int) := rfl
theorem toNat_ofNat (n : Nat) : Int.toNat (Int.ofNat n) = n := rfl
theorem getD_of {α : Type} {l : List α} {i : Nat} (h : i < l.length) (d : α) : l.getD i d = l[i] := by simp [List.getD, h]
end Go.Proofs.YtcgnmecbdleehaaDoor.Th
end
section
set_option linter.unusedVariables false
set_option linter.unusedSimpArgs false
namespace Go.Proofs.YtcgnmecbdleehaaDoor.Sum
open Go Go.RowKit Go.Shelf Go.Proofs Go.Proofs.YtcgnmecbdleehaaDoor Th
attribute [local go_sem] Oper.semAt_some
def Keep2 (b1 b2 : Nat) (W W' : World) : Prop := ∀ k, k = b1 ∨ k = b2 → W'.heap[k]? = W.heap[k]?
theorem Keep2.cell {b1 b2 : Nat} {W W' : World} (h : Keep2 b1 b2 W W') {a : Addr} (ha : a.block = b1 ∨ a.block = b2) : W'.cell? a = W.cell? a := World.cell?_of_block (h _ ha)
def backs (l : List Int) : List (Int × Int) := ((List.range l.length).map fun (i : Nat) => ((i : Int), l.getD i 0)).reverse
theorem backs_len (l : List Int) : (backs l).length = l.length := by simp [backs]
theorem backs_at (l : List Int) (k : Nat) (hk : k < l.length) : (backs l).take (k + 1) = (backs l).take k ++ [(((l.length - 1 - k : Nat) : Int), l.getD (l.length - 1 - k) 0)] := by
  rw [List.take_add_one]
  congr 1
  simp [backs, List.getElem?_reverse, hk]
set_option maxRecDepth 100000 in
set_option maxHeartbeats 1000000 in
theorem back1_in (F : Fence) (n : Nat) (h93 : F.fn 121) (hro : F.round = none) (hn : 1 ≤ n) (l B : Nat) (bs : List Int) (ad : Addr) (cap : Nat) (J Jx : List (Int × Int) → World → Prop)
    (hY : ∀ pre x W, J pre W → pre.length < bs.length → YieldAt F (n - 1) Tryd.prog l #[.int .i64 x.1, .int .u8 x.2] W fun e W' =>
      (e = .returned (.bool true) ∧ J (pre ++ [x]) W' ∧ Keep2 B ad.block W W') ∨ (e = .returned (.bool false) ∧ Jx (pre ++ [x]) W'))
    (W : World) (hB : W.cell? ⟨B, 0, none⟩ = some (.slice (some ad) bs.length cap)) (hc : ∀ (i : Nat) (h : i < bs.length), W.cell? (ad.add i) = some (.int .u8 bs[i])) (hlen : bs.length ≤ 9223372036854775807) (h0 : J [] W) :
    CallsIn F n Tryd.prog 121 #[.func (.yield l) #[] #[], .pointer (some ⟨B, 0, none⟩)] W fun e W' => (∃ v, e = .returned v) ∧
      ((∃ ys, ys = backs bs ∧ J ys W') ∨ (∃ pre, True ∧ Jx pre W')) := by
  refine callsIn_of_wp Tryd.func121 rfl h93 ?_ hro
  simp only [Tryd.ntmps121, List.size_toArray, List.length_cons, List.length_nil, Nat.reduceAdd, Nat.reduceSub, Array.replicate_succ, Array.replicate_zero, List.push_toArray, List.append_toArray, List.nil_append, List.cons_append]
  gi_wp2
  gi_loopw [3] (fun p wr => ∃ k, k ≤ bs.length ∧ p = .int .i64 ((bs.length : Int) - 1 - k) ∧ Keep2 B ad.block W wr ∧ J ((backs bs).take k) wr)
    (fun p wr => match p with | .int _ n => (n + 1).toNat | _ => 0)
  case atStart => exact ⟨0, by omega, by simp, fun k _ => rfl, by simpa using h0⟩
  case round =>
    obtain ⟨k, hk, rfl, hkeep, hJ⟩ := hrel
    have hBr : wr.cell? ⟨B, 0, none⟩ = some (.slice (some ad) bs.length cap) := (hkeep.cell (.inl rfl)).trans hB
    by_cases hlt : k < bs.length
    · have hi : bs.length - 1 - k < bs.length := by omega
      have ei : (bs.length : Int) - 1 - k = ((bs.length - 1 - k : Nat) : Int) := by omega
      have hcr : wr.cell? (ad.add (bs.length - 1 - k)) = some (.int .u8 bs[bs.length - 1 - k]) := by
        refine (hkeep.cell (.inr ?_)).trans (hc _ hi)
        unfold Addr.add; split <;> rfl
      rw [ei]
      have hx := backs_at bs k hlt
      rw [getD_of hi] at hx
      obtain ⟨fn, tmps, assign, body, hy, hR⟩ := hY _ (((bs.length - 1 - k : Nat) : Int), bs[bs.length - 1 - k]) wr hJ (by rw [List.length_take, backs_len]; omega)
      generalize bs.length - 1 - k = i at *
      gi_wp2
      refine hR.mono ?_
      rintro e W3 (⟨rfl, hJ3, hk3⟩ | ⟨rfl, hJx3⟩)
      · gi_wp2
        go_roundw
        case rel => exact ⟨k + 1, by omega, by congr 1; omega, fun b hb => (hk3 b hb).trans (hkeep b hb), by rw [hx]; exact hJ3⟩
        case measure => simp
      · gi_wp2
        refine bodyPost_ret (results_none rfl _ _ _) rfl ?_
        exact ⟨⟨_, rfl⟩, .inr ⟨_, trivial, hJx3⟩⟩
    · have hk' : k = bs.length := by omega
      subst hk'
      have e1 : (bs.length : Int) - 1 - (bs.length : Nat) = -1 := by omega
      rw [e1]
      gi_wp2
      go_end0
      exact ⟨⟨_, rfl⟩, .inl ⟨_, rfl, by rw [List.take_of_length_le (by rw [backs_len]; exact Nat.le_refl _)] at hJ; exact hJ⟩⟩
set_option maxHeartbeats 1000000 in
theorem back_in (F : Fence) (n : Nat) (h91 : F.fn 106) (hro : F.round = none) (ad : Addr) (m cap : Nat) (w : World) :
    CallsIn F n Tryd.prog 106 #[.slice (some ad) m cap] w fun e w' => e = .returned (.func (.func 121) #[] #[.pointer (some ⟨w.heap.size, 0, none⟩)]) ∧ w' = w.alloc (.cells #[.slice (some ad) m cap] 59) := by
  refine callsIn_of_wp Tryd.func106 rfl h91 ?_ hro
  simp only [Tryd.ntmps106, List.size_toArray, List.length_cons, List.length_nil, Nat.reduceAdd, Nat.reduceSub, Array.replicate_succ, Array.replicate_zero, List.push_toArray, List.append_toArray, List.nil_append, List.cons_append]
  gi_wp2
  go_ret
  exact ⟨rfl, rfl⟩
def step (p : Int × Bool) (c : Int) : Int × Bool :=
  (RowKit.wrap64 (p.1 + bif p.2 then (c - 48) % 256 * 2 - (c - 48) % 256 / 5 * 9 else (c - 48) % 256), !p.2)
def sumOf (l : List (Int × Int)) (tw : Bool) : Int × Bool := l.foldl (fun p x => step p x.2) (0, tw)
theorem sumOf_snoc (pre : List (Int × Int)) (x : Int × Int) (tw : Bool) : sumOf (pre ++ [x]) tw = step (sumOf pre tw) x.2 := by simp [sumOf]
theorem run_s2b (P : Program) {src dst e : TypeId} (hsrc : ∃ d, P.underlying src = some d) (hdst : P.underlying dst = some (.slice e)) (he8 : P.underlying e = some (.int .u8)) (b : List UInt8) (w : World) :
    ∃ (cap : Nat) (us : Array Value), b.length ≤ cap ∧ (∀ (i : Nat) (h : i < b.length), us[i]? = some (.int .u8 (b[i].toNat : Int))) ∧
      (convert src dst (strV b)).run P w = .ok (.slice (some ⟨w.heap.size, 0, none⟩) b.length cap) (w.drew.alloc (.cells us e (us.size, us.size + 1))) := by
  obtain ⟨d, hd1⟩ := hsrc
  refine ⟨grownCap w b.length 0 e, (⟨b.toArray⟩ : ByteArray).data.map (fun b => Value.int .u8 b.toNat) ++ Array.replicate (grownCap w b.length 0 e - b.length) (.int .u8 0), grownCap_ge w b.length 0 e, fun i h => ?_, ?_⟩
  · rw [Array.getElem?_append_left (by simpa using h)]
    simp [h]
  · have hsz : (⟨b.toArray⟩ : ByteArray).size = b.length := by simp [ByteArray.size]
    have hge : b.length ≤ grownCap w b.length 0 e := grownCap_ge w b.length 0 e
    generalize hus : (⟨b.toArray⟩ : ByteArray).data.map (fun b => Value.int .u8 b.toNat) ++ Array.replicate (grownCap w b.length 0 e - b.length) (.int .u8 0) = us
    have hsh := shape_alloc w.drew us e
    have hfz := freeze_alloc w.drew us e
    simp only [strV, Sem.run_bind, convert, run_underlying hd1, run_underlying hdst, Result.andThen_ok, run_underlying he8]
    simp only [Conv.stringToBytes, Sem.run_bind, run_choose_drew, Question.forced, Bool.false_eq_true, if_false, Result.andThen_ok, newRow, run_newObj_alloc, Sem.run_pure, markStringish, run_shape, hsz]
    have e0 : (Question.appendCap b.length 0 e).cut (w.tape w.drawn (Question.appendCap b.length 0 e)) = grownCap w b.length 0 e := rfl
    rw [e0, hus]
    simp only [hsh, run_freeze, hfz, Result.andThen_ok]
    rfl
structure At0 (w : World) (tw : Bool) (b : List UInt8) (cap : Nat) (W : World) : Prop where
  size : W.heap.size = w.heap.size + 4
  below : Below w.heap.size w W
  tw : W.cell? ⟨w.heap.size, 0, none⟩ = some (.bool tw) ∧ W.frozen? ⟨w.heap.size, 0, none⟩ = false
  n : W.cell? ⟨w.heap.size + 1, 0, none⟩ = some (.int .i64 0) ∧ W.frozen? ⟨w.heap.size + 1, 0, none⟩ = false
  bytes : ∀ (i : Nat) (h : i < (toBytes b).length), W.cell? ((⟨w.heap.size + 2, 0, none⟩ : Addr).add i) = some (.int .u8 (toBytes b)[i])
  box : W.cell? ⟨w.heap.size + 3, 0, none⟩ = some (.slice (some ⟨w.heap.size + 2, 0, none⟩) (toBytes b).length cap)
theorem at0 (w : World) (tw : Bool) (b : List UInt8) (cap : Nat) (us : Array Value) (e1 e2 e3 e4 : TypeId) (fr : Nat × Nat) (hus : ∀ (i : Nat) (h : i < b.length), us[i]? = some (.int .u8 (b[i].toNat : Int))) :
    At0 w tw b cap ((((w.alloc (.cells #[.bool tw] e1)).alloc (.cells #[.int .i64 0] e2)).alloc (.cells us e3 fr)).drew.alloc (.cells #[.slice (some ⟨w.heap.size + 1 + 1, 0, none⟩) b.length cap] e4)) := by
  generalize hW : ((((w.alloc (.cells #[.bool tw] e1)).alloc (.cells #[.int .i64 0] e2)).alloc (.cells us e3 fr)).drew.alloc (.cells #[.slice (some ⟨w.heap.size + 1 + 1, 0, none⟩) b.length cap] e4)) = W
  have hh : W.heap = (((w.heap.push (.cells #[.bool tw] e1)).push (.cells #[.int .i64 0] e2)).push (.cells us e3 fr)).push (.cells #[.slice (some ⟨w.heap.size + 1 + 1, 0, none⟩) b.length cap] e4) := by rw [← hW]; rfl
  have g0 : W.heap[w.heap.size]? = some (.cells #[.bool tw] e1) := by rw [hh]; simp only [Array.getElem?_push, Array.size_push]; rw [if_neg (by omega), if_neg (by omega), if_neg (by omega), if_pos trivial]
  have g1 : W.heap[w.heap.size + 1]? = some (.cells #[.int .i64 0] e2) := by rw [hh]; simp only [Array.getElem?_push, Array.size_push]; rw [if_neg (by omega), if_neg (by omega), if_pos trivial]
  have g2 : W.heap[w.heap.size + 2]? = some (.cells us e3 fr) := by rw [hh]; simp only [Array.getElem?_push, Array.size_push]; rw [if_neg (by omega), if_pos trivial]
  have g3 : W.heap[w.heap.size + 3]? = some (.cells #[.slice (some ⟨w.heap.size + 1 + 1, 0, none⟩) b.length cap] e4) := by rw [hh]; simp only [Array.getElem?_push, Array.size_push]; rw [if_pos trivial]
  have hl : (toBytes b).length = b.length := by simp [toBytes]
  refine ⟨by rw [hh]; simp, ?_, ⟨by rw [cell_of g0]; rfl, frozen_of g0 (thawed0 _) (by simp)⟩, ⟨by rw [cell_of g1]; rfl, frozen_of g1 (thawed0 _) (by simp)⟩, fun i h => ?_, by rw [cell_of g3, hl]; rfl⟩
  · rw [← hW]
    refine (((((Below.refl _ w).alloc (Nat.le_refl _) _).alloc (by simp) _).alloc (by simp; omega) _).drew).alloc ?_ _
    show _ ≤ (((w.alloc _).alloc _).alloc _).heap.size
    simp; omega
  · rw [addr_add, cell_of g2, Nat.zero_add, hus i (by omega)]
    simp [toBytes]
theorem round_post {w WW W : World} {tw : Bool} {b : List UInt8} {cap : Nat} (A : At0 w tw b cap WW) {pre : List (Int × Int)} {x : Int × Int} {p : Int × Bool} {v : Int} {c : Bool} {ac : Act}
    (hsn : sumOf (pre ++ [x]) tw = (v, c)) (ht : W.cell? ⟨w.heap.size, 0, none⟩ = some (.bool p.2)) (htf : W.frozen? ⟨w.heap.size, 0, none⟩ = false)
    (hc : W.cell? ⟨w.heap.size + 1, 0, none⟩ = some (.int .i64 p.1)) (hf : W.frozen? ⟨w.heap.size + 1, 0, none⟩ = false) (hb : Below w.heap.size w W) :
    ownPostK (Keep2 (w.heap.size + 3) (w.heap.size + 2)) (fun pre W => (W.cell? ⟨w.heap.size, 0, none⟩ = some (.bool (sumOf pre tw).2) ∧ W.frozen? ⟨w.heap.size, 0, none⟩ = false) ∧ (W.cell? ⟨w.heap.size + 1, 0, none⟩ = some (.int .i64 (sumOf pre tw).1) ∧ W.frozen? ⟨w.heap.size + 1, 0, none⟩ = false) ∧ Below w.heap.size w W)
      (fun _ _ _ => False) (pre ++ [x]) W .normal ac ((W.setCell ⟨w.heap.size + 1, 0, none⟩ (.int .i64 v)).setCell ⟨w.heap.size, 0, none⟩ (.bool c)) := by
  refine ⟨(KeepsOthers.setCell _ _ _).trans (KeepsOthers.setCell _ _ _), fun k hk => ?_, ⟨?_, ?_⟩, ⟨?_, ?_⟩, (hb.setCell (by simp) _).setCell (by simp) _⟩
  · rw [Below.heap_setCell _ _ _ _ (by simp; omega), Below.heap_setCell _ _ _ _ (by simp; omega)]
  · rw [hsn]
    refine World.cell?_setCell_same' _ _ _ ?_
    rw [World.cell?_of_block (Below.heap_setCell _ _ _ _ (by simp)), ht]; rfl
  · rw [World.frozen?_setCell, World.frozen?_setCell]; exact htf
  · rw [hsn, World.cell?_of_block (Below.heap_setCell _ _ _ _ (by simp))]
    refine World.cell?_setCell_same' _ _ _ ?_
    rw [hc]; rfl
  · rw [World.frozen?_setCell, World.frozen?_setCell]; exact hf
set_option maxRecDepth 100000 in
set_option maxHeartbeats 2000000 in
theorem sum_in (n : Nat) (hn : 3 ≤ n) (b : List UInt8) (hlen : b.length ≤ 9223372036854775807) (tw : Bool) (w : World) :
    CallsIn Fence.wide n Tryd.prog 73 #[strV b, .bool tw] w fun e W' => e = .returned (.int .i64 (sumOf (backs (toBytes b)) tw).1) ∧ Below w.heap.size w W' := by
  have h1 : 1 ≤ n := by omega
  refine callsIn_of_wp_marks Tryd.func73 rfl trivial ?_ rfl
  simp only [Tryd.ntmps73, List.size_toArray, List.length_cons, List.length_nil, Nat.reduceAdd, Nat.reduceSub, Array.replicate_succ, Array.replicate_zero, List.push_toArray, List.append_toArray, List.nil_append, List.cons_append]
  gi_wp2
  obtain ⟨cap, us, hcap, hus, hrun⟩ := run_s2b Tryd.prog (src := 9) (dst := 59) (e := 5) ⟨_, Tryd.underlying9⟩ Tryd.underlying59 Tryd.underlying5 b ((w.alloc (.cells #[.bool tw] 4)).alloc (.cells #[.int .i64 0] 3))
  rw [hrun]
  simp only [Result.andThen_ok]
  gi_wp2
  refine ⟨trivial, (back_in Fence.wide (n - 1) trivial rfl _ _ _ _).mono ?_⟩
  rintro e w' ⟨rfl, rfl⟩
  dsimp only
  gi_wp2
  have A := at0 w tw b cap us 4 3 5 59 (us.size, us.size + 1) hus
  have hs : (((w.alloc (Obj.cells #[Value.bool tw] 4)).alloc (Obj.cells #[Value.int IntKind.i64 0] 3)).alloc (Obj.cells us 5 (us.size, us.size + 1))).drew.heap.size = w.heap.size + 3 := by
    show (((w.alloc _).alloc _).alloc _).heap.size = _
    simp
  rw [hs]
  generalize ((((w.alloc (Obj.cells #[Value.bool tw] 4)).alloc (Obj.cells #[Value.int IntKind.i64 0] 3)).alloc (Obj.cells us 5 (us.size, us.size + 1))).drew.alloc (Obj.cells #[Value.slice (some { block := w.heap.size + 1 + 1, off := 0 }) b.length cap] 59)) = WW at A ⊢
  have hlen' : (toBytes b).length = b.length := by simp [toBytes]
  refine wpIn_rangeFunc_ownF rfl h1 (gf := 121) (lb := #[.pointer (some ⟨w.heap.size + 3, 0, none⟩)]) rfl trivial (enters_of Tryd.func121 (by kernel_rfl) rfl)
    (encs := fun x : Int × Int => #[.int .i64 x.1, .int .u8 x.2]) (Kp := Keep2 (w.heap.size + 3) (w.heap.size + 2)) (S := fun ys => ys = backs (toBytes b)) (Sp := fun _ => True) (N := (toBytes b).length) (w0 := WW)
    (fun l J Jx W hW _ _ hY h0 => back1_in Fence.wide (n - 1) trivial rfl (by omega) l (w.heap.size + 3) (toBytes b) ⟨w.heap.size + 2, 0, none⟩ cap J Jx hY W ((hW.cell (p := ⟨w.heap.size + 3, 0, none⟩) (by rw [A.size]; show w.heap.size + 3 < _; omega)).trans A.box)
      (fun i h => (hW.cell (p := (⟨w.heap.size + 2, 0, none⟩ : Addr).add i) (by rw [A.size, addr_add]; show w.heap.size + 2 < _; omega)).trans (A.bytes i h)) (by rw [hlen']; exact hlen) h0)
    (fun h k b hb => (k b hb).trans (h b hb))
    (fun W l o o' hl _ _ _ b hb => World.putObj_heap_other (by rw [A.size] at hl; omega))
    (Below.refl _ _) (fun _ => rfl)
    (fun pre W => (W.cell? ⟨w.heap.size, 0, none⟩ = some (.bool (sumOf pre tw).2) ∧ W.frozen? ⟨w.heap.size, 0, none⟩ = false) ∧ (W.cell? ⟨w.heap.size + 1, 0, none⟩ = some (.int .i64 (sumOf pre tw).1) ∧ W.frozen? ⟨w.heap.size + 1, 0, none⟩ = false) ∧ Below w.heap.size w W)
    (fun _ _ _ => False) ?own (fun _ _ _ _ _ hs _ _ => hs) ⟨A.tw, A.n, A.below⟩
    (fun x => { tmps := #[strV b, .bool tw, undef, .pointer (some ⟨w.heap.size, 0, none⟩), .int .i64 0, .pointer (some ⟨w.heap.size + 1, 0, none⟩), undef, .int .u8 x.2, undef, strV b, .slice (some ⟨w.heap.size + 1 + 1, 0, none⟩) b.length cap, .func (.func 121) #[] #[.pointer (some ⟨w.heap.size + 3, 0, none⟩)], .int .i64 x.1, .int .u8 x.2, undef, undef, undef, undef, undef, undef, undef, undef, undef, undef, undef, undef, undef, undef, undef, undef], defers := [] }) ?assign ?body ?done ?stop
  case own =>
    refine fun s A' B' row hs hg hr => ⟨⟨cell_kept hs.1.1 hg fun r e => (hr r e).2, (frozen_kept hs.1.1 hg fun r e => (hr r e).2).trans hs.1.2⟩, ⟨cell_kept hs.2.1.1 hg fun r e => (hr r e).2, (frozen_kept hs.2.1.1 hg fun r e => (hr r e).2).trans hs.2.1.2⟩, ?_⟩
    exact hs.2.2.grown hg hs.2.2.size (fun k e => by have := (hr k e).1; rw [A.size] at this; omega)
  case assign =>
    intro l x W K hK
    gi_wp2_with (rw [Oper.semAt_eq _ _ _ (fun c h => by cases h)]; go_simp; try go_bits)
    exact hK
  case body =>
    rintro l pre x W ⟨⟨ht, htf⟩, ⟨hc, hf⟩, hb⟩ _
    have hsn := sumOf_snoc pre x tw
    generalize hp : sumOf pre tw = p at ht hc hsn
    obtain ⟨p1, p2⟩ := p
    simp only [] at ht hc
    cases p2
    · gi_wp2_with (rw [Oper.semAt_eq _ _ _ (fun c h => by cases h)]; go_simp; try go_bits)
      exact round_post (p := (p1, false)) A hsn ht htf hc hf hb
    · gi_wp2_with (rw [Oper.semAt_eq _ _ _ (fun c h => by cases h)]; go_simp; try go_bits)
      exact round_post (p := (p1, true)) A hsn ht htf hc hf hb
  case done =>
    rintro D xs W hD rfl ⟨⟨ht, htf⟩, ⟨hc, hf⟩, hb⟩ hK
    gi_wp2
    refine ⟨by simp, .inl ⟨_, _, rfl, run_takeDeferred hK, ?_⟩⟩
    exact ⟨_, results_tmp rfl _ _ _, rfl, hb.grown (grownBy_putObj' W D _) hb.size (fun k e => by cases e; rw [A.size] at hD; omega)⟩
  case stop =>
    rintro D c pre W _ _ h _
    exact h.elim
theorem fn73 (b : List UInt8) (hlen : b.length ≤ 9223372036854775807) (tw : Bool) : CallOK Tryd.prog 73 [.str b, .bool tw] (.int .i64 (sumOf (backs (toBytes b)) tw).1) := by
  refine .inl ⟨rfl, ⟨_, Tryd.func73, by kernel_rfl, by kernel_rfl⟩, fun w pr us hpr _ ha => ?_⟩
  obtain ⟨u1, us1, rfl, h1, h2⟩ : ∃ u1 us1, us = u1 :: us1 ∧ PV w pr (.str b) u1 ∧ All2 (PV w pr) [.bool tw] us1 := by
    cases us with
    | nil => exact ha.elim
    | cons u us => exact ⟨u, us, rfl, ha.1, ha.2⟩
  obtain ⟨u2, us2, rfl, h3, h4⟩ : ∃ u1 us', us1 = u1 :: us' ∧ PV w pr (.bool tw) u1 ∧ All2 (PV w pr) [] us' := by
    cases us1 with
    | nil => exact h2.elim
    | cons u us => exact ⟨u, us, rfl, h2.1, h2.2⟩
  have e1 : u1 = strV b := by rcases h1 with h | ⟨_, _, h, _⟩ <;> first | exact h | cases h
  have e2 : u2 = .bool tw := by rcases h3 with h | ⟨_, _, h, _⟩ <;> first | exact h | cases h
  have e3 : us2 = [] := by cases us2 with | nil => rfl | cons _ _ => exact h4.elim
  subst e1 e2 e3
  refine (callsIn_wide.1 (sum_in 10 (by omega) b hlen tw w)).mono ?_
  rintro e W' ⟨rfl, hb⟩
  exact ⟨_, pr, rfl, hb, fun _ _ _ => Iff.rfl, fun k o h => Nat.lt_of_lt_of_le (hpr k o h) hb.size, none, .inl rfl, rfl⟩
end Go.Proofs.YtcgnmecbdleehaaDoor.Sum
end
section
set_option linter.unusedVariables false
set_option linter.unusedSimpArgs false
namespace Go.Proofs.YtcgnmecbdleehaaDoor.Signs
open Go Go.RowKit Go.Proofs Go.Proofs.YtcgnmecbdleehaaDoor Th Go.Lib
attribute [local go_sem] Oper.semAt_some
def plain (c : UInt8) : Bool := decide (32 ≤ c.toNat) && decide (c.toNat ≤ 126)
def signsOf (kind : Int) (d : Bool) (b : List UInt8) : Bool := if kind = 1 ∨ kind = 3 then d else b.all plain
theorem all_of {bs : ByteArray} (h : ∀ (i : Nat) (h : i < bs.size), plain bs[i] = true) : bs.data.toList.all plain = true := by
  rw [List.all_eq_true]
  intro x hx
  obtain ⟨i, hi, rfl⟩ := List.getElem_of_mem hx
  have hi' : i < bs.size := by rw [Array.length_toList] at hi; exact hi
  have e : bs.data.toList[i] = bs[i] := by rw [Array.getElem_toList]; rfl
  rw [e]; exact h i hi'
theorem not_all {bs : ByteArray} {i : Nat} (h : i < bs.size) (hp : plain bs[i] = false) : bs.data.toList.all plain = false := by
  rw [Bool.eq_false_iff]
  intro ha
  rw [List.all_eq_true] at ha
  have := ha bs[i] (by
    have hi : i < bs.data.toList.length := by rw [Array.length_toList]; exact h
    have e : bs.data.toList[i] = bs[i] := by rw [Array.getElem_toList]; rfl
    rw [← e]; exact List.getElem_mem _)
  rw [hp] at this; cases this
theorem iterPos_of' {w : World} {k : Nat} {s : ByteArray} {p : Nat} (h : w.heap[k]? = some (.stringIter s p)) : w.iterPos k = p := by simp [World.iterPos, h]
set_option maxRecDepth 100000 in
set_option maxHeartbeats 2000000 in
theorem signs_in (n : Nat) (hn : 3 ≤ n) (f kind size : Int) (bs : ByteArray) (hlen : bs.size ≤ 9223372036854775807) (d : Bool) (w : World)
    (hIs : ∀ w1 : World, Below w.heap.size w w1 → Calls Tryd.prog 72 #[.string bs] w1 fun e w' => e = .returned (.bool d) ∧ Below w1.heap.size w1 w') :
    CallsIn Fence.wide n Tryd.prog 76 #[.agg #[.int .i64 f, .int .i64 kind, .int .i64 size], .string bs] w fun e W' => e = .returned (.bool (signsOf kind d bs.data.toList)) ∧ Below w.heap.size w W' := by
  have h1 : 1 ≤ n := by omega
  refine callsIn_of_wp Tryd.func76 rfl trivial ?_ rfl
  simp only [Tryd.ntmps76, List.size_toArray, List.length_cons, List.length_nil, Nat.reduceAdd, Nat.reduceSub, Array.replicate_succ, Array.replicate_zero, List.push_toArray, List.append_toArray, List.nil_append, List.cons_append]
  by_cases k1 : kind = 1
  · subst k1
    gi_wp2
    refine ⟨trivial, (callsIn_wide.2 (hIs _ ((Below.refl _ w).alloc (Nat.le_refl _) _))).mono ?_⟩
    rintro e w' ⟨rfl, hb⟩
    dsimp only
    gi_wp2
    go_ret
    refine ⟨by simp [signsOf], ((Below.refl _ w).alloc (Nat.le_refl _) _).trans (hb.mono (by simp))⟩
  by_cases k3 : kind = 3
  · subst k3
    gi_wp2
    refine ⟨trivial, (callsIn_wide.2 (hIs _ ((Below.refl _ w).alloc (Nat.le_refl _) _))).mono ?_⟩
    rintro e w' ⟨rfl, hb⟩
    dsimp only
    gi_wp2
    go_ret
    refine ⟨by simp [signsOf], ((Below.refl _ w).alloc (Nat.le_refl _) _).trans (hb.mono (by simp))⟩
  · gi_wp2
    · exfalso; simp_all
    have hit : (((w.alloc (Obj.cells #[Value.int IntKind.i64 f, Value.int IntKind.i64 kind, Value.int IntKind.i64 size] 111)).iter bs 0)).heap[w.heap.size + 1]? = some (.stringIter bs 0) := by
      have := World.iter_heap (w.alloc (Obj.cells #[Value.int IntKind.i64 f, Value.int IntKind.i64 kind, Value.int IntKind.i64 size] 111)) bs 0
      rwa [World.size_alloc] at this
    have hbl : Below w.heap.size w ((w.alloc (Obj.cells #[Value.int IntKind.i64 f, Value.int IntKind.i64 kind, Value.int IntKind.i64 size] 111)).iter bs 0) :=
      ((Below.refl _ w).alloc (Nat.le_refl _) _).alloc (by simp) _
    generalize ((w.alloc (Obj.cells #[Value.int IntKind.i64 f, Value.int IntKind.i64 kind, Value.int IntKind.i64 size] 111)).iter bs 0) = W0 at hit hbl ⊢
    gi_loopw [] (fun wr => ∃ pos, pos ≤ bs.size ∧ (∀ (i : Nat) (h : i < bs.size), i < pos → plain bs[i] = true) ∧ wr.heap[w.heap.size + 1]? = some (.stringIter bs pos) ∧ Below w.heap.size w wr)
      (fun wr => bs.size - wr.iterPos (w.heap.size + 1))
    case atStart => exact ⟨0, by omega, fun i h hi => by omega, hit, hbl⟩
    case round =>
      obtain ⟨pos, hp, hall, hhe, hb⟩ := hrel
      by_cases hlt : pos < bs.size
      · by_cases hpl : plain (bs[pos]'hlt) = true
        · have hpl' := hpl
          simp only [plain, Bool.and_eq_true, decide_eq_true_eq] at hpl'
          have hnext := run_next_ascii_at (P := Tryd.prog) wr (w.heap.size + 1) bs pos 0 hhe hlt (by omega)
          have c1 : ¬ (((bs[pos]'hlt).toNat : Int) < 32) := by omega
          have c2 : ¬ (126 < ((bs[pos]'hlt).toNat : Int)) := by omega
          gi_wp2
          go_roundw
          case rel =>
            refine ⟨pos + 1, by omega, fun i h hi => ?_, iterAt_heap wr (w.heap.size + 1) bs pos (pos + 1) hhe, below_iterAt hb (by omega) _ _⟩
            by_cases e : i = pos
            · subst e; exact hpl
            · exact hall i h (by omega)
          case measure =>
            rw [iterPos_of' hhe, iterPos_of' (iterAt_heap wr (w.heap.size + 1) bs pos (pos + 1) hhe)]
            omega
        · have hpf : plain (bs[pos]'hlt) = false := by simpa using hpl
          have fin : bs.data.toList.all plain = false := not_all hlt hpf
          have fin2 : signsOf kind d bs.data.toList = false := by unfold signsOf; rw [if_neg (by simp [k1, k3]), fin]
          by_cases hasc : (bs[pos]'hlt).toNat < 128
          · have hnext := run_next_ascii_at (P := Tryd.prog) wr (w.heap.size + 1) bs pos 0 hhe hlt hasc
            have hcc : ((bs[pos]'hlt).toNat : Int) < 32 ∨ 126 < ((bs[pos]'hlt).toNat : Int) := by
              simp only [plain, Bool.and_eq_false_iff, decide_eq_false_iff_not] at hpf
              omega
            rcases hcc with c1 | c1
            · gi_wp2
              go_ret
              first | exact ⟨(congrArg (fun x => Ending.returned (Value.bool x)) fin2).symm, below_iterAt hb (by omega) _ _⟩ | exact ⟨rfl, below_iterAt hb (by omega) _ _⟩
            · have c2 : ¬ (((bs[pos]'hlt).toNat : Int) < 32) := by omega
              gi_wp2
              go_ret
              first | exact ⟨(congrArg (fun x => Ending.returned (Value.bool x)) fin2).symm, below_iterAt hb (by omega) _ _⟩ | exact ⟨rfl, below_iterAt hb (by omega) _ _⟩
          · have hnext := run_next_any_at (P := Tryd.prog) wr (w.heap.size + 1) bs pos 0 hhe hlt
            have hhi := (decode_high bs pos hlt (by omega)).1
            have c1 : ¬ (((Utf8.decode bs pos).1 : Int) < 32) := by omega
            have c2 : 126 < ((Utf8.decode bs pos).1 : Int) := by omega
            gi_wp2
            go_ret
            first | exact ⟨(congrArg (fun x => Ending.returned (Value.bool x)) fin2).symm, below_iterAt hb (by omega) _ _⟩ | exact ⟨rfl, below_iterAt hb (by omega) _ _⟩
      · have hnext := run_next_end_at (P := Tryd.prog) wr (w.heap.size + 1) bs pos 0 hhe hlt
        have fin : bs.data.toList.all plain = true := all_of fun i h => hall i h (by omega)
        have fin2 : signsOf kind d bs.data.toList = true := by unfold signsOf; rw [if_neg (by simp [k1, k3]), fin]
        gi_wp2
        go_ret
        first | exact ⟨(congrArg (fun x => Ending.returned (Value.bool x)) fin2).symm, hb⟩ | exact ⟨rfl, hb⟩
theorem fn76 (f kind size : Int) (b : List UInt8) (hlen : b.length ≤ 9223372036854775807) (d : Bool) (hIs : CallOK Tryd.prog 72 [.str b] (.bool d)) :
    CallOK Tryd.prog 76 [.agg [.int .i64 f, .int .i64 kind, .int .i64 size], .str b] (.bool (signsOf kind d b)) := by
  refine .inl ⟨rfl, ⟨_, Tryd.func76, by kernel_rfl, by kernel_rfl⟩, fun w pr us hpr hgl ha => ?_⟩
  obtain ⟨u1, us1, rfl, h1, h2⟩ : ∃ u1 us1, us = u1 :: us1 ∧ PV w pr (.agg [.int .i64 f, .int .i64 kind, .int .i64 size]) u1 ∧ All2 (PV w pr) [.str b] us1 := by
    cases us with
    | nil => exact ha.elim
    | cons u us => exact ⟨u, us, rfl, ha.1, ha.2⟩
  obtain ⟨u2, us2, rfl, h3, h4⟩ : ∃ u1 us', us1 = u1 :: us' ∧ PV w pr (.str b) u1 ∧ All2 (PV w pr) [] us' := by
    cases us1 with
    | nil => exact h2.elim
    | cons u us => exact ⟨u, us, rfl, h2.1, h2.2⟩
  have e1 : u1 = .agg #[.int .i64 f, .int .i64 kind, .int .i64 size] := by
    rcases h1 with h | ⟨cs, vs, hc, hv, hr⟩
    · exact h.elim
    · cases hc
      match vs, hr with
      | [a, b, c], ⟨p, q, r, _⟩ => rw [hv, show a = _ from p, show b = _ from q, show c = _ from r]
  have e2 : u2 = strV b := by rcases h3 with h | ⟨_, _, h, _⟩ <;> first | exact h | cases h
  have e3 : us2 = [] := by cases us2 with | nil => rfl | cons _ _ => exact h4.elim
  subst e1 e2 e3
  have hIs' : ∀ w1 : World, Below w.heap.size w w1 → Calls Tryd.prog 72 #[strV b] w1 fun e w' => e = .returned (.bool d) ∧ Below w1.heap.size w1 w' := by
    intro w1 hb1
    rcases hIs with ⟨_, hIs⟩ | ⟨_, _, _, _, _, e, _⟩ | ⟨_, _, _, _, _, e, _⟩
    case inr.inl => cases e
    case inr.inr => cases e
    refine (hIs.2 w1 pr [strV b] (fun k o h => Nat.lt_of_lt_of_le (hpr k o h) hb1.size) (hgl.keeps fun k o p => ⟨p, cell_heap (hb1.block k (hpr k o p)) o⟩) ⟨.inl rfl, trivial⟩).mono ?_
    rintro e w' ⟨r, pr', rfl, hb, _, _, hr⟩
    obtain ⟨bb, hr⟩ := hr
    refine ⟨?_, hb⟩
    rcases hr.1 with h1 | ⟨_, _, h1, _⟩
    · rw [show r = .bool d from h1]
    · cases h1
  have := signs_in 10 (by omega) f kind size ⟨b.toArray⟩ (by simpa [ByteArray.size] using hlen) d w hIs'
  refine (callsIn_wide.1 this).mono ?_
  rintro e W' ⟨rfl, hb⟩
  exact ⟨_, pr, rfl, hb, fun _ _ _ => Iff.rfl, fun k o h => Nat.lt_of_lt_of_le (hpr k o h) hb.size, none, .inl rfl, rfl⟩
end Go.Proofs.YtcgnmecbdleehaaDoor.Signs
end
section
set_option linter.unusedVariables false
set_option linter.unusedSimpArgs false
namespace Go.Proofs.YtcgnmecbdleehaaDoor.Grow114
open Go Go.RowKit Go.Shelf Go.Lib Go.Proofs Go.Proofs.YtcgnmecbdleehaaDoor Th
def Post (n : Nat) (z : Value) (w : World) (e : Ending) (w' : World) : Prop := (n = 0 ∧ e = .returned (.slice none 0 0) ∧ w' = w) ∨
      (0 < n ∧ ∃ G us, e = .returned (.slice (some ⟨w.heap.size, 0, none⟩) 0 G) ∧ w' = w.drew.alloc (.cells us 5) ∧ us = Builtin.zeroCells z.cells n ++ Builtin.zeroCells z.cells (G - n) ∧ n ≤ G)
set_option maxHeartbeats 4000000 in
set_option maxRecDepth 100000 in
theorem walk (i0 : TypeInfo) (z : Value) (hi0 : Tryd.prog.info? 5 = some i0) (hz0 : i0.zero = some z) (hs0 : 0 < i0.size) (n : Nat) (w : World) (hbig : n * i0.bytes ≤ 140737488355328) (h63 : n ≤ 4611686018427387904) :
    Calls Tryd.prog 114 #[.slice none 0 0, .int .i64 n] w (Post n z w) := by
  by_cases hn : n = 0
  · subst hn
    go_enter Tryd.func114, Tryd.ntmps114
    go_wp2
    go_ret
    exact .inl ⟨rfl, rfl, rfl⟩
  have hts : Tryd.prog.underlying 59 = some (.slice 5) := by kernel_rfl
  have hti : Tryd.prog.underlying 3 = some (.int .i64) := by kernel_rfl
  have h1 : ¬ ((n : Int) < 0) := by omega
  have h4 : (n : Int) > 0 := by omega
  have hold : (Builtin.firstCells i0.size 0 (.slice none 0 0)).run Tryd.prog w.drew = .ok ([] : List Value).toArray w.drew := run_firstCells_none w.drew i0.size 0 0 0
  have hrz : ∀ ty, (Builtin.append_ #[59, 3] ty #[.slice none 0 0, .int .i64 (n : Int)]).run Tryd.prog w =
      .ok (.slice (some ⟨w.heap.size, 0, none⟩) n (grownCap w n 0 5)) (w.drew.alloc (.cells (([] : List Value).toArray ++ Builtin.zeroCells z.cells n ++ Builtin.zeroCells z.cells (grownCap w n 0 5 - n)) 5)) := fun ty => by
    have h := Lib.run_append_grow_zeros w 59 3 ty 5 i0 z .i64 .i64 hts hti hi0 hz0 none 0 0 [] hold n (by omega) hs0 (by omega) (by omega) (by omega) (by rw [Nat.zero_add]; exact growslice_fits (by omega) hbig)
    rw [Nat.zero_add] at h
    exact h
  have hGn : n ≤ grownCap w n 0 5 := grownCap_ge w _ _ _
  obtain ⟨G, hG⟩ : ∃ G, G = grownCap w n 0 5 := ⟨_, rfl⟩
  rw [← hG] at hrz hGn
  obtain ⟨ROW, hROW⟩ : ∃ ROW : Array Value, ROW = ([] : List Value).toArray ++ Builtin.zeroCells z.cells n ++ Builtin.zeroCells z.cells (G - n) := ⟨_, rfl⟩
  rw [← hROW] at hrz
  have hpost : Post n z w (.returned (.slice (some ⟨w.heap.size, 0, none⟩) 0 G)) (w.drew.alloc (.cells ROW 5)) := .inr ⟨by omega, G, _, rfl, rfl, by rw [hROW]; simp, hGn⟩
  clear hROW
  have hG63 : G ≤ 9223372036854775807 := by
    have := grownCap_le_maxLen w n 0 5 (by unfold maxLen; omega)
    rw [← hG] at this
    unfold maxLen at this
    omega
  have hw : IntKind.i64.wrap (n : Int) = (n : Int) := by rw [IntKind.wrap_i64]; omega
  clear hold hG
  go_enter Tryd.func114, Tryd.ntmps114
  go_wp2_with (at_builtin; refine Lib.wpList_append_run _ rfl _ _ _ _ rfl _ _ rfl rfl _ _ (hrz _) ?_)
  all_goals (go_ret; exact hpost)
theorem calls {ei : TInfo} {d : TypeDesc} {i0 : TypeInfo} {z : Value} (E : TypeIs Tryd.prog 5 ei i0 d z) (hs0 : 0 < ei.size) (n : Int) (h0 : 0 ≤ n) (hbig : n * (ei.bytes : Int) ≤ 140737488355328) (h63 : n ≤ 4611686018427387904) :
    CallOK Tryd.prog 114 [.nilsl, .int .i64 n] (.own ei.ty []) := by
  refine .inl ⟨rfl, ⟨_, Tryd.func114, rfl, rfl⟩, fun w pr us hlt hgl ha => ?_⟩
  obtain ⟨u1, u2, rfl⟩ : ∃ u1 u2, us = [u1, u2] := by
    have := ha.len
    match us, this with
    | [u1, u2], _ => exact ⟨u1, u2, rfl⟩
  obtain ⟨p1, p2, _⟩ := ha
  have e1 : u1 = .slice none 0 0 := by
    rcases p1 with h | ⟨cs, us, h, _⟩
    · exact h
    · cases h
  have e2 : u2 = .int .i64 n := by
    rcases p2 with h | ⟨cs, us, h, _⟩
    · exact h
    · cases h
  subst e1 e2
  obtain ⟨m, rfl⟩ : ∃ m : Nat, n = m := ⟨n.toNat, by omega⟩
  have hzsz : z.cells.size = ei.size := by have := (z0s_LR (w := w) (g := ⟨fun _ _ => False, fun _ => none, fun _ => none⟩) E.zrel).len; have := E.zlen; simp at *; omega
  refine (walk i0 z E.info E.zero (by rw [E.size]; exact hs0) m w (by rw [E.bytes]; have : ((m * ei.bytes : Nat) : Int) ≤ 140737488355328 := by rw [Int.natCast_mul]; exact hbig
                                                                      omega) (by omega)).mono ?_
  rintro e w' (⟨rfl, rfl, rfl⟩ | ⟨hm, G, us, rfl, rfl, rfl, hG⟩)
  · exact ⟨_, pr, rfl, Below.refl _ _, fun _ _ _ => Iff.rfl, hlt, none, ⟨.slice none 0 0, none, ei.ty.size⟩, ⟨rfl, .inl ⟨rfl, rfl, rfl⟩⟩, rfl, rfl, fun k hk => by cases hk⟩
  · refine ⟨_, pr, rfl, ((Below.refl _ w).drew).alloc (Nat.le_refl _) _, fun _ _ _ => Iff.rfl, fun k o p => ?_, some w.heap.size, ⟨.slice (some ⟨w.heap.size, 0, none⟩) 0 G, some w.heap.size, ei.ty.size⟩,
      ⟨rfl, .inr ⟨w.heap.size, G, rfl, rfl, ?_⟩⟩, rfl, rfl, fun k hk => ?_⟩
    · have h1 : (w.drew.alloc (.cells (Builtin.zeroCells z.cells m ++ Builtin.zeroCells z.cells (G - m)) 5)).heap.size = w.heap.size + 1 := by show (w.heap.push _).size = _; simp
      rw [h1]; have := hlt k o p; omega
    · refine ⟨bd0_mine.2 (Nat.le_refl _), Nat.zero_le _, ⟨_, 5, (0, 0), alloc_new w.drew _, thawT0 _ _ _, ?_, fun j x hj => by simp at hj⟩, fun o p => absurd (hlt _ _ p) (by omega), fun h => (by cases h), fun _ o p => absurd (hlt _ _ p) (by omega)⟩
      rw [E.tysz]
      simp only [Array.size_append, size_zeroCells, hzsz]
      rw [← Nat.add_mul]
      exact Nat.mul_le_mul_right _ (by omega)
    · cases hk; show _ < (w.heap.push _).size; simp
end Go.Proofs.YtcgnmecbdleehaaDoor.Grow114
end
section
set_option linter.unusedVariables false
set_option linter.unusedSimpArgs false
namespace Go.Proofs.YtcgnmecbdleehaaDoor.FrameP
open Go Go.RowKit Go.Shelf Go.Lib Go.Proofs Go.Proofs.YtcgnmecbdleehaaDoor Th
def hdr (n : Nat) : List Value := [.int .u8 (n / 256 % 256 : Nat), .int .u8 (n % 256 : Nat)]
def Post (n : Nat) (cs : List Value) (w : World) (e : Ending) (w' : World) : Prop :=
  (n = 0 ∧ e = .returned (.tuple #[.slice none 0 0, .int .i64 2]) ∧ w' = w) ∨
  (2048 < n ∧ e = .returned (.tuple #[.slice none 0 0, .int .i64 4]) ∧ w' = w) ∨
  (0 < n ∧ n ≤ 2048 ∧ e = .returned (.tuple #[.slice (some ⟨w.heap.size, 0, none⟩) (n + 2) (n + 2), .int .i64 0]) ∧ Below w.heap.size w w' ∧ w'.heap[w.heap.size]? = some (.cells (hdr n ++ cs).toArray 5 (0, 0)))
theorem wpList_make_run {P : Program} (w : World) {ops : Array Oper} {rest : List Oper} {o : Oper} {a : Act} {Q : Exit → Act → World → Prop} (hg : o.guard = none) (l c : Operand) (t : TypeId) (hop : o.op = Op.makeSlice t l c)
    (vl vc : Value) (hl : a.eval l = vl) (hc : a.eval c = vc) (v : Value) (w' : World) (hrun : (Instr.makeSlice t vl vc).run P w = .ok v w') (h : wpList P ops Q rest (a.put o.dst v) w') : wpList P ops Q (o :: rest) a w := by
  refine wpList_plain hg fun K hK' => ?_
  unfold Oper.wp
  simp [execOp, hop, hl, hc, hrun, Result.andThen]
  exact hK' _ _ h
theorem wpList_copy_run {P : Program} (w : World) {ops : Array Oper} {rest : List Oper} {o : Oper} {a : Act} {Q : Exit → Act → World → Prop} (hg : o.guard = none) (x y : Operand) (t u : TypeId) (hop : o.op = .call { callee := .builtin .copy, args := #[x, y], argTypes := #[t, u] })
    (vx vy : Value) (hx : a.eval x = vx) (hy : a.eval y = vy) (v : Value) (w' : World) (hrun : (Builtin.copy_ #[t, u] o.type #[vx, vy]).run P w = .ok v w') (h : wpList P ops Q rest (a.put o.dst v) w') : wpList P ops Q (o :: rest) a w := by
  refine wpList_plain hg fun K hK' => ?_
  unfold Oper.wp
  simp [execOp, hop, resolve, invoke, builtin, hx, hy, hrun, Result.andThen]
  exact hK' _ _ h
theorem cell_below {B : Nat} {w w' : World} (h : Below B w w') {a : Addr} (ha : a.block < B) : w'.cell? a = w.cell? a := by
  have := h.block a.block ha
  simp only [World.cell?, this]
theorem made_list (v : Value) (n : Nat) (z : Array Value) (hz : z = #[v]) : madeCells z n = (List.replicate n v).toArray := by
  subst hz
  apply Array.ext
  · rw [size_madeCells]; simp
  · intro i h1 h2
    simp [madeCells, Nat.mod_one]
set_option maxHeartbeats 4000000 in
set_option maxRecDepth 100000 in
theorem walk (ad : Option Addr) (n c : Nat) (cs : List Value) (hn : cs.length = n) (w : World) (hsrc : 0 < n → ∃ a, ad = some a ∧ ∀ j v, cs[j]? = some v → (a.add j).block < w.heap.size ∧ w.cell? (a.add j) = some v) (h1 : ∀ v ∈ cs, v.oneCell' = true) :
    Calls Tryd.prog 55 #[.slice ad n c] w (Post n cs w) := by
  by_cases hz : n = 0
  · subst hz
    go_enter Tryd.func55, Tryd.ntmps55
    go_wp2
    all_goals (go_ret2; exact .inl ⟨rfl, rfl, rfl⟩)
  have q0 : ¬ ((n : Int) = 0) := by omega
  by_cases hbig : 2048 < n
  · have q1 : (n : Int) > 2048 := by omega
    go_enter Tryd.func55, Tryd.ntmps55
    go_wp2
    all_goals (go_ret2; exact .inr (.inl ⟨hbig, rfl, rfl⟩))
  have q1 : ¬ ((n : Int) > 2048) := by omega
  have hts : Tryd.prog.underlying 59 = some (.slice 5) := by kernel_rfl
  have hti : (Tryd.prog.info? 5).map (fun i => (i.zero, i.size, i.bytes)) = some (some (.int .u8 0), 1, 1) := by kernel_rfl
  obtain ⟨i0, hi0, hz0, hs0, hb0⟩ := info_parts hti
  obtain ⟨W1, hmk, hB1, hr1⟩ : ∃ W1, (Instr.makeSlice 59 (.int .i64 (2 + (n : Int))) (.int .i64 (2 + (n : Int)))).run Tryd.prog w = .ok (.slice (some ⟨w.heap.size, 0, none⟩) (n + 2) (n + 2)) W1 ∧ Below w.heap.size w W1 ∧
      W1.heap[w.heap.size]? = some (.cells (List.replicate (n + 2) (Value.int .u8 0)).toArray 5 (0, 0)) := by
    have h := run_make (P := Tryd.prog) w 59 5 i0 _ hts hi0 hz0 .i64 .i64 (2 + (n : Int)) (2 + (n : Int)) (by omega) (by omega) (by rw [hb0]; omega) (by omega)
    have e : (2 + (n : Int)).toNat = n + 2 := by omega
    rw [e, hs0] at h
    refine ⟨_, h, (Below.refl _ _).alloc (Nat.le_refl _) _, ?_⟩
    rw [made_list (.int .u8 0) _ (Value.int .u8 0).cells rfl, Nat.mul_one]
    exact Array.getElem?_push_size
  have hw : IntKind.i64.wrap (2 + (n : Int)) = 2 + (n : Int) := by rw [IntKind.wrap_i64]; omega
  have hc0 : W1.cell? ⟨w.heap.size, 0, none⟩ = some (.int .u8 0) := by simp [World.cell?, hr1, List.replicate_succ]
  have hf0 : W1.frozen? ⟨w.heap.size, 0, none⟩ = false := frozen_of_row _ _ _ _ _ hr1
  have hr2 := fun v => heap_setCell_same W1 w.heap.size 0 _ 5 v hr1
  have hc1 : ∀ v, (W1.setCell ⟨w.heap.size, 0, none⟩ v).cell? ⟨w.heap.size, 1, none⟩ = some (.int .u8 0) := fun v => by simp [World.cell?, hr2 v, List.replicate_succ]
  have hf1 : ∀ v, (W1.setCell ⟨w.heap.size, 0, none⟩ v).frozen? ⟨w.heap.size, 1, none⟩ = false := fun v => frozen_of_row _ _ _ _ _ (hr2 v)
  have hr3 := fun v u => heap_setCell_same _ w.heap.size 1 _ 5 u (hr2 v)
  have hB3 : ∀ v u, Below w.heap.size w ((W1.setCell ⟨w.heap.size, 0, none⟩ v).setCell ⟨w.heap.size, 1, none⟩ u) := fun v u => (hB1.setCell (p := ⟨w.heap.size, 0, none⟩) (Nat.le_refl _) v).setCell (p := ⟨w.heap.size, 1, none⟩) (Nat.le_refl _) u
  obtain ⟨a, rfl, hsrc'⟩ := hsrc (by omega)
  obtain ⟨W3, hcp, hB4, hr4⟩ : ∃ W3, (Builtin.copy_ #[59, 59] 3 #[.slice (some ⟨w.heap.size, 2, none⟩) n n, .slice (some a) n c]).run Tryd.prog ((W1.setCell ⟨w.heap.size, 0, none⟩ (.int .u8 ((n : Int) / 256))).setCell ⟨w.heap.size, 1, none⟩ (.int .u8 ((n : Int) % 256))) = .ok (goInt n) W3 ∧
      Below w.heap.size w W3 ∧ W3.heap[w.heap.size]? = some (.cells (hdr n ++ cs).toArray 5 (0, 0)) := by
    have h := run_copy_row (P := Tryd.prog) _ 59 59 3 5 w.heap.size 2 n n a n c _ 5 cs hts (by rw [hi0]; simp [hs0]) (hr3 (.int .u8 ((n : Int) / 256)) (.int .u8 ((n : Int) % 256))) (by simp [hn])
      (fun j v hj => by rw [cell_below (hB3 _ _) (a := a.add j) (hsrc' j v hj).1]; exact (hsrc' j v hj).2) (by simp; omega) h1
    rw [hn] at h
    refine ⟨_, h, below_setRow (hB3 _ _) (Nat.le_refl _) _, ?_⟩
    have hl : ((List.replicate (n + 2) (Value.int .u8 0)).toArray.setIfInBounds 0 (.int .u8 ((n : Int) / 256))).setIfInBounds 1 (.int .u8 ((n : Int) % 256)) = (.int .u8 ((n : Int) / 256) :: .int .u8 ((n : Int) % 256) :: List.replicate n (Value.int .u8 0)).toArray := by
      rw [List.replicate_succ, List.replicate_succ]; rfl
    rw [setRow_heap _ _ _ _ 5 (0, 0) (hr3 _ _), hl]
    have e1 : (n : Int) / 256 = ((n / 256 % 256 : Nat) : Int) := by omega
    have e2 : (n : Int) % 256 = ((n % 256 : Nat) : Int) := by omega
    have e3 : List.drop (2 + n) (.int .u8 ((n : Int) / 256) :: .int .u8 ((n : Int) % 256) :: List.replicate n (Value.int .u8 0)) = [] := List.drop_eq_nil_of_le (by simp; omega)
    show some (Obj.cells (List.toArray (List.take 2 (.int .u8 ((n : Int) / 256) :: .int .u8 ((n : Int) % 256) :: List.replicate n (Value.int .u8 0)) ++ cs ++ List.drop (2 + n) (.int .u8 ((n : Int) / 256) :: .int .u8 ((n : Int) % 256) :: List.replicate n (Value.int .u8 0)))) 5 (0, 0)) = _
    rw [e3, List.append_nil, e1, e2]
    rfl
  go_enter Tryd.func55, Tryd.ntmps55
  go_wp2_with (first | (at_make; (refine wpList_make_run _ rfl _ _ _ rfl _ _ rfl rfl _ _ hmk ?_)) | (with_reducible refine wpList_copy_run _ rfl _ _ _ _ rfl _ _ rfl rfl _ _ hcp ?_))
  all_goals (go_ret2; exact .inr (.inr ⟨by omega, by omega, rfl, hB4, hr4⟩))
theorem two_of {B : Bd} {w : World} {pr : Nat → Nat → Prop} {a b : AV} {u v : Value} (h1 : OwnC B w pr a u none) (h2 : OwnC B w pr b v none) : ∀ (i : Nat) (x : AV) (y : Value) (c : Option Nat), [a, b][i]? = some x → [u, v][i]? = some y → [none, none][i]? = some c → OwnC B w pr x y c := by
  intro i x y c p q r
  match i with
  | 0 => cases p; cases q; cases r; exact h1
  | 1 => cases p; cases q; cases r; exact h2
  | i + 2 => simp at p
theorem none_two : ∀ (i j k : Nat), ([none, none] : List (Option Nat))[i]? = some (some k) → ([none, none] : List (Option Nat))[j]? = some (some k) → i = j := by
  intro i j k p
  match i with
  | 0 => cases p
  | 1 => cases p
  | i + 2 => simp at p
def putF (b : List Int) : List Int × Int := if b.length = 0 then ([], 2) else if 2048 < b.length then ([], 4) else (((b.length / 256 % 256 : Nat) : Int) :: ((b.length % 256 : Nat) : Int) :: b, 0)
theorem calls (b : List Int) (a : AV) (ha : a = .sl (.int .u8) b ∨ (a = .nilsl ∧ b = [])) : CallOK Tryd.prog 55 [a] (.tup [.sl (.int .u8) (putF b).1, .int .i64 (putF b).2]) := by
  refine .inl ⟨rfl, ⟨_, Tryd.func55, rfl, rfl⟩, fun w pr us hlt hgl hal => ?_⟩
  obtain ⟨u1, rfl⟩ : ∃ u1, us = [u1] := by
    have := hal.len
    match us, this with
    | [u1], _ => exact ⟨u1, rfl⟩
  obtain ⟨p1, _⟩ := hal
  have hTR : TR w pr (.slice (.int .u8)) b [u1] := by
    rcases ha with rfl | ⟨rfl, rfl⟩
    · rcases p1 with h | ⟨cs, us, h, _⟩
      · exact h
      · cases h
    · have e : u1 = .slice none 0 0 := by
        rcases p1 with h | ⟨cs, us, h, _⟩
        · exact h
        · cases h
      rw [e]; exact TR_nilsl _ _ _
  obtain ⟨ad, c, e, hcap, hel⟩ := hTR
  cases e
  have hget : ∀ (j : Nat) (v : Value), (b.map (Value.int .u8))[j]? = some v → ∃ x, b[j]? = some x ∧ v = .int .u8 x := fun j v hj => by
    rw [List.getElem?_map] at hj
    cases hx : b[j]? with
    | none => rw [hx] at hj; cases hj
    | some x => rw [hx] at hj; exact ⟨x, rfl, by cases hj; rfl⟩
  refine (walk ad b.length c (b.map (Value.int .u8)) (by simp) w (fun h0 => ?_) (fun v hv => ?_)).mono ?_
  · obtain ⟨a0, vs0, ea, _⟩ := hel 0 b[0] (List.getElem?_eq_getElem h0)
    refine ⟨a0, ea, fun j v hj => ?_⟩
    obtain ⟨x, hx, rfl⟩ := hget j v hj
    obtain ⟨a1, vs1, ea1, hl1, hc1, hv1⟩ := hel j x hx
    rw [ea] at ea1
    cases ea1
    have hv1 : vs1 = [.int .u8 x] := hv1
    have := hc1 0 (.int .u8 x) (by rw [hv1]; rfl)
    rw [Nat.add_zero, show (Ty.int .u8).size = 1 from rfl, Nat.mul_one] at this
    exact ⟨hlt _ _ this.2, this.1⟩
  · obtain ⟨x, _, rfl⟩ := List.mem_map.1 hv
    rfl
  rintro e w' (⟨h0, rfl, rfl⟩ | ⟨h0, rfl, rfl⟩ | ⟨h0, h1, rfl, hB, hr⟩)
  · have ep : putF b = ([], 2) := by unfold putF; rw [if_pos h0]
    rw [ep]
    exact ⟨_, pr, rfl, Below.refl _ _, fun _ _ _ => Iff.rfl, hlt, [.slice none 0 0, .int .i64 2], [none, none], rfl, rfl, rfl, two_of ⟨.inl (TR_nilsl _ _ _), rfl⟩ ⟨.inl rfl, rfl⟩, none_two⟩
  · have ep : putF b = ([], 4) := by unfold putF; rw [if_neg (by omega), if_pos h0]
    rw [ep]
    exact ⟨_, pr, rfl, Below.refl _ _, fun _ _ _ => Iff.rfl, hlt, [.slice none 0 0, .int .i64 4], [none, none], rfl, rfl, rfl, two_of ⟨.inl (TR_nilsl _ _ _), rfl⟩ ⟨.inl rfl, rfl⟩, none_two⟩
  · have ep : putF b = (((b.length / 256 % 256 : Nat) : Int) :: ((b.length % 256 : Nat) : Int) :: b, 0) := by unfold putF; rw [if_neg (by omega), if_neg (by omega)]
    have hs' : w.heap.size < w'.heap.size := (Array.getElem?_eq_some_iff.1 hr).1
    rw [ep]
    refine ⟨_, fun k o => pr k o ∨ k = w.heap.size, rfl, hB, fun k o hk => ⟨fun h => h.elim id fun h => absurd h (by omega), .inl⟩, fun k o h => h.elim (fun h => Nat.lt_of_lt_of_le (hlt _ _ h) hB.size) fun h => by omega,
      [.slice (some ⟨w.heap.size, 0, none⟩) (b.length + 2) (b.length + 2), .int .i64 0], [none, none], rfl, rfl, rfl, two_of ⟨.inl ⟨some ⟨w.heap.size, 0, none⟩, b.length + 2, rfl, ⟨Nat.le_refl _, fun h => by cases h⟩, fun j x hj => ?_⟩, rfl⟩ ⟨.inl rfl, rfl⟩, none_two⟩
    refine ⟨_, [.int .u8 x], rfl, rfl, fun i v hi => ?_, rfl⟩
    match i, hi with
    | 0, hi =>
      cases hi
      rw [Nat.add_zero, show (Ty.int .u8).size = 1 from rfl, Nat.mul_one]
      refine ⟨?_, .inr (by rw [addr_add])⟩
      have e : (hdr b.length ++ b.map (Value.int .u8)) = (((b.length / 256 % 256 : Nat) : Int) :: ((b.length % 256 : Nat) : Int) :: b).map (Value.int .u8) := rfl
      have hj' : (((b.length / 256 % 256 : Nat) : Int) :: ((b.length % 256 : Nat) : Int) :: b)[j]? = some x := hj
      rw [addr_add, Nat.zero_add, cell_of hr, List.getElem?_toArray, e, List.getElem?_map, hj']
      rfl
def putS (b : List Int) : Option (List Int × Int × Unit) := sel (decide (b.length = 0)) (some ([], 2, ())) (sel (decide (2048 < b.length)) (some ([], 4, ())) (some (((b.length / 256 % 256 : Nat) : Int) :: ((b.length % 256 : Nat) : Int) :: b, 0, ())))
theorem putS_eq (b : List Int) : putS b = some ((putF b).1, (putF b).2, ()) := by
  unfold putS putF
  by_cases h : b.length = 0
  · rw [sel_pos h, if_pos h]
  · rw [sel_neg h, if_neg h]
    by_cases h2 : 2048 < b.length
    · rw [sel_pos h2, if_pos h2]
    · rw [sel_neg h2, if_neg h2]
end Go.Proofs.YtcgnmecbdleehaaDoor.FrameP
end
section
set_option linter.unusedVariables false
set_option linter.unusedSimpArgs false
namespace Go.Proofs.YtcgnmecbdleehaaDoor.G
open Go Go.Proofs.YtcgnmecbdleehaaDoor.Th
def til : List (Nat × TInfo) := [
  (3, ⟨.int .i64, 1, 8, (.int .i64), [.int .i64 0], [], [], true, false, [], []⟩),
  (4, ⟨.bool, 1, 1, .bool, [.bool false], [], [], true, false, [], []⟩),
  (5, ⟨.int .u8, 1, 1, (.int .u8), [.int .u8 0], [], [], true, false, [], []⟩),
  (9, ⟨.str, 1, 16, .str, [.str []], [], [], true, false, [], [(167, 8)]⟩),
  (28, ⟨.int .i64, 1, 8, (.int .i64), [.int .i64 0], [], [], true, false, [], []⟩),
  (32, ⟨.int .u32, 1, 4, (.int .u32), [.int .u32 0], [], [], true, false, [], []⟩),
  (34, ⟨.struct, 2, 24, (.st (.cons (.int .u32) (.cons .str .nil))), [.int .u32 0, .str []], [(0, 32), (1, 9)], [1, 1], true, true, [], []⟩),
  (35, ⟨.int .u64, 1, 8, (.int .u64), [.int .u64 0], [], [], true, false, [], []⟩),
  (50, ⟨.slice 59, 1, 24, (.slice (.slice (.int .u8))), [.nilsl], [], [], true, false, [], []⟩),
  (52, ⟨.struct, 6, 72, (.st (.cons (.int .i64) (.cons .str (.cons (.int .u64) (.cons (.int .u32) (.cons .str (.cons .str .nil))))))), [.int .i64 0, .str [], .int .u64 0, .int .u32 0, .str [], .str []], [(0, 3), (1, 9), (2, 35), (3, 32), (4, 9), (5, 9)], [1, 1, 1, 1, 1, 1], true, true, [], []⟩),
  (54, ⟨.other, 1, 8, .bool, [.nilfn], [], [], false, false, [], []⟩),
  (55, ⟨.slice 52, 1, 24, (.slice (.st (.cons (.int .i64) (.cons .str (.cons (.int .u64) (.cons (.int .u32) (.cons .str (.cons .str .nil)))))))), [.nilsl], [], [], true, false, [], []⟩),
  (57, ⟨.struct, 5, 56, (.st (.cons (.slice (.st (.cons (.int .i64) (.cons .str (.cons (.int .u64) (.cons (.int .u32) (.cons .str (.cons .str .nil)))))))) (.cons (.int .i64) (.cons (.int .i64) (.cons (.int .i64) (.cons (.int .i64) .nil)))))), [.nilsl, .int .i64 0, .int .i64 0, .int .i64 0, .int .i64 0], [(0, 55), (1, 3), (2, 3), (3, 3), (4, 3)], [1, 1, 1, 1, 1], true, false, [], []⟩),
  (59, ⟨.slice 5, 1, 24, (.slice (.int .u8)), [.nilsl], [], [], true, false, [], []⟩),
  (87, ⟨.slice 132, 1, 24, (.slice (.st (.cons (.int .i64) (.cons .str .nil)))), [.nilsl], [], [], true, false, [], []⟩),
  (89, ⟨.struct, 2, 40, (.st (.cons .str (.cons (.slice (.st (.cons (.int .i64) (.cons .str .nil)))) .nil))), [.str [], .nilsl], [(0, 9), (1, 87)], [1, 1], true, false, [], []⟩),
  (111, ⟨.struct, 3, 24, (.st (.cons (.int .i64) (.cons (.int .i64) (.cons (.int .i64) .nil)))), [.int .i64 0, .int .i64 0, .int .i64 0], [(0, 3), (1, 3), (2, 3)], [1, 1, 1], true, true, [], []⟩),
  (126, ⟨.struct, 2, 24, (.st (.cons (.st (.cons (.int .u32) (.cons .str .nil))) .nil)), [.int .u32 0, .str []], [(0, 34)], [2], true, true, [], []⟩),
  (130, ⟨.slice 3, 1, 24, (.slice (.int .i64)), [.nilsl], [], [], true, false, [], []⟩),
  (132, ⟨.struct, 2, 24, (.st (.cons (.int .i64) (.cons .str .nil))), [.int .i64 0, .str []], [(0, 3), (1, 9)], [1, 1], true, true, [], []⟩),
  (135, ⟨.struct, 2, 16, (.st (.cons (.int .u64) (.cons (.int .u64) .nil))), [.int .u64 0, .int .u64 0], [(0, 35), (1, 35)], [1, 1], true, true, [], []⟩),
  (156, ⟨.slice 111, 1, 24, (.slice (.st (.cons (.int .i64) (.cons (.int .i64) (.cons (.int .i64) .nil))))), [.nilsl], [], [], true, false, [], []⟩),
  (158, ⟨.struct, 2, 16, (.st (.cons (.int .i64) (.cons (.int .i64) .nil))), [.int .i64 0, .int .i64 0], [(0, 3), (1, 3)], [1, 1], true, true, [("paydesk/field.ahead", 159), ("paydesk/field.sized", 160)], []⟩),
  (160, ⟨.struct, 1, 8, (.st (.cons (.int .i64) .nil)), [.int .i64 0], [(0, 3)], [1], true, true, [("paydesk/field.ahead", 161), ("paydesk/field.sized", 162)], []⟩),
  (162, ⟨.struct, 2, 32, (.st (.cons (.slice (.int .u8)) (.cons .bool .nil))), [.nilsl, .bool false], [(0, 59), (1, 4)], [1, 1], true, false, [], []⟩)
]
noncomputable def TI : TEnv := tiOf til
theorem hT : TIok Tryd.prog TI := TIok.of (by kernel_rfl)
theorem hm : Tryd.prog.follows .mixedOrders = true := rfl
noncomputable def O_0 (_ : Nat) : Orc := fun _ _ _ _ => none
theorem ok_O_0 (k : Nat) : OrcOK (O_0 k) (CallOK Tryd.prog) := orc_none
noncomputable def c105 : Code := Tryd.f105.body.getD .skip
noncomputable def mi105 : Msk := ⟨[(.tmp 0, .val (.int .i64))], []⟩
noncomputable def mo105 : Msk := ⟨[(.tmp 2, .val .bool)], []⟩
noncomputable def L105 (k : Nat) : LOrc := fun _ _ _ _ => none
noncomputable def F105 (k : Nat) (v : mi105.den) : Option mo105.den := runF TI (O_0 k) (L105 k) c105 mi105 mo105 v
theorem lk105 (k : Nat) : LinksOK Tryd.prog 9 (L105 k) c105 := (And.intro True.intro (And.intro (And.intro True.intro (And.intro (And.intro True.intro (And.intro True.intro (And.intro True.intro (And.intro True.intro (And.intro True.intro (And.intro True.intro True.intro)))))) (And.intro (And.intro True.intro True.intro) True.intro))) (And.intro True.intro True.intro)))
theorem fn105 (k : Nat) (args : List AV) (x : mi105.den) (r : mo105.den) (h1 : args.length = mi105.items.length) (h2 : mi105.dec (Th.start args) = some x) (h3 : F105 k x = some r) : CallOK Tryd.prog 105 args (ansOf (outL mo105.items r)) :=
  call_of hm hT (ok_O_0 k) (fn := Tryd.f105) (c := c105) Tryd.func105 rfl rfl rfl (lk105 k) rfl (by decide) rfl h1 h2 h3
noncomputable def O105 (k : Nat) : Orc := fun R f args K => bif Nat.beq f 105 then callF mi105 mo105 (F105 k) args K else O_0 k R f args K
theorem ok_O105 (k : Nat) : OrcOK (O105 k) (CallOK Tryd.prog) := orc_add (fn105 k) (ok_O_0 k)
noncomputable def c72 : Code := Tryd.f72.body.getD .skip
noncomputable def mi72 : Msk := ⟨[(.tmp 0, .val .str)], []⟩
noncomputable def mo72 : Msk := ⟨[(.tmp 2, .val .bool)], []⟩
noncomputable def L72_g0 (k : Nat) : LOrc := fun _ _ _ _ => none
noncomputable def b72_g0 : Code := (findScope 0 c72).getD .skip
noncomputable def l72_g0 : List (X × Msk) := [(.goto 0, ⟨[(.tmp 0, .val .str), (.tmp 3, .val (.int .i64))], []⟩)]
noncomputable def x72_g0 : List (X × Msk) := [(.ret, ⟨[(.tmp 2, .val .bool)], []⟩)]
noncomputable def F72_g0 (k : Nat) : Nat → denE l72_g0 → Option (denE x72_g0)
  | 0, _ => none
  | j + 1, v => pass TI (O105 k) (L72_g0 k) b72_g0 l72_g0 x72_g0 (F72_g0 k j) v
theorem lk72_g0_ (k : Nat) : LinksOK Tryd.prog 22 (L72_g0 k) b72_g0 := (And.intro True.intro (And.intro True.intro (And.intro (And.intro True.intro (And.intro (And.intro True.intro True.intro) True.intro)) (And.intro (And.intro True.intro (And.intro (And.intro True.intro True.intro) True.intro)) (And.intro True.intro True.intro)))))
noncomputable def L72 (k : Nat) : LOrc := fun R lk s K => match lk with
  | .loop r => none
  | .label l => (match findLabel b72_g0 l with | some _ => linkJ l72_g0 x72_g0 (F72_g0 k k) l s K | none => none)
theorem lk_L72_g0 (k : Nat) : JumpsOK Tryd.prog 22 (L72 k) b72_g0 := jumpsOK_of hm hT (ok_O105 k) (fun _ _ _ h => h) rfl (lk72_g0_ k) rfl rfl (F := F72_g0 k) (fun _ => rfl) (fun _ _ => rfl) (n := k) fun R l s K rest hf => by
  show (match findLabel b72_g0 l with | some _ => linkJ l72_g0 x72_g0 (F72_g0 k k) l s K | none => none) = _
  rw [hf]
noncomputable def F72 (k : Nat) (v : mi72.den) : Option mo72.den := runF TI (O105 k) (L72 k) c72 mi72 mo72 v
theorem lk72 (k : Nat) : LinksOK Tryd.prog 22 (L72 k) c72 := (And.intro True.intro (And.intro (lk_L72_g0 k) (And.intro True.intro (And.intro True.intro (And.intro (And.intro True.intro (And.intro (And.intro True.intro True.intro) True.intro)) (And.intro (And.intro True.intro (And.intro (And.intro True.intro True.intro) True.intro)) (And.intro True.intro True.intro)))))))
theorem fn72 (k : Nat) (args : List AV) (x : mi72.den) (r : mo72.den) (h1 : args.length = mi72.items.length) (h2 : mi72.dec (Th.start args) = some x) (h3 : F72 k x = some r) : CallOK Tryd.prog 72 args (ansOf (outL mo72.items r)) :=
  call_of hm hT (ok_O105 k) (fn := Tryd.f72) (c := c72) Tryd.func72 rfl rfl rfl (lk72 k) rfl (by decide) rfl h1 h2 h3
noncomputable def O72 (k : Nat) : Orc := fun R f args K => bif Nat.beq f 72 then callF mi72 mo72 (F72 k) args K else O105 k R f args K
theorem ok_O72 (k : Nat) : OrcOK (O72 k) (CallOK Tryd.prog) := orc_add (fn72 k) (ok_O105 k)
noncomputable def F73 (k : Nat) (v : List UInt8 × Bool × Unit) : Option (Int × Unit) := sel (decide (v.1.length ≤ 9223372036854775807)) (some ((Sum.sumOf (Sum.backs (toBytes v.1)) v.2.1).1, ())) none
noncomputable def O73 (k : Nat) : Orc := fun R f args K => bif Nat.beq f 73 then (match args with | [.str b, .bool t] => ocall (F73 k (b, t, ())) fun r => K (.int .i64 r.1) | _ => none) else O72 k R f args K
theorem ok_O73 (k : Nat) : OrcOK (O73 k) (CallOK Tryd.prog) := by
  intro R f args K r h
  unfold O73 at h
  cases hb : Nat.beq f 73 with
  | false => rw [hb] at h; exact ok_O72 k R f args K r h
  | true =>
    rw [hb] at h
    rw [Nat.eq_of_beq_eq_true hb]
    simp only [cond_true] at h
    split at h
    · rename_i b t
      unfold F73 at h
      by_cases hl : b.length ≤ 9223372036854775807
      · rw [sel_pos hl] at h
        exact ⟨_, Sum.fn73 b hl t, h⟩
      · rw [sel_neg hl] at h; cases h
    · cases h
noncomputable def c39 : Code := Tryd.f39.body.getD .skip
noncomputable def mi39 : Msk := ⟨[(.tmp 0, .val .str)], []⟩
noncomputable def mo39 : Msk := ⟨[(.tmp 2, .val .bool)], []⟩
noncomputable def L39 (k : Nat) : LOrc := fun _ _ _ _ => none
noncomputable def F39 (k : Nat) (v : mi39.den) : Option mo39.den := runF TI (O73 k) (L39 k) c39 mi39 mo39 v
theorem lk39 (k : Nat) : LinksOK Tryd.prog 11 (L39 k) c39 := (And.intro True.intro (And.intro True.intro True.intro))
theorem fn39 (k : Nat) (args : List AV) (x : mi39.den) (r : mo39.den) (h1 : args.length = mi39.items.length) (h2 : mi39.dec (Th.start args) = some x) (h3 : F39 k x = some r) : CallOK Tryd.prog 39 args (ansOf (outL mo39.items r)) :=
  call_of hm hT (ok_O73 k) (fn := Tryd.f39) (c := c39) Tryd.func39 rfl rfl rfl (lk39 k) rfl (by decide) rfl h1 h2 h3
noncomputable def O39 (k : Nat) : Orc := fun R f args K => bif Nat.beq f 39 then callF mi39 mo39 (F39 k) args K else O73 k R f args K
theorem ok_O39 (k : Nat) : OrcOK (O39 k) (CallOK Tryd.prog) := orc_add (fn39 k) (ok_O73 k)
noncomputable def c82 : Code := Tryd.f82.body.getD .skip
noncomputable def mi82 : Msk := ⟨[(.tmp 0, .val (.int .i64))], []⟩
noncomputable def mo82 : Msk := ⟨[(.tmp 2, .val .str)], []⟩
noncomputable def L82 (k : Nat) : LOrc := fun _ _ _ _ => none
noncomputable def F82 (k : Nat) (v : mi82.den) : Option mo82.den := runF TI (O39 k) (L82 k) c82 mi82 mo82 v
theorem lk82 (k : Nat) : LinksOK Tryd.prog 12 (L82 k) c82 := (And.intro True.intro (And.intro (And.intro True.intro (And.intro (And.intro True.intro True.intro) True.intro)) (And.intro True.intro True.intro)))
theorem fn82 (k : Nat) (args : List AV) (x : mi82.den) (r : mo82.den) (h1 : args.length = mi82.items.length) (h2 : mi82.dec (Th.start args) = some x) (h3 : F82 k x = some r) : CallOK Tryd.prog 82 args (ansOf (outL mo82.items r)) :=
  call_of hm hT (ok_O39 k) (fn := Tryd.f82) (c := c82) Tryd.func82 rfl rfl rfl (lk82 k) rfl (by decide) rfl h1 h2 h3
noncomputable def O82 (k : Nat) : Orc := fun R f args K => bif Nat.beq f 82 then callF mi82 mo82 (F82 k) args K else O39 k R f args K
theorem ok_O82 (k : Nat) : OrcOK (O82 k) (CallOK Tryd.prog) := orc_add (fn82 k) (ok_O39 k)
noncomputable def c77 : Code := Tryd.f77.body.getD .skip
noncomputable def mi77 : Msk := ⟨[(.tmp 0, .val (.int .u64)), (.tmp 1, .val (.int .i64))], []⟩
noncomputable def mo77 : Msk := ⟨[(.tmp 4, .val .str), (.tmp 5, .val (.int .i64))], []⟩
noncomputable def L77_5 (k : Nat) : LOrc := fun _ _ _ _ => none
noncomputable def b77_5 : Code := (findLoop 5 c77).getD .skip
noncomputable def m77_5 : Msk := ⟨[(.tmp 0, .val (.int .u64)), (.tmp 6, .row false (.int .u8)), (.tmp 7, .val (.int .i64))], []⟩
noncomputable def x77_5 : List (X × Msk) := [(.exit 0, ⟨[(.tmp 0, .val (.int .u64)), (.tmp 6, .row false (.int .u8))], []⟩)]
noncomputable def F77_5 (k : Nat) : Nat → m77_5.den → Option (denE x77_5)
  | 0, _ => none
  | j + 1, v => round TI (O82 k) (L77_5 k) b77_5 m77_5 x77_5 (F77_5 k j) v
theorem lk77_5_ (k : Nat) : LinksOK Tryd.prog 35 (L77_5 k) b77_5 := (And.intro (And.intro True.intro (And.intro True.intro True.intro)) (And.intro (And.intro True.intro True.intro) True.intro))
noncomputable def L77 (k : Nat) : LOrc := fun R lk s K => match lk with
  | .loop r => bif Nat.beq r 5 then link m77_5 x77_5 (F77_5 k k) s K else none
  | .label l => none
theorem lk_L77_5 (k : Nat) : LoopOK Tryd.prog 35 (L77 k) b77_5 := loopOK_of hm hT (ok_O82 k) (fun _ _ _ h => h) rfl (lk77_5_ k) rfl rfl (F := F77_5 k) (fun _ => rfl) (fun _ _ => rfl) (n := k) fun _ _ _ => rfl
noncomputable def F77 (k : Nat) (v : mi77.den) : Option mo77.den := runF TI (O82 k) (L77 k) c77 mi77 mo77 v
theorem lk77 (k : Nat) : LinksOK Tryd.prog 35 (L77 k) c77 := (And.intro True.intro (And.intro (And.intro True.intro (And.intro (And.intro True.intro True.intro) True.intro)) (And.intro True.intro (And.intro (And.intro True.intro (lk_L77_5 k)) (And.intro (And.intro True.intro (And.intro (And.intro True.intro True.intro) True.intro)) (And.intro True.intro True.intro))))))
theorem fn77 (k : Nat) (args : List AV) (x : mi77.den) (r : mo77.den) (h1 : args.length = mi77.items.length) (h2 : mi77.dec (Th.start args) = some x) (h3 : F77 k x = some r) : CallOK Tryd.prog 77 args (ansOf (outL mo77.items r)) :=
  call_of hm hT (ok_O82 k) (fn := Tryd.f77) (c := c77) Tryd.func77 rfl rfl rfl (lk77 k) rfl (by decide) rfl h1 h2 h3
noncomputable def O77 (k : Nat) : Orc := fun R f args K => bif Nat.beq f 77 then callF mi77 mo77 (F77 k) args K else O82 k R f args K
theorem ok_O77 (k : Nat) : OrcOK (O77 k) (CallOK Tryd.prog) := orc_add (fn77 k) (ok_O82 k)
noncomputable def c83 : Code := Tryd.f83.body.getD .skip
noncomputable def mi83 : Msk := ⟨[(.tmp 0, .val (.st (.cons (.int .i64) (.cons .str (.cons (.int .u64) (.cons (.int .u32) (.cons .str (.cons .str .nil))))))))], []⟩
noncomputable def mo83 : Msk := ⟨[(.tmp 2, .row false (.st (.cons (.int .i64) (.cons .str .nil))))], []⟩
noncomputable def L83 (k : Nat) : LOrc := fun _ _ _ _ => none
noncomputable def F83 (k : Nat) (v : mi83.den) : Option mo83.den := runF TI (O77 k) (L83 k) c83 mi83 mo83 v
theorem lk83 (k : Nat) : LinksOK Tryd.prog 57 (L83 k) c83 := (And.intro True.intro (And.intro True.intro (And.intro True.intro (And.intro (And.intro True.intro (And.intro (And.intro True.intro True.intro) True.intro)) (And.intro True.intro (And.intro True.intro (And.intro (And.intro True.intro (And.intro True.intro True.intro)) (And.intro True.intro True.intro))))))))
theorem fn83 (k : Nat) (args : List AV) (x : mi83.den) (r : mo83.den) (h1 : args.length = mi83.items.length) (h2 : mi83.dec (Th.start args) = some x) (h3 : F83 k x = some r) : CallOK Tryd.prog 83 args (ansOf (outL mo83.items r)) :=
  call_of hm hT (ok_O77 k) (fn := Tryd.f83) (c := c83) Tryd.func83 rfl rfl rfl (lk83 k) rfl (by decide) rfl h1 h2 h3
noncomputable def O83 (k : Nat) : Orc := fun R f args K => bif Nat.beq f 83 then callF mi83 mo83 (F83 k) args K else O77 k R f args K
theorem ok_O83 (k : Nat) : OrcOK (O83 k) (CallOK Tryd.prog) := orc_add (fn83 k) (ok_O77 k)
noncomputable def c74 : Code := Tryd.f74.body.getD .skip
noncomputable def mi74 : Msk := ⟨[(.tmp 0, .val (.int .i64))], []⟩
noncomputable def mo74 : Msk := ⟨[(.res 2, .val (.st (.cons (.int .i64) (.cons (.int .i64) (.cons (.int .i64) .nil))))), (.tmp 3, .val .bool)], []⟩
noncomputable def L74_2 (k : Nat) : LOrc := fun _ _ _ _ => none
noncomputable def b74_2 : Code := (findLoop 2 c74).getD .skip
noncomputable def m74_2 : Msk := ⟨[(.tmp 0, .val (.int .i64)), (.tmp 2, .ptr 2 0), (.tmp 21, .row false (.st (.cons (.int .i64) (.cons (.int .i64) (.cons (.int .i64) .nil))))), (.tmp 22, .val (.int .i64)), (.tmp 23, .val (.int .i64)), (.cell 2 0, .val (.int .i64)), (.cell 2 1, .val (.int .i64)), (.cell 2 2, .val (.int .i64))], [(2, 3)]⟩
noncomputable def x74_2 : List (X × Msk) := [(.exit 0, ⟨[(.tmp 2, .ptr 2 0), (.cell 2 0, .val (.int .i64)), (.cell 2 1, .val (.int .i64)), (.cell 2 2, .val (.int .i64))], [(2, 3)]⟩), (.ret, ⟨[(.tmp 2, .ptr 2 0), (.tmp 3, .val .bool), (.cell 2 0, .val (.int .i64)), (.cell 2 1, .val (.int .i64)), (.cell 2 2, .val (.int .i64))], [(2, 3)]⟩)]
noncomputable def F74_2 (k : Nat) : Nat → m74_2.den → Option (denE x74_2)
  | 0, _ => none
  | j + 1, v => round TI (O83 k) (L74_2 k) b74_2 m74_2 x74_2 (F74_2 k j) v
theorem lk74_2_ (k : Nat) : LinksOK Tryd.prog 34 (L74_2 k) b74_2 := (And.intro True.intro (And.intro (And.intro True.intro True.intro) (And.intro (And.intro True.intro (And.intro True.intro (And.intro (And.intro True.intro True.intro) True.intro))) True.intro)))
noncomputable def L74 (k : Nat) : LOrc := fun R lk s K => match lk with
  | .loop r => bif Nat.beq r 2 then link m74_2 x74_2 (F74_2 k k) s K else none
  | .label l => none
theorem lk_L74_2 (k : Nat) : LoopOK Tryd.prog 34 (L74 k) b74_2 := loopOK_of hm hT (ok_O83 k) (fun _ _ _ h => h) rfl (lk74_2_ k) rfl rfl (F := F74_2 k) (fun _ => rfl) (fun _ _ => rfl) (n := k) fun _ _ _ => rfl
noncomputable def F74 (k : Nat) (v : mi74.den) : Option mo74.den := runF TI (O83 k) (L74 k) c74 mi74 mo74 v
theorem lk74 (k : Nat) : LinksOK Tryd.prog 34 (L74 k) c74 := (And.intro True.intro (And.intro (And.intro True.intro (lk_L74_2 k)) (And.intro True.intro True.intro)))
theorem fn74 (k : Nat) (args : List AV) (x : mi74.den) (r : mo74.den) (h1 : args.length = mi74.items.length) (h2 : mi74.dec (Th.start args) = some x) (h3 : F74 k x = some r) : CallOK Tryd.prog 74 args (ansOf (outL mo74.items r)) :=
  call_of hm hT (ok_O83 k) (fn := Tryd.f74) (c := c74) Tryd.func74 rfl rfl rfl (lk74 k) rfl (by decide) rfl h1 h2 h3
noncomputable def O74 (k : Nat) : Orc := fun R f args K => bif Nat.beq f 74 then callF mi74 mo74 (F74 k) args K else O83 k R f args K
theorem ok_O74 (k : Nat) : OrcOK (O74 k) (CallOK Tryd.prog) := orc_add (fn74 k) (ok_O83 k)
noncomputable def c75 : Code := Tryd.f75.body.getD .skip
noncomputable def mi75 : Msk := ⟨[(.tmp 0, .val (.st (.cons (.int .i64) (.cons (.int .i64) (.cons (.int .i64) .nil)))))], []⟩
noncomputable def mo75 : List Msk := [⟨[(.tmp 2, .val (.ifc 158 (.st (.cons (.int .i64) (.cons (.int .i64) .nil)))))], []⟩, ⟨[(.tmp 2, .val (.ifc 160 (.st (.cons (.int .i64) .nil))))], []⟩]
noncomputable def L75 (k : Nat) : LOrc := fun _ _ _ _ => none
noncomputable def F75 (k : Nat) (v : mi75.den) : Option (denA mo75) := runA TI (O74 k) (L75 k) c75 mi75 mo75 v
theorem lk75 (k : Nat) : LinksOK Tryd.prog 22 (L75 k) c75 := (And.intro True.intro (And.intro (And.intro True.intro (And.intro (And.intro True.intro (And.intro True.intro True.intro)) (And.intro (And.intro True.intro True.intro) (And.intro True.intro (And.intro (And.intro True.intro True.intro) True.intro))))) (And.intro True.intro True.intro)))
theorem fn75 (k : Nat) (args : List AV) (x : mi75.den) (r : (denA mo75)) (h1 : args.length = mi75.items.length) (h2 : mi75.dec (Th.start args) = some x) (h3 : F75 k x = some r) : CallOK Tryd.prog 75 args (valA mo75 r) :=
  call_ofA hm hT (ok_O74 k) (fn := Tryd.f75) (c := c75) Tryd.func75 rfl rfl rfl (lk75 k) rfl (by decide) rfl h1 h2 h3
noncomputable def O75 (k : Nat) : Orc := fun R f args K => bif Nat.beq f 75 then callA mi75 mo75 (F75 k) args K else O74 k R f args K
theorem ok_O75 (k : Nat) : OrcOK (O75 k) (CallOK Tryd.prog) := orc_addA (fn75 k) (ok_O74 k)
noncomputable def c160 : Code := Tryd.f160.body.getD .skip
noncomputable def mi160 : Msk := ⟨[(.tmp 0, .val (.st (.cons (.int .i64) (.cons (.int .i64) .nil)))), (.tmp 1, .val (.int .i64))], []⟩
noncomputable def mo160 : Msk := ⟨[(.tmp 4, .val .bool)], []⟩
noncomputable def L160 (k : Nat) : LOrc := fun _ _ _ _ => none
noncomputable def F160 (k : Nat) (v : mi160.den) : Option mo160.den := runF TI (O75 k) (L160 k) c160 mi160 mo160 v
theorem lk160 (k : Nat) : LinksOK Tryd.prog 13 (L160 k) c160 := (And.intro True.intro (And.intro True.intro True.intro))
theorem fn160 (k : Nat) (args : List AV) (x : mi160.den) (r : mo160.den) (h1 : args.length = mi160.items.length) (h2 : mi160.dec (Th.start args) = some x) (h3 : F160 k x = some r) : CallOK Tryd.prog 160 args (ansOf (outL mo160.items r)) :=
  call_of hm hT (ok_O75 k) (fn := Tryd.f160) (c := c160) Tryd.func160 rfl rfl rfl (lk160 k) rfl (by decide) rfl h1 h2 h3
noncomputable def O160 (k : Nat) : Orc := fun R f args K => bif Nat.beq f 160 then callF mi160 mo160 (F160 k) args K else O75 k R f args K
theorem ok_O160 (k : Nat) : OrcOK (O160 k) (CallOK Tryd.prog) := orc_add (fn160 k) (ok_O75 k)
noncomputable def c162 : Code := Tryd.f162.body.getD .skip
noncomputable def mi162 : Msk := ⟨[(.tmp 0, .val (.st (.cons (.int .i64) .nil))), (.tmp 1, .val (.int .i64))], []⟩
noncomputable def mo162 : Msk := ⟨[(.tmp 4, .val .bool)], []⟩
noncomputable def L162 (k : Nat) : LOrc := fun _ _ _ _ => none
noncomputable def F162 (k : Nat) (v : mi162.den) : Option mo162.den := runF TI (O160 k) (L162 k) c162 mi162 mo162 v
theorem lk162 (k : Nat) : LinksOK Tryd.prog 9 (L162 k) c162 := (And.intro True.intro (And.intro True.intro True.intro))
theorem fn162 (k : Nat) (args : List AV) (x : mi162.den) (r : mo162.den) (h1 : args.length = mi162.items.length) (h2 : mi162.dec (Th.start args) = some x) (h3 : F162 k x = some r) : CallOK Tryd.prog 162 args (ansOf (outL mo162.items r)) :=
  call_of hm hT (ok_O160 k) (fn := Tryd.f162) (c := c162) Tryd.func162 rfl rfl rfl (lk162 k) rfl (by decide) rfl h1 h2 h3
noncomputable def O162 (k : Nat) : Orc := fun R f args K => bif Nat.beq f 162 then callF mi162 mo162 (F162 k) args K else O160 k R f args K
theorem ok_O162 (k : Nat) : OrcOK (O162 k) (CallOK Tryd.prog) := orc_add (fn162 k) (ok_O160 k)
noncomputable def F76 (k : Nat) (v : (Int × Int × Int × Unit) × List UInt8 × Unit) : Option (Bool × Unit) := sel (decide (v.2.1.length ≤ 9223372036854775807)) (ocall (α := Bool × Unit) (F72 k ((v.2.1, ()) : List UInt8 × Unit)) fun r => some (Signs.signsOf v.1.2.1 r.1 v.2.1, ())) none
noncomputable def O76 (k : Nat) : Orc := fun R f args K => bif Nat.beq f 76 then (match args with | [.agg [.int .i64 a, .int .i64 b, .int .i64 c], .str s] => ocall (F76 k ((a, b, c, ()), s, ())) fun r => K (.bool r.1) | _ => none) else O162 k R f args K
theorem ok_O76 (k : Nat) : OrcOK (O76 k) (CallOK Tryd.prog) := by
  intro R f args K r h
  unfold O76 at h
  cases hb : Nat.beq f 76 with
  | false => rw [hb] at h; exact ok_O162 k R f args K r h
  | true =>
    rw [hb] at h
    rw [Nat.eq_of_beq_eq_true hb]
    simp only [cond_true] at h
    split at h
    · rename_i a b c s
      obtain ⟨y, hy, h⟩ := obind_some h
      unfold F76 at hy
      by_cases hl : s.length ≤ 9223372036854775807
      · rw [sel_pos hl] at hy
        obtain ⟨d, hd, hy⟩ := obind_some hy
        cases hy
        exact ⟨_, Signs.fn76 a b c s hl d.1 (fn72 k [.str s] ((s, ()) : List UInt8 × Unit) d rfl rfl hd), h⟩
      · rw [sel_neg hl] at hy; cases hy
    · cases h
noncomputable def c40 : Code := Tryd.f40.body.getD .skip
noncomputable def mi40 : Msk := ⟨[(.tmp 0, .val (.int .i64)), (.tmp 1, .val .str)], []⟩
noncomputable def mo40 : Msk := ⟨[(.tmp 4, .val .bool)], []⟩
noncomputable def L40 (k : Nat) : LOrc := fun _ _ _ _ => none
noncomputable def F40 (k : Nat) (v : mi40.den) : Option mo40.den := runF TI (O76 k) (L40 k) c40 mi40 mo40 v
theorem lk40 (k : Nat) : LinksOK Tryd.prog 25 (L40 k) c40 := (And.intro True.intro (And.intro True.intro (And.intro True.intro True.intro)))
theorem fn40 (k : Nat) (args : List AV) (x : mi40.den) (r : mo40.den) (h1 : args.length = mi40.items.length) (h2 : mi40.dec (Th.start args) = some x) (h3 : F40 k x = some r) : CallOK Tryd.prog 40 args (ansOf (outL mo40.items r)) :=
  call_of hm hT (ok_O76 k) (fn := Tryd.f40) (c := c40) Tryd.func40 rfl rfl rfl (lk40 k) rfl (by decide) rfl h1 h2 h3
noncomputable def O40 (k : Nat) : Orc := fun R f args K => bif Nat.beq f 40 then callF mi40 mo40 (F40 k) args K else O76 k R f args K
theorem ok_O40 (k : Nat) : OrcOK (O40 k) (CallOK Tryd.prog) := orc_add (fn40 k) (ok_O76 k)
noncomputable def c110 : Code := Tryd.f110.body.getD .skip
noncomputable def mi110 : Msk := ⟨[(.tmp 0, .val .str)], []⟩
noncomputable def mo110 : Msk := ⟨[(.tmp 2, .val .bool)], []⟩
noncomputable def L110 (k : Nat) : LOrc := fun _ _ _ _ => none
noncomputable def F110 (k : Nat) (v : mi110.den) : Option mo110.den := runF TI (O40 k) (L110 k) c110 mi110 mo110 v
theorem lk110 (k : Nat) : LinksOK Tryd.prog 12 (L110 k) c110 := (And.intro True.intro (And.intro (And.intro True.intro (And.intro (And.intro True.intro (And.intro True.intro (And.intro True.intro (And.intro True.intro (And.intro True.intro (And.intro True.intro (And.intro True.intro (And.intro True.intro (And.intro True.intro (And.intro True.intro (And.intro True.intro (And.intro True.intro True.intro)))))))))))) (And.intro (And.intro True.intro True.intro) True.intro))) (And.intro True.intro True.intro)))
theorem fn110 (k : Nat) (args : List AV) (x : mi110.den) (r : mo110.den) (h1 : args.length = mi110.items.length) (h2 : mi110.dec (Th.start args) = some x) (h3 : F110 k x = some r) : CallOK Tryd.prog 110 args (ansOf (outL mo110.items r)) :=
  call_of hm hT (ok_O40 k) (fn := Tryd.f110) (c := c110) Tryd.func110 rfl rfl rfl (lk110 k) rfl (by decide) rfl h1 h2 h3
noncomputable def O110 (k : Nat) : Orc := fun R f args K => bif Nat.beq f 110 then callF mi110 mo110 (F110 k) args K else O40 k R f args K
theorem ok_O110 (k : Nat) : OrcOK (O110 k) (CallOK Tryd.prog) := orc_add (fn110 k) (ok_O40 k)
noncomputable def c84 : Code := Tryd.f84.body.getD .skip
noncomputable def mi84 : Msk := ⟨[(.tmp 0, .val (.st (.cons .str (.cons (.slice (.st (.cons (.int .i64) (.cons .str .nil)))) .nil))))], []⟩
noncomputable def mo84 : Msk := ⟨[(.tmp 2, .val .bool)], []⟩
noncomputable def L84_3 (k : Nat) : LOrc := fun _ _ _ _ => none
noncomputable def b84_3 : Code := (findLoop 3 c84).getD .skip
noncomputable def m84_3 : Msk := ⟨[(.tmp 1, .ptr 1 0), (.tmp 3, .val (.int .i64)), (.tmp 7, .val (.slice (.st (.cons (.int .i64) (.cons .str .nil))))), (.tmp 8, .val (.int .i64)), (.tmp 9, .val (.int .i64)), (.cell 1 0, .val .str), (.cell 1 1, .val (.slice (.st (.cons (.int .i64) (.cons .str .nil)))))], [(1, 2)]⟩
noncomputable def x84_3 : List (X × Msk) := [(.exit 0, ⟨[(.tmp 1, .ptr 1 0), (.cell 1 0, .val .str), (.cell 1 1, .val (.slice (.st (.cons (.int .i64) (.cons .str .nil)))))], [(1, 2)]⟩), (.ret, ⟨[(.tmp 2, .val .bool)], []⟩)]
noncomputable def F84_3 (k : Nat) : Nat → m84_3.den → Option (denE x84_3)
  | 0, _ => none
  | j + 1, v => round TI (O110 k) (L84_3 k) b84_3 m84_3 x84_3 (F84_3 k j) v
theorem lk84_3_ (k : Nat) : LinksOK Tryd.prog 37 (L84_3 k) b84_3 := (And.intro True.intro (And.intro (And.intro True.intro True.intro) (And.intro (And.intro True.intro (And.intro (And.intro True.intro (And.intro (And.intro True.intro True.intro) True.intro)) True.intro)) True.intro)))
noncomputable def L84 (k : Nat) : LOrc := fun R lk s K => match lk with
  | .loop r => bif Nat.beq r 3 then link m84_3 x84_3 (F84_3 k k) s K else none
  | .label l => none
theorem lk_L84_3 (k : Nat) : LoopOK Tryd.prog 37 (L84 k) b84_3 := loopOK_of hm hT (ok_O110 k) (fun _ _ _ h => h) rfl (lk84_3_ k) rfl rfl (F := F84_3 k) (fun _ => rfl) (fun _ _ => rfl) (n := k) fun _ _ _ => rfl
noncomputable def F84 (k : Nat) (v : mi84.den) : Option mo84.den := runF TI (O110 k) (L84 k) c84 mi84 mo84 v
theorem lk84 (k : Nat) : LinksOK Tryd.prog 37 (L84 k) c84 := (And.intro True.intro (And.intro True.intro (And.intro (And.intro True.intro (lk_L84_3 k)) (And.intro True.intro True.intro))))
theorem fn84 (k : Nat) (args : List AV) (x : mi84.den) (r : mo84.den) (h1 : args.length = mi84.items.length) (h2 : mi84.dec (Th.start args) = some x) (h3 : F84 k x = some r) : CallOK Tryd.prog 84 args (ansOf (outL mo84.items r)) :=
  call_of hm hT (ok_O110 k) (fn := Tryd.f84) (c := c84) Tryd.func84 rfl rfl rfl (lk84 k) rfl (by decide) rfl h1 h2 h3
noncomputable def O84 (k : Nat) : Orc := fun R f args K => bif Nat.beq f 84 then callF mi84 mo84 (F84 k) args K else O110 k R f args K
theorem ok_O84 (k : Nat) : OrcOK (O84 k) (CallOK Tryd.prog) := orc_add (fn84 k) (ok_O110 k)
noncomputable def c71 : Code := Tryd.f71.body.getD .skip
noncomputable def mi71 : Msk := ⟨[(.tmp 0, .val (.st (.cons (.int .i64) (.cons .str (.cons (.int .u64) (.cons (.int .u32) (.cons .str (.cons .str .nil))))))))], []⟩
noncomputable def mo71 : Msk := ⟨[(.tmp 2, .val .bool)], []⟩
noncomputable def L71 (k : Nat) : LOrc := fun _ _ _ _ => none
noncomputable def F71 (k : Nat) (v : mi71.den) : Option mo71.den := runF TI (O84 k) (L71 k) c71 mi71 mo71 v
theorem lk71 (k : Nat) : LinksOK Tryd.prog 30 (L71 k) c71 := (And.intro True.intro (And.intro (And.intro True.intro (And.intro (And.intro True.intro (And.intro (And.intro True.intro True.intro) True.intro)) (And.intro True.intro (And.intro (And.intro True.intro True.intro) True.intro)))) (And.intro True.intro True.intro)))
theorem fn71 (k : Nat) (args : List AV) (x : mi71.den) (r : mo71.den) (h1 : args.length = mi71.items.length) (h2 : mi71.dec (Th.start args) = some x) (h3 : F71 k x = some r) : CallOK Tryd.prog 71 args (ansOf (outL mo71.items r)) :=
  call_of hm hT (ok_O84 k) (fn := Tryd.f71) (c := c71) Tryd.func71 rfl rfl rfl (lk71 k) rfl (by decide) rfl h1 h2 h3
noncomputable def O71 (k : Nat) : Orc := fun R f args K => bif Nat.beq f 71 then callF mi71 mo71 (F71 k) args K else O84 k R f args K
theorem ok_O71 (k : Nat) : OrcOK (O71 k) (CallOK Tryd.prog) := orc_add (fn71 k) (ok_O84 k)
noncomputable def c53 : Code := Tryd.f53.body.getD .skip
noncomputable def mi53 : Msk := ⟨[(.tmp 0, .val (.st (.cons (.int .i64) (.cons .str (.cons (.int .u64) (.cons (.int .u32) (.cons .str (.cons .str .nil))))))))], []⟩
noncomputable def mo53 : Msk := ⟨[(.res 2, .val (.st (.cons .str (.cons (.slice (.st (.cons (.int .i64) (.cons .str .nil)))) .nil)))), (.tmp 3, .val (.int .i64))], []⟩
noncomputable def L53 (k : Nat) : LOrc := fun _ _ _ _ => none
noncomputable def F53 (k : Nat) (v : mi53.den) : Option mo53.den := runF TI (O71 k) (L53 k) c53 mi53 mo53 v
theorem lk53 (k : Nat) : LinksOK Tryd.prog 14 (L53 k) c53 := (And.intro True.intro (And.intro (And.intro True.intro (And.intro (And.intro True.intro True.intro) True.intro)) (And.intro True.intro True.intro)))
theorem fn53 (k : Nat) (args : List AV) (x : mi53.den) (r : mo53.den) (h1 : args.length = mi53.items.length) (h2 : mi53.dec (Th.start args) = some x) (h3 : F53 k x = some r) : CallOK Tryd.prog 53 args (ansOf (outL mo53.items r)) :=
  call_of hm hT (ok_O71 k) (fn := Tryd.f53) (c := c53) Tryd.func53 rfl rfl rfl (lk53 k) rfl (by decide) rfl h1 h2 h3
noncomputable def O53 (k : Nat) : Orc := fun R f args K => bif Nat.beq f 53 then callF mi53 mo53 (F53 k) args K else O71 k R f args K
theorem ok_O53 (k : Nat) : OrcOK (O53 k) (CallOK Tryd.prog) := orc_add (fn53 k) (ok_O71 k)
noncomputable def c159 : Code := Tryd.f159.body.getD .skip
noncomputable def mi159 : Msk := ⟨[(.tmp 0, .val (.st (.cons (.int .i64) (.cons (.int .i64) .nil))))], []⟩
noncomputable def mo159 : Msk := ⟨[(.tmp 2, .val (.int .i64))], []⟩
noncomputable def L159 (k : Nat) : LOrc := fun _ _ _ _ => none
noncomputable def F159 (k : Nat) (v : mi159.den) : Option mo159.den := runF TI (O53 k) (L159 k) c159 mi159 mo159 v
theorem lk159 (k : Nat) : LinksOK Tryd.prog 5 (L159 k) c159 := (And.intro True.intro (And.intro True.intro True.intro))
theorem fn159 (k : Nat) (args : List AV) (x : mi159.den) (r : mo159.den) (h1 : args.length = mi159.items.length) (h2 : mi159.dec (Th.start args) = some x) (h3 : F159 k x = some r) : CallOK Tryd.prog 159 args (ansOf (outL mo159.items r)) :=
  call_of hm hT (ok_O53 k) (fn := Tryd.f159) (c := c159) Tryd.func159 rfl rfl rfl (lk159 k) rfl (by decide) rfl h1 h2 h3
noncomputable def O159 (k : Nat) : Orc := fun R f args K => bif Nat.beq f 159 then callF mi159 mo159 (F159 k) args K else O53 k R f args K
theorem ok_O159 (k : Nat) : OrcOK (O159 k) (CallOK Tryd.prog) := orc_add (fn159 k) (ok_O53 k)
noncomputable def c161 : Code := Tryd.f161.body.getD .skip
noncomputable def mi161 : Msk := ⟨[(.tmp 0, .val (.st (.cons (.int .i64) .nil)))], []⟩
noncomputable def mo161 : Msk := ⟨[(.tmp 2, .val (.int .i64))], []⟩
noncomputable def L161 (k : Nat) : LOrc := fun _ _ _ _ => none
noncomputable def F161 (k : Nat) (v : mi161.den) : Option mo161.den := runF TI (O159 k) (L161 k) c161 mi161 mo161 v
theorem lk161 (k : Nat) : LinksOK Tryd.prog 3 (L161 k) c161 := (And.intro True.intro (And.intro True.intro True.intro))
theorem fn161 (k : Nat) (args : List AV) (x : mi161.den) (r : mo161.den) (h1 : args.length = mi161.items.length) (h2 : mi161.dec (Th.start args) = some x) (h3 : F161 k x = some r) : CallOK Tryd.prog 161 args (ansOf (outL mo161.items r)) :=
  call_of hm hT (ok_O159 k) (fn := Tryd.f161) (c := c161) Tryd.func161 rfl rfl rfl (lk161 k) rfl (by decide) rfl h1 h2 h3
noncomputable def O161 (k : Nat) : Orc := fun R f args K => bif Nat.beq f 161 then callF mi161 mo161 (F161 k) args K else O159 k R f args K
theorem ok_O161 (k : Nat) : OrcOK (O161 k) (CallOK Tryd.prog) := orc_add (fn161 k) (ok_O159 k)
noncomputable def c85 : Code := Tryd.f85.body.getD .skip
noncomputable def mi85 : Msk := ⟨[(.tmp 0, .val (.int .i64)), (.tmp 1, .val .str)], []⟩
noncomputable def mo85 : Msk := ⟨[(.tmp 4, .row false (.int .u8)), (.tmp 5, .val (.int .i64))], []⟩
noncomputable def L85 (k : Nat) : LOrc := fun _ _ _ _ => none
noncomputable def F85 (k : Nat) (v : mi85.den) : Option mo85.den := runF TI (O161 k) (L85 k) c85 mi85 mo85 v
theorem lk85 (k : Nat) : LinksOK Tryd.prog 42 (L85 k) c85 := (And.intro True.intro (And.intro True.intro (And.intro (And.intro True.intro (And.intro (And.intro True.intro True.intro) (And.intro True.intro (And.intro (And.intro True.intro True.intro) True.intro)))) (And.intro (And.intro True.intro (And.intro True.intro (And.intro (And.intro True.intro True.intro) True.intro))) (And.intro True.intro True.intro)))))
theorem fn85 (k : Nat) (args : List AV) (x : mi85.den) (r : mo85.den) (h1 : args.length = mi85.items.length) (h2 : mi85.dec (Th.start args) = some x) (h3 : F85 k x = some r) : CallOK Tryd.prog 85 args (ansOf (outL mo85.items r)) :=
  call_of hm hT (ok_O161 k) (fn := Tryd.f85) (c := c85) Tryd.func85 rfl rfl rfl (lk85 k) rfl (by decide) rfl h1 h2 h3
noncomputable def O85 (k : Nat) : Orc := fun R f args K => bif Nat.beq f 85 then callF mi85 mo85 (F85 k) args K else O161 k R f args K
theorem ok_O85 (k : Nat) : OrcOK (O85 k) (CallOK Tryd.prog) := orc_add (fn85 k) (ok_O161 k)
noncomputable def c132 : Code := Tryd.f132.body.getD .skip
noncomputable def mi132 : Msk := ⟨[(.tmp 0, .ptr 900 0), (.tmp 1, .val (.int .i64)), (.cell 900 0, .val (.int .u64)), (.cell 900 1, .val (.int .u64))], [(900, 2)]⟩
noncomputable def mo132 : List Msk := [⟨[(.tmp 4, .ptr 900 0), (.tmp 5, .val (.int .u64)), (.cell 900 0, .val (.int .u64)), (.cell 900 1, .val (.int .u64))], [(900, 2)]⟩, ⟨[(.tmp 4, .ptr 900 1), (.tmp 5, .val (.int .u64)), (.cell 900 0, .val (.int .u64)), (.cell 900 1, .val (.int .u64))], [(900, 2)]⟩]
noncomputable def L132 (k : Nat) : LOrc := fun _ _ _ _ => none
noncomputable def F132 (k : Nat) (v : mi132.den) : Option (denA mo132) := runA TI (O85 k) (L132 k) c132 mi132 mo132 v
theorem lk132 (k : Nat) : LinksOK Tryd.prog 21 (L132 k) c132 := (And.intro True.intro (And.intro (And.intro True.intro (And.intro (And.intro True.intro True.intro) True.intro)) (And.intro True.intro True.intro)))
theorem fn132 (k : Nat) (vs cs : List AV) (x : mi132.den) (r : denA mo132) (h1 : vs.length = 2) (h2 : mi132.dec (startL vs cs) = some x) (h3 : F132 k x = some r) : CallOK Tryd.prog 132 (vs ++ [.lent cs]) (valB 2 mo132 r) :=
  call_ofL hm hT (ok_O85 k) (fn := Tryd.f132) (c := c132) Tryd.func132 rfl rfl rfl (lk132 k) rfl (by decide) (by decide) rfl h1 h2 h3
noncomputable def O132 (k : Nat) : Orc := fun R f args K => bif Nat.beq f 132 then callB mi132 2 2 mo132 (F132 k) args K else O85 k R f args K
theorem ok_O132 (k : Nat) : OrcOK (O132 k) (CallOK Tryd.prog) := orc_addL (fn132 k) (ok_O85 k)
noncomputable def c133 : Code := Tryd.f133.body.getD .skip
noncomputable def mi133 : Msk := ⟨[(.tmp 0, .val (.st (.cons (.int .u64) (.cons (.int .u64) .nil)))), (.tmp 1, .val (.int .i64))], []⟩
noncomputable def mo133 : Msk := ⟨[(.tmp 4, .val .bool)], []⟩
noncomputable def L133 (k : Nat) : LOrc := fun _ _ _ _ => none
noncomputable def F133 (k : Nat) (v : mi133.den) : Option mo133.den := runF TI (O132 k) (L133 k) c133 mi133 mo133 v
theorem lk133 (k : Nat) : LinksOK Tryd.prog 18 (L133 k) c133 := (And.intro True.intro (And.intro True.intro (And.intro True.intro True.intro)))
theorem fn133 (k : Nat) (args : List AV) (x : mi133.den) (r : mo133.den) (h1 : args.length = mi133.items.length) (h2 : mi133.dec (Th.start args) = some x) (h3 : F133 k x = some r) : CallOK Tryd.prog 133 args (ansOf (outL mo133.items r)) :=
  call_of hm hT (ok_O132 k) (fn := Tryd.f133) (c := c133) Tryd.func133 rfl rfl rfl (lk133 k) rfl (by decide) rfl h1 h2 h3
noncomputable def O133 (k : Nat) : Orc := fun R f args K => bif Nat.beq f 133 then callF mi133 mo133 (F133 k) args K else O132 k R f args K
theorem ok_O133 (k : Nat) : OrcOK (O133 k) (CallOK Tryd.prog) := orc_add (fn133 k) (ok_O132 k)
noncomputable def c112 : Code := Tryd.f112.body.getD .skip
noncomputable def mi112 : Msk := ⟨[(.tmp 0, .val (.st (.cons (.int .u64) (.cons (.int .u64) .nil))))], []⟩
noncomputable def mo112 : Msk := ⟨[(.tmp 2, .val .bool)], []⟩
noncomputable def L112 (k : Nat) : LOrc := fun _ _ _ _ => none
noncomputable def F112 (k : Nat) (v : mi112.den) : Option mo112.den := runF TI (O133 k) (L112 k) c112 mi112 mo112 v
theorem lk112 (k : Nat) : LinksOK Tryd.prog 14 (L112 k) c112 := (And.intro True.intro (And.intro True.intro True.intro))
theorem fn112 (k : Nat) (args : List AV) (x : mi112.den) (r : mo112.den) (h1 : args.length = mi112.items.length) (h2 : mi112.dec (Th.start args) = some x) (h3 : F112 k x = some r) : CallOK Tryd.prog 112 args (ansOf (outL mo112.items r)) :=
  call_of hm hT (ok_O133 k) (fn := Tryd.f112) (c := c112) Tryd.func112 rfl rfl rfl (lk112 k) rfl (by decide) rfl h1 h2 h3
noncomputable def O112 (k : Nat) : Orc := fun R f args K => bif Nat.beq f 112 then callF mi112 mo112 (F112 k) args K else O133 k R f args K
theorem ok_O112 (k : Nat) : OrcOK (O112 k) (CallOK Tryd.prog) := orc_add (fn112 k) (ok_O133 k)
noncomputable def c131 : Code := Tryd.f131.body.getD .skip
noncomputable def mi131 : Msk := ⟨[(.tmp 0, .val (.int .i64))], []⟩
noncomputable def mo131 : Msk := ⟨[(.tmp 2, .val .bool)], []⟩
noncomputable def L131 (k : Nat) : LOrc := fun _ _ _ _ => none
noncomputable def F131 (k : Nat) (v : mi131.den) : Option mo131.den := runF TI (O112 k) (L131 k) c131 mi131 mo131 v
theorem lk131 (k : Nat) : LinksOK Tryd.prog 13 (L131 k) c131 := (And.intro True.intro (And.intro True.intro True.intro))
theorem fn131 (k : Nat) (args : List AV) (x : mi131.den) (r : mo131.den) (h1 : args.length = mi131.items.length) (h2 : mi131.dec (Th.start args) = some x) (h3 : F131 k x = some r) : CallOK Tryd.prog 131 args (ansOf (outL mo131.items r)) :=
  call_of hm hT (ok_O112 k) (fn := Tryd.f131) (c := c131) Tryd.func131 rfl rfl rfl (lk131 k) rfl (by decide) rfl h1 h2 h3
noncomputable def O131 (k : Nat) : Orc := fun R f args K => bif Nat.beq f 131 then callF mi131 mo131 (F131 k) args K else O112 k R f args K
theorem ok_O131 (k : Nat) : OrcOK (O131 k) (CallOK Tryd.prog) := orc_add (fn131 k) (ok_O112 k)
noncomputable def c111 : Code := Tryd.f111.body.getD .skip
noncomputable def mi111 : Msk := ⟨[(.tmp 0, .val (.st (.cons (.int .u64) (.cons (.int .u64) .nil)))), (.tmp 1, .val (.int .i64))], []⟩
noncomputable def mo111 : Msk := ⟨[(.res 4, .val (.st (.cons (.int .u64) (.cons (.int .u64) .nil)))), (.tmp 5, .val (.int .i64))], []⟩
noncomputable def L111 (k : Nat) : LOrc := fun _ _ _ _ => none
noncomputable def F111 (k : Nat) (v : mi111.den) : Option mo111.den := runF TI (O131 k) (L111 k) c111 mi111 mo111 v
theorem lk111 (k : Nat) : LinksOK Tryd.prog 36 (L111 k) c111 := (And.intro True.intro (And.intro (And.intro True.intro (And.intro (And.intro True.intro True.intro) True.intro)) (And.intro True.intro (And.intro True.intro (And.intro (And.intro True.intro (And.intro True.intro True.intro)) (And.intro True.intro True.intro))))))
theorem fn111 (k : Nat) (args : List AV) (x : mi111.den) (r : mo111.den) (h1 : args.length = mi111.items.length) (h2 : mi111.dec (Th.start args) = some x) (h3 : F111 k x = some r) : CallOK Tryd.prog 111 args (ansOf (outL mo111.items r)) :=
  call_of hm hT (ok_O131 k) (fn := Tryd.f111) (c := c111) Tryd.func111 rfl rfl rfl (lk111 k) rfl (by decide) rfl h1 h2 h3
noncomputable def O111 (k : Nat) : Orc := fun R f args K => bif Nat.beq f 111 then callF mi111 mo111 (F111 k) args K else O131 k R f args K
theorem ok_O111 (k : Nat) : OrcOK (O111 k) (CallOK Tryd.prog) := orc_add (fn111 k) (ok_O131 k)
noncomputable def c86 : Code := Tryd.f86.body.getD .skip
noncomputable def mi86 : Msk := ⟨[(.tmp 0, .val (.slice (.int .i64)))], []⟩
noncomputable def mo86 : Msk := ⟨[(.res 2, .val (.st (.cons (.int .u64) (.cons (.int .u64) .nil)))), (.tmp 3, .val (.int .i64))], []⟩
noncomputable def L86_3 (k : Nat) : LOrc := fun _ _ _ _ => none
noncomputable def b86_3 : Code := (findLoop 3 c86).getD .skip
noncomputable def m86_3 : Msk := ⟨[(.tmp 2, .ptr 2 0), (.tmp 4, .ptr 4 0), (.tmp 9, .val (.slice (.int .i64))), (.tmp 10, .val (.int .i64)), (.tmp 11, .val (.int .i64)), (.cell 2 0, .val (.int .u64)), (.cell 2 1, .val (.int .u64)), (.cell 4 0, .val (.int .u64)), (.cell 4 1, .val (.int .u64))], [(2, 2), (4, 2)]⟩
noncomputable def x86_3 : List (X × Msk) := [(.exit 0, ⟨[(.tmp 2, .ptr 2 0), (.tmp 4, .ptr 4 0), (.cell 2 0, .val (.int .u64)), (.cell 2 1, .val (.int .u64)), (.cell 4 0, .val (.int .u64)), (.cell 4 1, .val (.int .u64))], [(2, 2), (4, 2)]⟩), (.ret, ⟨[(.tmp 2, .ptr 2 0), (.tmp 3, .val (.int .i64)), (.cell 2 0, .val (.int .u64)), (.cell 2 1, .val (.int .u64))], [(2, 2)]⟩)]
noncomputable def F86_3 (k : Nat) : Nat → m86_3.den → Option (denE x86_3)
  | 0, _ => none
  | j + 1, v => round TI (O111 k) (L86_3 k) b86_3 m86_3 x86_3 (F86_3 k j) v
theorem lk86_3_ (k : Nat) : LinksOK Tryd.prog 28 (L86_3 k) b86_3 := (And.intro True.intro (And.intro (And.intro True.intro True.intro) (And.intro (And.intro True.intro (And.intro True.intro (And.intro (And.intro True.intro (And.intro (And.intro True.intro True.intro) True.intro)) True.intro))) True.intro)))
noncomputable def L86 (k : Nat) : LOrc := fun R lk s K => match lk with
  | .loop r => bif Nat.beq r 3 then link m86_3 x86_3 (F86_3 k k) s K else none
  | .label l => none
theorem lk_L86_3 (k : Nat) : LoopOK Tryd.prog 28 (L86 k) b86_3 := loopOK_of hm hT (ok_O111 k) (fun _ _ _ h => h) rfl (lk86_3_ k) rfl rfl (F := F86_3 k) (fun _ => rfl) (fun _ _ => rfl) (n := k) fun _ _ _ => rfl
noncomputable def F86 (k : Nat) (v : mi86.den) : Option mo86.den := runF TI (O111 k) (L86 k) c86 mi86 mo86 v
theorem lk86 (k : Nat) : LinksOK Tryd.prog 28 (L86 k) c86 := (And.intro True.intro (And.intro True.intro (And.intro (And.intro True.intro (lk_L86_3 k)) (And.intro True.intro True.intro))))
theorem fn86 (k : Nat) (args : List AV) (x : mi86.den) (r : mo86.den) (h1 : args.length = mi86.items.length) (h2 : mi86.dec (Th.start args) = some x) (h3 : F86 k x = some r) : CallOK Tryd.prog 86 args (ansOf (outL mo86.items r)) :=
  call_of hm hT (ok_O111 k) (fn := Tryd.f86) (c := c86) Tryd.func86 rfl rfl rfl (lk86 k) rfl (by decide) rfl h1 h2 h3
noncomputable def O86 (k : Nat) : Orc := fun R f args K => bif Nat.beq f 86 then callF mi86 mo86 (F86 k) args K else O111 k R f args K
theorem ok_O86 (k : Nat) : OrcOK (O86 k) (CallOK Tryd.prog) := orc_add (fn86 k) (ok_O111 k)
noncomputable def c113 : Code := Tryd.f113.body.getD .skip
noncomputable def mi113 : Msk := ⟨[(.tmp 0, .row false (.int .u8)), (.tmp 1, .val (.int .u64))], []⟩
noncomputable def mo113 : Msk := ⟨[(.tmp 4, .row false (.int .u8))], []⟩
noncomputable def L113_2 (k : Nat) : LOrc := fun _ _ _ _ => none
noncomputable def b113_2 : Code := (findLoop 2 c113).getD .skip
noncomputable def m113_2 : Msk := ⟨[(.tmp 0, .row false (.int .u8)), (.tmp 1, .val (.int .u64)), (.tmp 6, .val (.int .i64))], []⟩
noncomputable def x113_2 : List (X × Msk) := [(.exit 0, ⟨[(.tmp 0, .row false (.int .u8))], []⟩)]
noncomputable def F113_2 (k : Nat) : Nat → m113_2.den → Option (denE x113_2)
  | 0, _ => none
  | j + 1, v => round TI (O86 k) (L113_2 k) b113_2 m113_2 x113_2 (F113_2 k j) v
theorem lk113_2_ (k : Nat) : LinksOK Tryd.prog 21 (L113_2 k) b113_2 := (And.intro True.intro (And.intro (And.intro True.intro True.intro) (And.intro (And.intro True.intro True.intro) True.intro)))
noncomputable def L113 (k : Nat) : LOrc := fun R lk s K => match lk with
  | .loop r => bif Nat.beq r 2 then link m113_2 x113_2 (F113_2 k k) s K else none
  | .label l => none
theorem lk_L113_2 (k : Nat) : LoopOK Tryd.prog 21 (L113 k) b113_2 := loopOK_of hm hT (ok_O86 k) (fun _ _ _ h => h) rfl (lk113_2_ k) rfl rfl (F := F113_2 k) (fun _ => rfl) (fun _ _ => rfl) (n := k) fun _ _ _ => rfl
noncomputable def F113 (k : Nat) (v : mi113.den) : Option mo113.den := runF TI (O86 k) (L113 k) c113 mi113 mo113 v
theorem lk113 (k : Nat) : LinksOK Tryd.prog 21 (L113 k) c113 := (And.intro True.intro (And.intro (And.intro True.intro (lk_L113_2 k)) (And.intro True.intro True.intro)))
theorem fn113 (k : Nat) (a0 : AV) (rest : List AV) (x : mi113.den) (r : mo113.den) (h1 : (a0 :: rest).length = mi113.items.length) (h2 : mi113.dec (startE a0 rest) = some x) (h3 : F113 k x = some r) : CallOK Tryd.prog 113 (a0 :: rest) (.back (ansOf (outL mo113.items r)) [.lent []]) :=
  call_ofE hm hT (ok_O86 k) (fn := Tryd.f113) (c := c113) Tryd.func113 rfl rfl rfl (lk113 k) rfl (by decide) rfl h1 h2 h3
noncomputable def O113 (k : Nat) : Orc := fun R f args K => bif Nat.beq f 113 then callE mi113 mo113 (F113 k) args K else O86 k R f args K
theorem ok_O113 (k : Nat) : OrcOK (O113 k) (CallOK Tryd.prog) := orc_addE (fn113 k) (ok_O86 k)
noncomputable def c87 : Code := Tryd.f87.body.getD .skip
noncomputable def mi87 : Msk := ⟨[(.tmp 0, .val (.st (.cons (.int .u64) (.cons (.int .u64) .nil))))], []⟩
noncomputable def mo87 : Msk := ⟨[(.tmp 2, .row false (.int .u8)), (.tmp 3, .val (.int .i64))], []⟩
noncomputable def L87 (k : Nat) : LOrc := fun _ _ _ _ => none
noncomputable def F87 (k : Nat) (v : mi87.den) : Option mo87.den := runF TI (O113 k) (L87 k) c87 mi87 mo87 v
theorem lk87 (k : Nat) : LinksOK Tryd.prog 19 (L87 k) c87 := (And.intro True.intro (And.intro (And.intro True.intro (And.intro (And.intro True.intro True.intro) True.intro)) (And.intro True.intro (And.intro (And.intro True.intro (And.intro True.intro True.intro)) (And.intro True.intro True.intro)))))
theorem fn87 (k : Nat) (args : List AV) (x : mi87.den) (r : mo87.den) (h1 : args.length = mi87.items.length) (h2 : mi87.dec (Th.start args) = some x) (h3 : F87 k x = some r) : CallOK Tryd.prog 87 args (ansOf (outL mo87.items r)) :=
  call_of hm hT (ok_O113 k) (fn := Tryd.f87) (c := c87) Tryd.func87 rfl rfl rfl (lk87 k) rfl (by decide) rfl h1 h2 h3
noncomputable def O87 (k : Nat) : Orc := fun R f args K => bif Nat.beq f 87 then callF mi87 mo87 (F87 k) args K else O113 k R f args K
theorem ok_O87 (k : Nat) : OrcOK (O87 k) (CallOK Tryd.prog) := orc_add (fn87 k) (ok_O113 k)
noncomputable def F114 (k : Nat) (v : Int × Unit) : Option (List (Ty.den (.int .u8)) × Unit) := sel (decide (0 ≤ v.1)) (sel (decide (v.1 * 1 ≤ 140737488355328)) (some ([], ())) none) none
noncomputable def O114 (k : Nat) : Orc := fun R f args K => bif Nat.beq f 114 then (match args with | [.nilsl, .int .i64 n] => ocall (F114 k (n, ())) fun r => K (.own (.int .u8) r.1) | _ => none) else O87 k R f args K
theorem ok_O114 (k : Nat) : OrcOK (O114 k) (CallOK Tryd.prog) := by
  intro R f args K r h
  unfold O114 at h
  cases hb : Nat.beq f 114 with
  | false => rw [hb] at h; exact ok_O87 k R f args K r h
  | true =>
    rw [hb] at h
    rw [Nat.eq_of_beq_eq_true hb]
    simp only [cond_true] at h
    split at h
    · rename_i m
      unfold F114 at h
      by_cases h0 : 0 ≤ m
      · rw [sel_pos h0] at h
        by_cases h1 : m * 1 ≤ 140737488355328
        · rw [sel_pos h1] at h
          obtain ⟨ti, d, z, E⟩ := hT.get (t := 5) (i := ⟨.int .u8, 1, 1, (.int .u8), [.int .u8 0], [], [], true, false, [], []⟩) rfl
          exact ⟨_, Grow114.calls E (by decide) m h0 h1 (by omega), h⟩
        · rw [sel_neg h1] at h; cases h
      · rw [sel_neg h0] at h; cases h
    · cases h
noncomputable def c88 : Code := Tryd.f88.body.getD .skip
noncomputable def mi88 : Msk := ⟨[(.tmp 0, .val (.slice (.slice (.int .u8))))], []⟩
noncomputable def mo88 : Msk := ⟨[(.tmp 2, .row false (.int .u8))], []⟩
noncomputable def L88_3 (k : Nat) : LOrc := fun _ _ _ _ => none
noncomputable def b88_3 : Code := (findLoop 3 c88).getD .skip
noncomputable def m88_3 : Msk := ⟨[(.tmp 0, .val (.slice (.slice (.int .u8)))), (.tmp 3, .val (.int .i64)), (.tmp 9, .val (.slice (.slice (.int .u8)))), (.tmp 10, .val (.int .i64)), (.tmp 11, .val (.int .i64))], []⟩
noncomputable def x88_3 : List (X × Msk) := [(.exit 0, ⟨[(.tmp 0, .val (.slice (.slice (.int .u8)))), (.tmp 3, .val (.int .i64))], []⟩)]
noncomputable def F88_3 (k : Nat) : Nat → m88_3.den → Option (denE x88_3)
  | 0, _ => none
  | j + 1, v => round TI (O114 k) (L88_3 k) b88_3 m88_3 x88_3 (F88_3 k j) v
theorem lk88_3_ (k : Nat) : LinksOK Tryd.prog 36 (L88_3 k) b88_3 := (And.intro True.intro (And.intro (And.intro True.intro True.intro) (And.intro (And.intro True.intro (And.intro True.intro (And.intro True.intro (And.intro True.intro True.intro)))) True.intro)))
noncomputable def L88_11 (k : Nat) : LOrc := fun _ _ _ _ => none
noncomputable def b88_11 : Code := (findLoop 11 c88).getD .skip
noncomputable def m88_11 : Msk := ⟨[(.tmp 6, .row false (.int .u8)), (.tmp 25, .val (.slice (.slice (.int .u8)))), (.tmp 26, .val (.int .i64)), (.tmp 27, .val (.int .i64))], []⟩
noncomputable def x88_11 : List (X × Msk) := [(.exit 2, ⟨[(.tmp 6, .row false (.int .u8))], []⟩)]
noncomputable def F88_11 (k : Nat) : Nat → m88_11.den → Option (denE x88_11)
  | 0, _ => none
  | j + 1, v => round TI (O114 k) (L88_11 k) b88_11 m88_11 x88_11 (F88_11 k j) v
theorem lk88_11_ (k : Nat) : LinksOK Tryd.prog 36 (L88_11 k) b88_11 := (And.intro True.intro (And.intro (And.intro True.intro True.intro) (And.intro (And.intro True.intro True.intro) True.intro)))
noncomputable def L88 (k : Nat) : LOrc := fun R lk s K => match lk with
  | .loop r => bif Nat.beq r 3 then link m88_3 x88_3 (F88_3 k k) s K else bif Nat.beq r 11 then link m88_11 x88_11 (F88_11 k k) s K else none
  | .label l => none
theorem lk_L88_3 (k : Nat) : LoopOK Tryd.prog 36 (L88 k) b88_3 := loopOK_of hm hT (ok_O114 k) (fun _ _ _ h => h) rfl (lk88_3_ k) rfl rfl (F := F88_3 k) (fun _ => rfl) (fun _ _ => rfl) (n := k) fun _ _ _ => rfl
theorem lk_L88_11 (k : Nat) : LoopOK Tryd.prog 36 (L88 k) b88_11 := loopOK_of hm hT (ok_O114 k) (fun _ _ _ h => h) rfl (lk88_11_ k) rfl rfl (F := F88_11 k) (fun _ => rfl) (fun _ _ => rfl) (n := k) fun _ _ _ => rfl
noncomputable def F88 (k : Nat) (v : mi88.den) : Option mo88.den := runF TI (O114 k) (L88 k) c88 mi88 mo88 v
theorem lk88 (k : Nat) : LinksOK Tryd.prog 36 (L88 k) c88 := (And.intro True.intro (And.intro True.intro (And.intro (And.intro True.intro (lk_L88_3 k)) (And.intro True.intro (And.intro (And.intro True.intro (lk_L88_11 k)) (And.intro True.intro True.intro))))))
theorem fn88 (k : Nat) (args : List AV) (x : mi88.den) (r : mo88.den) (h1 : args.length = mi88.items.length) (h2 : mi88.dec (Th.start args) = some x) (h3 : F88 k x = some r) : CallOK Tryd.prog 88 args (ansOf (outL mo88.items r)) :=
  call_of hm hT (ok_O114 k) (fn := Tryd.f88) (c := c88) Tryd.func88 rfl rfl rfl (lk88 k) rfl (by decide) rfl h1 h2 h3
noncomputable def O88 (k : Nat) : Orc := fun R f args K => bif Nat.beq f 88 then callF mi88 mo88 (F88 k) args K else O114 k R f args K
theorem ok_O88 (k : Nat) : OrcOK (O88 k) (CallOK Tryd.prog) := orc_add (fn88 k) (ok_O114 k)
noncomputable def c54 : Code := Tryd.f54.body.getD .skip
noncomputable def mi54 : Msk := ⟨[(.tmp 0, .val (.st (.cons .str (.cons (.slice (.st (.cons (.int .i64) (.cons .str .nil)))) .nil))))], []⟩
noncomputable def mo54 : Msk := ⟨[(.tmp 2, .row false (.int .u8)), (.tmp 3, .val (.int .i64))], []⟩
noncomputable def L54_6 (k : Nat) : LOrc := fun _ _ _ _ => none
noncomputable def b54_6 : Code := (findLoop 6 c54).getD .skip
noncomputable def m54_6 : Msk := ⟨[(.tmp 1, .ptr 1 0), (.tmp 4, .row false (.int .i64)), (.tmp 5, .row false (.int .u8)), (.tmp 18, .val (.slice (.st (.cons (.int .i64) (.cons .str .nil))))), (.tmp 19, .val (.int .i64)), (.tmp 20, .val (.int .i64)), (.cell 1 0, .val .str), (.cell 1 1, .val (.slice (.st (.cons (.int .i64) (.cons .str .nil)))))], [(1, 2)]⟩
noncomputable def x54_6 : List (X × Msk) := [(.exit 0, ⟨[(.tmp 1, .ptr 1 0), (.tmp 4, .row false (.int .i64)), (.tmp 5, .row false (.int .u8)), (.cell 1 0, .val .str), (.cell 1 1, .val (.slice (.st (.cons (.int .i64) (.cons .str .nil)))))], [(1, 2)]⟩)]
noncomputable def F54_6 (k : Nat) : Nat → m54_6.den → Option (denE x54_6)
  | 0, _ => none
  | j + 1, v => round TI (O88 k) (L54_6 k) b54_6 m54_6 x54_6 (F54_6 k j) v
theorem lk54_6_ (k : Nat) : LinksOK Tryd.prog 58 (L54_6 k) b54_6 := (And.intro True.intro (And.intro (And.intro True.intro True.intro) (And.intro (And.intro True.intro (And.intro True.intro True.intro)) True.intro)))
noncomputable def L54 (k : Nat) : LOrc := fun R lk s K => match lk with
  | .loop r => bif Nat.beq r 6 then link m54_6 x54_6 (F54_6 k k) s K else none
  | .label l => none
theorem lk_L54_6 (k : Nat) : LoopOK Tryd.prog 58 (L54 k) b54_6 := loopOK_of hm hT (ok_O88 k) (fun _ _ _ h => h) rfl (lk54_6_ k) rfl rfl (F := F54_6 k) (fun _ => rfl) (fun _ _ => rfl) (n := k) fun _ _ _ => rfl
noncomputable def F54 (k : Nat) (v : mi54.den) : Option mo54.den := runF TI (O88 k) (L54 k) c54 mi54 mo54 v
theorem lk54 (k : Nat) : LinksOK Tryd.prog 58 (L54 k) c54 := (And.intro True.intro (And.intro (And.intro True.intro (And.intro (And.intro True.intro True.intro) True.intro)) (And.intro True.intro (And.intro True.intro (And.intro (And.intro True.intro (lk_L54_6 k)) (And.intro True.intro (And.intro True.intro (And.intro True.intro True.intro))))))))
theorem fn54 (k : Nat) (args : List AV) (x : mi54.den) (r : mo54.den) (h1 : args.length = mi54.items.length) (h2 : mi54.dec (Th.start args) = some x) (h3 : F54 k x = some r) : CallOK Tryd.prog 54 args (ansOf (outL mo54.items r)) :=
  call_of hm hT (ok_O88 k) (fn := Tryd.f54) (c := c54) Tryd.func54 rfl rfl rfl (lk54 k) rfl (by decide) rfl h1 h2 h3
noncomputable def O54 (k : Nat) : Orc := fun R f args K => bif Nat.beq f 54 then callF mi54 mo54 (F54 k) args K else O88 k R f args K
theorem ok_O54 (k : Nat) : OrcOK (O54 k) (CallOK Tryd.prog) := orc_add (fn54 k) (ok_O88 k)
noncomputable def F55 (k : Nat) (v : List Int × Unit) : Option (List Int × Int × Unit) := FrameP.putS v.1
noncomputable def O55 (k : Nat) : Orc := fun R f args K => bif Nat.beq f 55 then (match args with | [.sl (.int .u8) b] => ocall (F55 k (b, ())) fun r => K (.tup [.sl (.int .u8) r.1, .int .i64 r.2.1]) | [.nilsl] => ocall (F55 k ([], ())) fun r => K (.tup [.sl (.int .u8) r.1, .int .i64 r.2.1]) | _ => none) else O54 k R f args K
theorem ok_O55 (k : Nat) : OrcOK (O55 k) (CallOK Tryd.prog) := by
  intro R f args K r h
  unfold O55 at h
  cases hb : Nat.beq f 55 with
  | false => rw [hb] at h; exact ok_O54 k R f args K r h
  | true =>
    rw [hb] at h
    rw [Nat.eq_of_beq_eq_true hb]
    simp only [cond_true] at h
    split at h
    · rename_i b
      unfold F55 at h
      rw [FrameP.putS_eq] at h
      exact ⟨_, FrameP.calls b _ (.inl rfl), h⟩
    · unfold F55 at h
      rw [FrameP.putS_eq] at h
      exact ⟨_, FrameP.calls [] _ (.inr ⟨rfl, rfl⟩), h⟩
    · cases h
noncomputable def c25 : Code := Tryd.f25.body.getD .skip
noncomputable def mi25 : Msk := ⟨[(.tmp 0, .val (.st (.cons (.int .i64) (.cons .str (.cons (.int .u64) (.cons (.int .u32) (.cons .str (.cons .str .nil))))))))], []⟩
noncomputable def mo25 : Msk := ⟨[(.tmp 2, .val (.slice (.int .u8))), (.tmp 3, .val (.int .i64))], []⟩
noncomputable def L25 (k : Nat) : LOrc := fun _ _ _ _ => none
noncomputable def F25 (k : Nat) (v : mi25.den) : Option mo25.den := runF TI (O55 k) (L25 k) c25 mi25 mo25 v
theorem lk25 (k : Nat) : LinksOK Tryd.prog 25 (L25 k) c25 := (And.intro True.intro (And.intro True.intro (And.intro (And.intro True.intro (And.intro (And.intro True.intro True.intro) True.intro)) (And.intro True.intro (And.intro True.intro True.intro)))))
theorem fn25 (k : Nat) (args : List AV) (x : mi25.den) (r : mo25.den) (h1 : args.length = mi25.items.length) (h2 : mi25.dec (Th.start args) = some x) (h3 : F25 k x = some r) : CallOK Tryd.prog 25 args (ansOf (outL mo25.items r)) :=
  call_of hm hT (ok_O55 k) (fn := Tryd.f25) (c := c25) Tryd.func25 rfl rfl rfl (lk25 k) rfl (by decide) rfl h1 h2 h3
noncomputable def O25 (k : Nat) : Orc := fun R f args K => bif Nat.beq f 25 then callF mi25 mo25 (F25 k) args K else O55 k R f args K
theorem ok_O25 (k : Nat) : OrcOK (O25 k) (CallOK Tryd.prog) := orc_add (fn25 k) (ok_O55 k)
noncomputable def c123 : Code := Tryd.f123.body.getD .skip
noncomputable def mi123 : Msk := ⟨[(.tmp 0, .val (.slice (.int .u8)))], []⟩
noncomputable def mo123 : Msk := ⟨[(.tmp 2, .val (.int .i64))], []⟩
noncomputable def L123 (k : Nat) : LOrc := fun _ _ _ _ => none
noncomputable def F123 (k : Nat) (v : mi123.den) : Option mo123.den := runF TI (O25 k) (L123 k) c123 mi123 mo123 v
theorem lk123 (k : Nat) : LinksOK Tryd.prog 30 (L123 k) c123 := (And.intro True.intro (And.intro (And.intro True.intro (And.intro (And.intro True.intro True.intro) True.intro)) (And.intro True.intro (And.intro (And.intro (And.intro True.intro (And.intro True.intro True.intro)) (And.intro (And.intro True.intro True.intro) (And.intro True.intro (And.intro (And.intro True.intro True.intro) True.intro)))) (And.intro True.intro True.intro)))))
theorem fn123 (k : Nat) (args : List AV) (x : mi123.den) (r : mo123.den) (h1 : args.length = mi123.items.length) (h2 : mi123.dec (Th.start args) = some x) (h3 : F123 k x = some r) : CallOK Tryd.prog 123 args (ansOf (outL mo123.items r)) :=
  call_of hm hT (ok_O25 k) (fn := Tryd.f123) (c := c123) Tryd.func123 rfl rfl rfl (lk123 k) rfl (by decide) rfl h1 h2 h3
noncomputable def O123 (k : Nat) : Orc := fun R f args K => bif Nat.beq f 123 then callF mi123 mo123 (F123 k) args K else O25 k R f args K
theorem ok_O123 (k : Nat) : OrcOK (O123 k) (CallOK Tryd.prog) := orc_add (fn123 k) (ok_O25 k)
noncomputable def c122 : Code := Tryd.f122.body.getD .skip
noncomputable def mi122 : Msk := ⟨[(.tmp 0, .val (.st (.cons (.slice (.int .u8)) (.cons .bool .nil))))], []⟩
noncomputable def mo122 : Msk := ⟨[(.tmp 2, .val .bool)], []⟩
noncomputable def L122 (k : Nat) : LOrc := fun _ _ _ _ => none
noncomputable def F122 (k : Nat) (v : mi122.den) : Option mo122.den := runF TI (O123 k) (L122 k) c122 mi122 mo122 v
theorem lk122 (k : Nat) : LinksOK Tryd.prog 13 (L122 k) c122 := (And.intro True.intro (And.intro (And.intro True.intro (And.intro (And.intro True.intro True.intro) True.intro)) (And.intro True.intro True.intro)))
theorem fn122 (k : Nat) (args : List AV) (x : mi122.den) (r : mo122.den) (h1 : args.length = mi122.items.length) (h2 : mi122.dec (Th.start args) = some x) (h3 : F122 k x = some r) : CallOK Tryd.prog 122 args (ansOf (outL mo122.items r)) :=
  call_of hm hT (ok_O123 k) (fn := Tryd.f122) (c := c122) Tryd.func122 rfl rfl rfl (lk122 k) rfl (by decide) rfl h1 h2 h3
noncomputable def O122 (k : Nat) : Orc := fun R f args K => bif Nat.beq f 122 then callF mi122 mo122 (F122 k) args K else O123 k R f args K
theorem ok_O122 (k : Nat) : OrcOK (O122 k) (CallOK Tryd.prog) := orc_add (fn122 k) (ok_O123 k)
noncomputable def c124 : Code := Tryd.f124.body.getD .skip
noncomputable def mo124 : Msk := ⟨[(.tmp 2, .row false (.int .u8))], []⟩
noncomputable def L124 : LOrc := fun _ _ _ _ => none
noncomputable def F124 (k : Nat) (l : List (Ty.den (.int .u8))) : Option mo124.den := run TI (O122 k) L124 c124 (Th.start [.nsl (.int .u8) l]) (endF mo124)
theorem fn124 (k : Nat) (l : List (Ty.den (.int .u8))) (r : mo124.den) (h : F124 k l = some r) : CallOK Tryd.prog 124 [.sl (.int .u8) l] (ansOf (outL mo124.items r)) :=
  call_nil hm hT (ok_O122 k) (fn := Tryd.f124) (c := c124) Tryd.func124 rfl rfl rfl ((And.intro True.intro (And.intro (And.intro True.intro (And.intro (And.intro True.intro True.intro) True.intro)) (And.intro True.intro True.intro))) : LinksOK Tryd.prog 8 L124 c124) (by decide) rfl (fun e => by subst e; exact h) h
noncomputable def O124 (k : Nat) : Orc := fun R f args K => bif Nat.beq f 124 then callN (.int .u8) mo124 (F124 k) args K else O122 k R f args K
theorem ok_O124 (k : Nat) : OrcOK (O124 k) (CallOK Tryd.prog) := orc_addN (fn124 k) (ok_O122 k)
noncomputable def c107 : Code := Tryd.f107.body.getD .skip
noncomputable def mi107 : Msk := ⟨[(.tmp 0, .val (.st (.cons (.slice (.int .u8)) (.cons .bool .nil)))), (.tmp 1, .val (.slice (.int .u8)))], []⟩
noncomputable def mo107 : Msk := ⟨[(.res 4, .val (.st (.cons (.slice (.int .u8)) (.cons .bool .nil)))), (.tmp 5, .row false (.slice (.int .u8))), (.tmp 6, .val (.int .i64))], []⟩
noncomputable def L107_g0 (k : Nat) : LOrc := fun _ _ _ _ => none
noncomputable def b107_g0 : Code := (findScope 0 c107).getD .skip
noncomputable def l107_g0 : List (X × Msk) := [(.goto 0, ⟨[(.tmp 4, .ptr 4 0), (.tmp 7, .val (.slice (.int .u8))), (.tmp 8, .row false (.slice (.int .u8))), (.cell 4 0, .row false (.int .u8)), (.cell 4 1, .val .bool)], [(4, 2)]⟩)]
noncomputable def x107_g0 : List (X × Msk) := [(.ret, ⟨[(.tmp 4, .ptr 4 0), (.tmp 5, .row false (.slice (.int .u8))), (.tmp 6, .val (.int .i64)), (.cell 4 0, .val (.slice (.int .u8))), (.cell 4 1, .val .bool)], [(4, 2)]⟩)]
noncomputable def F107_g0 (k : Nat) : Nat → denE l107_g0 → Option (denE x107_g0)
  | 0, _ => none
  | j + 1, v => pass TI (O124 k) (L107_g0 k) b107_g0 l107_g0 x107_g0 (F107_g0 k j) v
theorem lk107_g0_ (k : Nat) : LinksOK Tryd.prog 46 (L107_g0 k) b107_g0 := (And.intro (And.intro True.intro (And.intro (And.intro True.intro True.intro) (And.intro True.intro (And.intro (And.intro True.intro True.intro) True.intro)))) (And.intro True.intro (And.intro True.intro (And.intro True.intro (And.intro True.intro (And.intro (And.intro True.intro (And.intro (And.intro True.intro (And.intro True.intro True.intro)) True.intro)) (And.intro (And.intro True.intro (And.intro (And.intro True.intro True.intro) True.intro)) (And.intro True.intro True.intro))))))))
noncomputable def L107 (k : Nat) : LOrc := fun R lk s K => match lk with
  | .loop r => none
  | .label l => (match findLabel b107_g0 l with | some _ => linkJ l107_g0 x107_g0 (F107_g0 k k) l s K | none => none)
theorem lk_L107_g0 (k : Nat) : JumpsOK Tryd.prog 46 (L107 k) b107_g0 := jumpsOK_of hm hT (ok_O124 k) (fun _ _ _ h => h) rfl (lk107_g0_ k) rfl rfl (F := F107_g0 k) (fun _ => rfl) (fun _ _ => rfl) (n := k) fun R l s K rest hf => by
  show (match findLabel b107_g0 l with | some _ => linkJ l107_g0 x107_g0 (F107_g0 k k) l s K | none => none) = _
  rw [hf]
noncomputable def F107 (k : Nat) (v : mi107.den) : Option mo107.den := runF TI (O124 k) (L107 k) c107 mi107 mo107 v
theorem lk107 (k : Nat) : LinksOK Tryd.prog 46 (L107 k) c107 := (And.intro True.intro (And.intro (lk_L107_g0 k) (And.intro (And.intro True.intro (And.intro (And.intro True.intro True.intro) (And.intro True.intro (And.intro (And.intro True.intro True.intro) True.intro)))) (And.intro True.intro (And.intro True.intro (And.intro True.intro (And.intro True.intro (And.intro (And.intro True.intro (And.intro (And.intro True.intro (And.intro True.intro True.intro)) True.intro)) (And.intro (And.intro True.intro (And.intro (And.intro True.intro True.intro) True.intro)) (And.intro True.intro True.intro))))))))))
theorem fn107 (k : Nat) (args : List AV) (x : mi107.den) (r : mo107.den) (h1 : args.length = mi107.items.length) (h2 : mi107.dec (Th.start args) = some x) (h3 : F107 k x = some r) : CallOK Tryd.prog 107 args (ansOf (outL mo107.items r)) :=
  call_of hm hT (ok_O124 k) (fn := Tryd.f107) (c := c107) Tryd.func107 rfl rfl rfl (lk107 k) rfl (by decide) rfl h1 h2 h3
noncomputable def O107 (k : Nat) : Orc := fun R f args K => bif Nat.beq f 107 then callF mi107 mo107 (F107 k) args K else O124 k R f args K
theorem ok_O107 (k : Nat) : OrcOK (O107 k) (CallOK Tryd.prog) := orc_add (fn107 k) (ok_O124 k)
noncomputable def c142 : Code := Tryd.f142.body.getD .skip
noncomputable def mi142 : Msk := ⟨[(.tmp 0, .val (.slice (.int .u8)))], []⟩
noncomputable def mo142 : Msk := ⟨[(.tmp 2, .val (.int .u64))], []⟩
noncomputable def L142_3 (k : Nat) : LOrc := fun _ _ _ _ => none
noncomputable def b142_3 : Code := (findLoop 3 c142).getD .skip
noncomputable def m142_3 : Msk := ⟨[(.tmp 3, .val (.int .u64)), (.tmp 7, .val (.slice (.int .u8))), (.tmp 8, .val (.int .i64)), (.tmp 9, .val (.int .i64))], []⟩
noncomputable def x142_3 : List (X × Msk) := [(.exit 0, ⟨[(.tmp 3, .val (.int .u64))], []⟩)]
noncomputable def F142_3 (k : Nat) : Nat → m142_3.den → Option (denE x142_3)
  | 0, _ => none
  | j + 1, v => round TI (O107 k) (L142_3 k) b142_3 m142_3 x142_3 (F142_3 k j) v
theorem lk142_3_ (k : Nat) : LinksOK Tryd.prog 20 (L142_3 k) b142_3 := (And.intro True.intro (And.intro (And.intro True.intro True.intro) (And.intro (And.intro True.intro True.intro) True.intro)))
noncomputable def L142 (k : Nat) : LOrc := fun R lk s K => match lk with
  | .loop r => bif Nat.beq r 3 then link m142_3 x142_3 (F142_3 k k) s K else none
  | .label l => none
theorem lk_L142_3 (k : Nat) : LoopOK Tryd.prog 20 (L142 k) b142_3 := loopOK_of hm hT (ok_O107 k) (fun _ _ _ h => h) rfl (lk142_3_ k) rfl rfl (F := F142_3 k) (fun _ => rfl) (fun _ _ => rfl) (n := k) fun _ _ _ => rfl
noncomputable def F142 (k : Nat) (v : mi142.den) : Option mo142.den := runF TI (O107 k) (L142 k) c142 mi142 mo142 v
theorem lk142 (k : Nat) : LinksOK Tryd.prog 20 (L142 k) c142 := (And.intro True.intro (And.intro True.intro (And.intro (And.intro True.intro (lk_L142_3 k)) (And.intro True.intro True.intro))))
theorem fn142 (k : Nat) (args : List AV) (x : mi142.den) (r : mo142.den) (h1 : args.length = mi142.items.length) (h2 : mi142.dec (Th.start args) = some x) (h3 : F142 k x = some r) : CallOK Tryd.prog 142 args (ansOf (outL mo142.items r)) :=
  call_of hm hT (ok_O107 k) (fn := Tryd.f142) (c := c142) Tryd.func142 rfl rfl rfl (lk142 k) rfl (by decide) rfl h1 h2 h3
noncomputable def O142 (k : Nat) : Orc := fun R f args K => bif Nat.beq f 142 then callF mi142 mo142 (F142 k) args K else O107 k R f args K
theorem ok_O142 (k : Nat) : OrcOK (O142 k) (CallOK Tryd.prog) := orc_add (fn142 k) (ok_O107 k)
noncomputable def c136 : Code := Tryd.f136.body.getD .skip
noncomputable def mi136 : Msk := ⟨[(.tmp 0, .val (.slice (.int .u8)))], []⟩
noncomputable def mo136 : Msk := ⟨[(.res 2, .val (.st (.cons (.int .u64) (.cons (.int .u64) .nil)))), (.tmp 3, .val (.int .i64)), (.tmp 4, .val (.int .i64))], []⟩
noncomputable def L136 (k : Nat) : LOrc := fun _ _ _ _ => none
noncomputable def F136 (k : Nat) (v : mi136.den) : Option mo136.den := runF TI (O142 k) (L136 k) c136 mi136 mo136 v
theorem lk136 (k : Nat) : LinksOK Tryd.prog 30 (L136 k) c136 := (And.intro True.intro (And.intro (And.intro True.intro (And.intro (And.intro True.intro True.intro) True.intro)) (And.intro True.intro (And.intro True.intro (And.intro (And.intro True.intro (And.intro (And.intro (And.intro True.intro (And.intro (And.intro True.intro True.intro) True.intro)) (And.intro True.intro True.intro)) True.intro)) (And.intro (And.intro True.intro (And.intro (And.intro True.intro True.intro) True.intro)) (And.intro True.intro True.intro)))))))
theorem fn136 (k : Nat) (args : List AV) (x : mi136.den) (r : mo136.den) (h1 : args.length = mi136.items.length) (h2 : mi136.dec (Th.start args) = some x) (h3 : F136 k x = some r) : CallOK Tryd.prog 136 args (ansOf (outL mo136.items r)) :=
  call_of hm hT (ok_O142 k) (fn := Tryd.f136) (c := c136) Tryd.func136 rfl rfl rfl (lk136 k) rfl (by decide) rfl h1 h2 h3
noncomputable def O136 (k : Nat) : Orc := fun R f args K => bif Nat.beq f 136 then callF mi136 mo136 (F136 k) args K else O142 k R f args K
theorem ok_O136 (k : Nat) : OrcOK (O136 k) (CallOK Tryd.prog) := orc_add (fn136 k) (ok_O142 k)
noncomputable def c143 : Code := Tryd.f143.body.getD .skip
noncomputable def mi143 : Msk := ⟨[(.tmp 0, .val (.st (.cons (.int .u64) (.cons (.int .u64) .nil)))), (.tmp 1, .val (.int .i64))], []⟩
noncomputable def mo143 : Msk := ⟨[(.tmp 4, .val .bool)], []⟩
noncomputable def L143 (k : Nat) : LOrc := fun _ _ _ _ => none
noncomputable def F143 (k : Nat) (v : mi143.den) : Option mo143.den := runF TI (O136 k) (L143 k) c143 mi143 mo143 v
theorem lk143 (k : Nat) : LinksOK Tryd.prog 12 (L143 k) c143 := (And.intro True.intro (And.intro True.intro True.intro))
theorem fn143 (k : Nat) (args : List AV) (x : mi143.den) (r : mo143.den) (h1 : args.length = mi143.items.length) (h2 : mi143.dec (Th.start args) = some x) (h3 : F143 k x = some r) : CallOK Tryd.prog 143 args (ansOf (outL mo143.items r)) :=
  call_of hm hT (ok_O136 k) (fn := Tryd.f143) (c := c143) Tryd.func143 rfl rfl rfl (lk143 k) rfl (by decide) rfl h1 h2 h3
noncomputable def O143 (k : Nat) : Orc := fun R f args K => bif Nat.beq f 143 then callF mi143 mo143 (F143 k) args K else O136 k R f args K
theorem ok_O143 (k : Nat) : OrcOK (O143 k) (CallOK Tryd.prog) := orc_add (fn143 k) (ok_O136 k)
noncomputable def c137 : Code := Tryd.f137.body.getD .skip
noncomputable def mi137 : Msk := ⟨[(.tmp 0, .val (.st (.cons (.int .u64) (.cons (.int .u64) .nil))))], []⟩
noncomputable def mo137 : Msk := ⟨[(.tmp 2, .row false (.int .i64))], []⟩
noncomputable def L137_g0 (k : Nat) : LOrc := fun _ _ _ _ => none
noncomputable def b137_g0 : Code := (findScope 0 c137).getD .skip
noncomputable def l137_g0 : List (X × Msk) := [(.goto 0, ⟨[(.tmp 1, .ptr 1 0), (.tmp 3, .row false (.int .i64)), (.tmp 4, .val (.int .i64)), (.cell 1 0, .val (.int .u64)), (.cell 1 1, .val (.int .u64))], [(1, 2)]⟩)]
noncomputable def x137_g0 : List (X × Msk) := [(.ret, ⟨[(.tmp 2, .row false (.int .i64))], []⟩)]
noncomputable def F137_g0 (k : Nat) : Nat → denE l137_g0 → Option (denE x137_g0)
  | 0, _ => none
  | j + 1, v => pass TI (O143 k) (L137_g0 k) b137_g0 l137_g0 x137_g0 (F137_g0 k j) v
theorem lk137_g0_ (k : Nat) : LinksOK Tryd.prog 17 (L137_g0 k) b137_g0 := (And.intro True.intro (And.intro True.intro (And.intro True.intro (And.intro (And.intro True.intro (And.intro True.intro True.intro)) (And.intro True.intro (And.intro (And.intro True.intro (And.intro True.intro True.intro)) (And.intro True.intro True.intro)))))))
noncomputable def L137 (k : Nat) : LOrc := fun R lk s K => match lk with
  | .loop r => none
  | .label l => (match findLabel b137_g0 l with | some _ => linkJ l137_g0 x137_g0 (F137_g0 k k) l s K | none => none)
theorem lk_L137_g0 (k : Nat) : JumpsOK Tryd.prog 17 (L137 k) b137_g0 := jumpsOK_of hm hT (ok_O143 k) (fun _ _ _ h => h) rfl (lk137_g0_ k) rfl rfl (F := F137_g0 k) (fun _ => rfl) (fun _ _ => rfl) (n := k) fun R l s K rest hf => by
  show (match findLabel b137_g0 l with | some _ => linkJ l137_g0 x137_g0 (F137_g0 k k) l s K | none => none) = _
  rw [hf]
noncomputable def F137 (k : Nat) (v : mi137.den) : Option mo137.den := runF TI (O143 k) (L137 k) c137 mi137 mo137 v
theorem lk137 (k : Nat) : LinksOK Tryd.prog 17 (L137 k) c137 := (And.intro True.intro (And.intro (lk_L137_g0 k) (And.intro True.intro (And.intro True.intro (And.intro True.intro (And.intro (And.intro True.intro (And.intro True.intro True.intro)) (And.intro True.intro (And.intro (And.intro True.intro (And.intro True.intro True.intro)) (And.intro True.intro True.intro)))))))))
theorem fn137 (k : Nat) (args : List AV) (x : mi137.den) (r : mo137.den) (h1 : args.length = mi137.items.length) (h2 : mi137.dec (Th.start args) = some x) (h3 : F137 k x = some r) : CallOK Tryd.prog 137 args (ansOf (outL mo137.items r)) :=
  call_of hm hT (ok_O143 k) (fn := Tryd.f137) (c := c137) Tryd.func137 rfl rfl rfl (lk137 k) rfl (by decide) rfl h1 h2 h3
noncomputable def O137 (k : Nat) : Orc := fun R f args K => bif Nat.beq f 137 then callF mi137 mo137 (F137 k) args K else O143 k R f args K
theorem ok_O137 (k : Nat) : OrcOK (O137 k) (CallOK Tryd.prog) := orc_add (fn137 k) (ok_O143 k)
noncomputable def c125 : Code := Tryd.f125.body.getD .skip
noncomputable def mi125 : Msk := ⟨[(.tmp 0, .val (.slice (.int .u8)))], []⟩
noncomputable def mo125 : Msk := ⟨[(.tmp 2, .val .str), (.tmp 3, .row false (.int .i64)), (.tmp 4, .val (.slice (.int .u8))), (.tmp 5, .val (.int .i64))], []⟩
noncomputable def L125 (k : Nat) : LOrc := fun _ _ _ _ => none
noncomputable def F125 (k : Nat) (v : mi125.den) : Option mo125.den := runF TI (O137 k) (L125 k) c125 mi125 mo125 v
theorem lk125 (k : Nat) : LinksOK Tryd.prog 36 (L125 k) c125 := (And.intro True.intro (And.intro (And.intro True.intro (And.intro (And.intro True.intro True.intro) (And.intro True.intro (And.intro (And.intro True.intro True.intro) True.intro)))) (And.intro True.intro (And.intro True.intro True.intro))))
theorem fn125 (k : Nat) (args : List AV) (x : mi125.den) (r : mo125.den) (h1 : args.length = mi125.items.length) (h2 : mi125.dec (Th.start args) = some x) (h3 : F125 k x = some r) : CallOK Tryd.prog 125 args (ansOf (outL mo125.items r)) :=
  call_of hm hT (ok_O137 k) (fn := Tryd.f125) (c := c125) Tryd.func125 rfl rfl rfl (lk125 k) rfl (by decide) rfl h1 h2 h3
noncomputable def O125 (k : Nat) : Orc := fun R f args K => bif Nat.beq f 125 then callF mi125 mo125 (F125 k) args K else O137 k R f args K
theorem ok_O125 (k : Nat) : OrcOK (O125 k) (CallOK Tryd.prog) := orc_add (fn125 k) (ok_O137 k)
noncomputable def c139 : Code := Tryd.f139.body.getD .skip
noncomputable def mi139 : Msk := ⟨[(.tmp 0, .val .str)], []⟩
noncomputable def mo139 : Msk := ⟨[(.tmp 2, .val (.int .u64)), (.tmp 3, .val (.int .i64))], []⟩
noncomputable def L139_9 (k : Nat) : LOrc := fun _ _ _ _ => none
noncomputable def b139_9 : Code := (findLoop 9 c139).getD .skip
noncomputable def m139_9 : Msk := ⟨[(.tmp 4, .val (.int .u64)), (.tmp 19, .row false (.int .u8)), (.tmp 20, .val (.int .i64)), (.tmp 21, .val (.int .i64))], []⟩
noncomputable def x139_9 : List (X × Msk) := [(.exit 1, ⟨[(.tmp 4, .val (.int .u64))], []⟩)]
noncomputable def F139_9 (k : Nat) : Nat → m139_9.den → Option (denE x139_9)
  | 0, _ => none
  | j + 1, v => round TI (O125 k) (L139_9 k) b139_9 m139_9 x139_9 (F139_9 k j) v
theorem lk139_9_ (k : Nat) : LinksOK Tryd.prog 33 (L139_9 k) b139_9 := (And.intro True.intro (And.intro (And.intro True.intro True.intro) (And.intro (And.intro True.intro True.intro) True.intro)))
noncomputable def L139 (k : Nat) : LOrc := fun R lk s K => match lk with
  | .loop r => bif Nat.beq r 9 then link m139_9 x139_9 (F139_9 k k) s K else none
  | .label l => none
theorem lk_L139_9 (k : Nat) : LoopOK Tryd.prog 33 (L139 k) b139_9 := loopOK_of hm hT (ok_O125 k) (fun _ _ _ h => h) rfl (lk139_9_ k) rfl rfl (F := F139_9 k) (fun _ => rfl) (fun _ _ => rfl) (n := k) fun _ _ _ => rfl
noncomputable def F139 (k : Nat) (v : mi139.den) : Option mo139.den := runF TI (O125 k) (L139 k) c139 mi139 mo139 v
theorem lk139 (k : Nat) : LinksOK Tryd.prog 33 (L139 k) c139 := (And.intro True.intro (And.intro (And.intro True.intro (And.intro (And.intro True.intro True.intro) (And.intro True.intro (And.intro (And.intro True.intro True.intro) (And.intro True.intro (And.intro (And.intro True.intro True.intro) True.intro)))))) (And.intro True.intro (And.intro (And.intro True.intro (lk_L139_9 k)) (And.intro True.intro True.intro)))))
theorem fn139 (k : Nat) (args : List AV) (x : mi139.den) (r : mo139.den) (h1 : args.length = mi139.items.length) (h2 : mi139.dec (Th.start args) = some x) (h3 : F139 k x = some r) : CallOK Tryd.prog 139 args (ansOf (outL mo139.items r)) :=
  call_of hm hT (ok_O125 k) (fn := Tryd.f139) (c := c139) Tryd.func139 rfl rfl rfl (lk139 k) rfl (by decide) rfl h1 h2 h3
noncomputable def O139 (k : Nat) : Orc := fun R f args K => bif Nat.beq f 139 then callF mi139 mo139 (F139 k) args K else O125 k R f args K
theorem ok_O139 (k : Nat) : OrcOK (O139 k) (CallOK Tryd.prog) := orc_add (fn139 k) (ok_O125 k)
noncomputable def c138 : Code := Tryd.f138.body.getD .skip
noncomputable def mi138 : Msk := ⟨[(.tmp 0, .val (.st (.cons (.int .i64) (.cons (.int .i64) (.cons (.int .i64) .nil))))), (.tmp 1, .val (.slice (.int .u8)))], []⟩
noncomputable def mo138 : Msk := ⟨[(.tmp 4, .val (.int .i64)), (.tmp 5, .val (.int .i64))], []⟩
noncomputable def L138 (k : Nat) : LOrc := fun _ _ _ _ => none
noncomputable def F138 (k : Nat) (v : mi138.den) : Option mo138.den := runF TI (O139 k) (L138 k) c138 mi138 mo138 v
theorem lk138 (k : Nat) : LinksOK Tryd.prog 41 (L138 k) c138 := (And.intro True.intro (And.intro True.intro (And.intro (And.intro True.intro (And.intro (And.intro True.intro True.intro) True.intro)) (And.intro (And.intro True.intro (And.intro (And.intro True.intro True.intro) True.intro)) (And.intro True.intro (And.intro (And.intro (And.intro True.intro (And.intro True.intro True.intro)) (And.intro (And.intro True.intro True.intro) (And.intro True.intro (And.intro (And.intro True.intro True.intro) True.intro)))) (And.intro True.intro True.intro)))))))
theorem fn138 (k : Nat) (args : List AV) (x : mi138.den) (r : mo138.den) (h1 : args.length = mi138.items.length) (h2 : mi138.dec (Th.start args) = some x) (h3 : F138 k x = some r) : CallOK Tryd.prog 138 args (ansOf (outL mo138.items r)) :=
  call_of hm hT (ok_O139 k) (fn := Tryd.f138) (c := c138) Tryd.func138 rfl rfl rfl (lk138 k) rfl (by decide) rfl h1 h2 h3
noncomputable def O138 (k : Nat) : Orc := fun R f args K => bif Nat.beq f 138 then callF mi138 mo138 (F138 k) args K else O139 k R f args K
theorem ok_O138 (k : Nat) : OrcOK (O138 k) (CallOK Tryd.prog) := orc_add (fn138 k) (ok_O139 k)
noncomputable def c126 : Code := Tryd.f126.body.getD .skip
noncomputable def mi126 : Msk := ⟨[(.tmp 0, .val (.int .i64)), (.tmp 1, .val (.slice (.int .u8)))], []⟩
noncomputable def mo126 : Msk := ⟨[(.tmp 4, .val .str), (.tmp 5, .val (.int .i64)), (.tmp 6, .val (.int .i64))], []⟩
noncomputable def L126 (k : Nat) : LOrc := fun _ _ _ _ => none
noncomputable def F126 (k : Nat) (v : mi126.den) : Option mo126.den := runF TI (O138 k) (L126 k) c126 mi126 mo126 v
theorem lk126 (k : Nat) : LinksOK Tryd.prog 51 (L126 k) c126 := (And.intro True.intro (And.intro True.intro (And.intro (And.intro True.intro (And.intro (And.intro True.intro True.intro) True.intro)) (And.intro True.intro (And.intro (And.intro True.intro (And.intro (And.intro True.intro True.intro) True.intro)) (And.intro True.intro (And.intro True.intro (And.intro (And.intro True.intro (And.intro (And.intro True.intro True.intro) True.intro)) (And.intro True.intro (And.intro (And.intro True.intro (And.intro (And.intro True.intro True.intro) True.intro)) (And.intro True.intro True.intro)))))))))))
theorem fn126 (k : Nat) (args : List AV) (x : mi126.den) (r : mo126.den) (h1 : args.length = mi126.items.length) (h2 : mi126.dec (Th.start args) = some x) (h3 : F126 k x = some r) : CallOK Tryd.prog 126 args (ansOf (outL mo126.items r)) :=
  call_of hm hT (ok_O138 k) (fn := Tryd.f126) (c := c126) Tryd.func126 rfl rfl rfl (lk126 k) rfl (by decide) rfl h1 h2 h3
noncomputable def O126 (k : Nat) : Orc := fun R f args K => bif Nat.beq f 126 then callF mi126 mo126 (F126 k) args K else O138 k R f args K
theorem ok_O126 (k : Nat) : OrcOK (O126 k) (CallOK Tryd.prog) := orc_add (fn126 k) (ok_O138 k)
noncomputable def c108 : Code := Tryd.f108.body.getD .skip
noncomputable def mi108 : Msk := ⟨[(.tmp 0, .val (.slice (.int .u8)))], []⟩
noncomputable def mo108 : Msk := ⟨[(.res 2, .val (.st (.cons .str (.cons (.slice (.st (.cons (.int .i64) (.cons .str .nil)))) .nil)))), (.tmp 3, .val (.int .i64))], []⟩
noncomputable def L108_8 (k : Nat) : LOrc := fun _ _ _ _ => none
noncomputable def b108_8 : Code := (findLoop 8 c108).getD .skip
noncomputable def m108_8 : Msk := ⟨[(.tmp 2, .ptr 2 0), (.tmp 6, .val (.slice (.int .u8))), (.tmp 8, .ptr 8 0), (.tmp 33, .row false (.int .i64)), (.tmp 34, .val (.int .i64)), (.tmp 35, .val (.int .i64)), (.cell 2 0, .val .str), (.cell 2 1, .row false (.st (.cons (.int .i64) (.cons .str .nil)))), (.cell 8 0, .val .str), (.cell 8 1, .row false (.st (.cons (.int .i64) (.cons .str .nil))))], [(2, 2), (8, 2)]⟩
noncomputable def x108_8 : List (X × Msk) := [(.exit 1, ⟨[(.tmp 2, .ptr 2 0), (.tmp 6, .val (.slice (.int .u8))), (.tmp 8, .ptr 8 0), (.cell 2 0, .val .str), (.cell 2 1, .row false (.st (.cons (.int .i64) (.cons .str .nil)))), (.cell 8 0, .val .str), (.cell 8 1, .row false (.st (.cons (.int .i64) (.cons .str .nil))))], [(2, 2), (8, 2)]⟩), (.ret, ⟨[(.tmp 2, .ptr 2 0), (.tmp 3, .val (.int .i64)), (.cell 2 0, .val .str), (.cell 2 1, .row false (.st (.cons (.int .i64) (.cons .str .nil))))], [(2, 2)]⟩)]
noncomputable def F108_8 (k : Nat) : Nat → m108_8.den → Option (denE x108_8)
  | 0, _ => none
  | j + 1, v => round TI (O126 k) (L108_8 k) b108_8 m108_8 x108_8 (F108_8 k j) v
theorem lk108_8_ (k : Nat) : LinksOK Tryd.prog 67 (L108_8 k) b108_8 := (And.intro True.intro (And.intro (And.intro True.intro True.intro) (And.intro (And.intro True.intro (And.intro True.intro (And.intro (And.intro True.intro (And.intro (And.intro True.intro True.intro) True.intro)) True.intro))) True.intro)))
noncomputable def L108 (k : Nat) : LOrc := fun R lk s K => match lk with
  | .loop r => bif Nat.beq r 8 then link m108_8 x108_8 (F108_8 k k) s K else none
  | .label l => none
theorem lk_L108_8 (k : Nat) : LoopOK Tryd.prog 67 (L108 k) b108_8 := loopOK_of hm hT (ok_O126 k) (fun _ _ _ h => h) rfl (lk108_8_ k) rfl rfl (F := F108_8 k) (fun _ => rfl) (fun _ _ => rfl) (n := k) fun _ _ _ => rfl
noncomputable def F108 (k : Nat) (v : mi108.den) : Option mo108.den := runF TI (O126 k) (L108 k) c108 mi108 mo108 v
theorem lk108 (k : Nat) : LinksOK Tryd.prog 67 (L108 k) c108 := (And.intro True.intro (And.intro True.intro (And.intro (And.intro True.intro (And.intro (And.intro True.intro True.intro) (And.intro True.intro (And.intro (And.intro True.intro True.intro) True.intro)))) (And.intro True.intro (And.intro (And.intro True.intro (lk_L108_8 k)) (And.intro (And.intro True.intro (And.intro (And.intro True.intro True.intro) True.intro)) (And.intro True.intro True.intro)))))))
theorem fn108 (k : Nat) (args : List AV) (x : mi108.den) (r : mo108.den) (h1 : args.length = mi108.items.length) (h2 : mi108.dec (Th.start args) = some x) (h3 : F108 k x = some r) : CallOK Tryd.prog 108 args (ansOf (outL mo108.items r)) :=
  call_of hm hT (ok_O126 k) (fn := Tryd.f108) (c := c108) Tryd.func108 rfl rfl rfl (lk108 k) rfl (by decide) rfl h1 h2 h3
noncomputable def O108 (k : Nat) : Orc := fun R f args K => bif Nat.beq f 108 then callF mi108 mo108 (F108 k) args K else O126 k R f args K
theorem ok_O108 (k : Nat) : OrcOK (O108 k) (CallOK Tryd.prog) := orc_add (fn108 k) (ok_O126 k)
noncomputable def c127 : Code := Tryd.f127.body.getD .skip
noncomputable def mi127 : Msk := ⟨[(.tmp 0, .val .str)], []⟩
noncomputable def mo127 : Msk := ⟨[(.tmp 2, .val (.int .i64))], []⟩
noncomputable def L127_2 (k : Nat) : LOrc := fun _ _ _ _ => none
noncomputable def b127_2 : Code := (findLoop 2 c127).getD .skip
noncomputable def m127_2 : Msk := ⟨[(.tmp 0, .val .str), (.tmp 3, .val (.int .i64))], []⟩
noncomputable def x127_2 : List (X × Msk) := [(.exit 0, ⟨[], []⟩), (.ret, ⟨[(.tmp 2, .val (.int .i64))], []⟩)]
noncomputable def F127_2 (k : Nat) : Nat → m127_2.den → Option (denE x127_2)
  | 0, _ => none
  | j + 1, v => round TI (O108 k) (L127_2 k) b127_2 m127_2 x127_2 (F127_2 k j) v
theorem lk127_2_ (k : Nat) : LinksOK Tryd.prog 13 (L127_2 k) b127_2 := (And.intro (And.intro True.intro (And.intro True.intro True.intro)) (And.intro (And.intro True.intro (And.intro (And.intro True.intro True.intro) True.intro)) True.intro))
noncomputable def L127 (k : Nat) : LOrc := fun R lk s K => match lk with
  | .loop r => bif Nat.beq r 2 then link m127_2 x127_2 (F127_2 k k) s K else none
  | .label l => none
theorem lk_L127_2 (k : Nat) : LoopOK Tryd.prog 13 (L127 k) b127_2 := loopOK_of hm hT (ok_O108 k) (fun _ _ _ h => h) rfl (lk127_2_ k) rfl rfl (F := F127_2 k) (fun _ => rfl) (fun _ _ => rfl) (n := k) fun _ _ _ => rfl
noncomputable def F127 (k : Nat) (v : mi127.den) : Option mo127.den := runF TI (O108 k) (L127 k) c127 mi127 mo127 v
theorem lk127 (k : Nat) : LinksOK Tryd.prog 13 (L127 k) c127 := (And.intro True.intro (And.intro (And.intro True.intro (lk_L127_2 k)) (And.intro True.intro True.intro)))
theorem fn127 (k : Nat) (args : List AV) (x : mi127.den) (r : mo127.den) (h1 : args.length = mi127.items.length) (h2 : mi127.dec (Th.start args) = some x) (h3 : F127 k x = some r) : CallOK Tryd.prog 127 args (ansOf (outL mo127.items r)) :=
  call_of hm hT (ok_O108 k) (fn := Tryd.f127) (c := c127) Tryd.func127 rfl rfl rfl (lk127 k) rfl (by decide) rfl h1 h2 h3
noncomputable def O127 (k : Nat) : Orc := fun R f args K => bif Nat.beq f 127 then callF mi127 mo127 (F127 k) args K else O108 k R f args K
theorem ok_O127 (k : Nat) : OrcOK (O127 k) (CallOK Tryd.prog) := orc_add (fn127 k) (ok_O108 k)
noncomputable def c141 : Code := Tryd.f141.body.getD .skip
noncomputable def mi141 : Msk := ⟨[(.tmp 0, .val (.st (.cons (.int .i64) (.cons .str .nil)))), (.tmp 1, .val (.ref (.cons (.int .i64) .nil)))], []⟩
noncomputable def mo141 : Msk := ⟨[(.tmp 3, .val .bool)], []⟩
noncomputable def L141 (k : Nat) : LOrc := fun _ _ _ _ => none
noncomputable def F141 (k : Nat) (v : mi141.den) : Option mo141.den := runF TI (O127 k) (L141 k) c141 mi141 mo141 v
theorem lk141 (k : Nat) : LinksOK Tryd.prog 8 (L141 k) c141 := (And.intro True.intro (And.intro True.intro True.intro))
theorem fn141 (k : Nat) (args : List AV) (x : mi141.den) (r : mo141.den) (h1 : args.length = mi141.items.length) (h2 : mi141.dec (Th.start args) = some x) (h3 : F141 k x = some r) : CallOK Tryd.prog 141 args (ansOf (outL mo141.items r)) :=
  call_of hm hT (ok_O127 k) (fn := Tryd.f141) (c := c141) Tryd.func141 rfl rfl rfl (lk141 k) rfl (by decide) rfl h1 h2 h3
noncomputable def O141 (k : Nat) : Orc := fun R f args K => bif Nat.beq f 141 then callF mi141 mo141 (F141 k) args K else O127 k R f args K
theorem ok_O141 (k : Nat) : OrcOK (O141 k) (CallOK Tryd.prog) := orc_add (fn141 k) (ok_O127 k)
noncomputable def c7000000 : Code := Tryd.f140.body.getD .skip
noncomputable def mi7000000 : Msk := ⟨[(.tmp 0, .val (.slice (.st (.cons (.int .i64) (.cons .str .nil))))), (.tmp 1, .val (.clo 141 (.cons (.ref (.cons (.int .i64) .nil)) .nil)))], []⟩
noncomputable def mo7000000 : Msk := ⟨[(.tmp 4, .val (.int .i64))], []⟩
noncomputable def L7000000_2 (k : Nat) : LOrc := fun _ _ _ _ => none
noncomputable def b7000000_2 : Code := (findLoop 2 c7000000).getD .skip
noncomputable def m7000000_2 : Msk := ⟨[(.tmp 0, .val (.slice (.st (.cons (.int .i64) (.cons .str .nil))))), (.tmp 1, .val (.clo 141 (.cons (.ref (.cons (.int .i64) .nil)) .nil))), (.tmp 7, .val (.int .i64)), (.tmp 8, .val (.int .i64))], []⟩
noncomputable def x7000000_2 : List (X × Msk) := [(.exit 0, ⟨[], []⟩), (.ret, ⟨[(.tmp 4, .val (.int .i64))], []⟩)]
noncomputable def F7000000_2 (k : Nat) : Nat → m7000000_2.den → Option (denE x7000000_2)
  | 0, _ => none
  | j + 1, v => round TI (O141 k) (L7000000_2 k) b7000000_2 m7000000_2 x7000000_2 (F7000000_2 k j) v
theorem lk7000000_2_ (k : Nat) : LinksOK Tryd.prog 19 (L7000000_2 k) b7000000_2 := (And.intro True.intro (And.intro (And.intro True.intro True.intro) (And.intro (And.intro True.intro (And.intro True.intro (And.intro (And.intro True.intro True.intro) True.intro))) True.intro)))
noncomputable def L7000000 (k : Nat) : LOrc := fun R lk s K => match lk with
  | .loop r => bif Nat.beq r 2 then link m7000000_2 x7000000_2 (F7000000_2 k k) s K else none
  | .label l => none
theorem lk_L7000000_2 (k : Nat) : LoopOK Tryd.prog 19 (L7000000 k) b7000000_2 := loopOK_of hm hT (ok_O141 k) (fun _ _ _ h => h) rfl (lk7000000_2_ k) rfl rfl (F := F7000000_2 k) (fun _ => rfl) (fun _ _ => rfl) (n := k) fun _ _ _ => rfl
noncomputable def F7000000 (k : Nat) (v : mi7000000.den) : Option mo7000000.den := runF TI (O141 k) (L7000000 k) c7000000 mi7000000 mo7000000 v
theorem lk7000000 (k : Nat) : LinksOK Tryd.prog 19 (L7000000 k) c7000000 := (And.intro True.intro (And.intro (And.intro True.intro (lk_L7000000_2 k)) (And.intro True.intro True.intro)))
theorem fn7000000 (k : Nat) (args : List AV) (x : mi7000000.den) (r : mo7000000.den) (h1 : args.length = mi7000000.items.length) (h2 : mi7000000.dec (Th.start args) = some x) (h3 : F7000000 k x = some r) : CallOK Tryd.prog 140 args (ansOf (outL mo7000000.items r)) :=
  call_of hm hT (ok_O141 k) (fn := Tryd.f140) (c := c7000000) Tryd.func140 rfl rfl rfl (lk7000000 k) rfl (by decide) rfl h1 h2 h3
noncomputable def O7000000 (k : Nat) : Orc := fun R f args K => bif (bif Nat.beq f 140 then isClo 1 141 args else false) then callF mi7000000 mo7000000 (F7000000 k) args K else O141 k R f args K
theorem ok_O7000000 (k : Nat) : OrcOK (O7000000 k) (CallOK Tryd.prog) := orc_addP (fn7000000 k) (ok_O141 k)
noncomputable def c129 : Code := Tryd.f129.body.getD .skip
noncomputable def mi129 : Msk := ⟨[(.tmp 0, .val (.st (.cons .str (.cons (.slice (.st (.cons (.int .i64) (.cons .str .nil)))) .nil)))), (.tmp 1, .val (.int .i64))], []⟩
noncomputable def mo129 : Msk := ⟨[(.tmp 4, .val .str), (.tmp 5, .val .bool)], []⟩
noncomputable def L129 (k : Nat) : LOrc := fun _ _ _ _ => none
noncomputable def F129 (k : Nat) (v : mi129.den) : Option mo129.den := runF TI (O7000000 k) (L129 k) c129 mi129 mo129 v
theorem lk129 (k : Nat) : LinksOK Tryd.prog 19 (L129 k) c129 := (And.intro True.intro (And.intro True.intro (And.intro (And.intro True.intro (And.intro (And.intro True.intro True.intro) True.intro)) (And.intro True.intro True.intro))))
theorem fn129 (k : Nat) (args : List AV) (x : mi129.den) (r : mo129.den) (h1 : args.length = mi129.items.length) (h2 : mi129.dec (Th.start args) = some x) (h3 : F129 k x = some r) : CallOK Tryd.prog 129 args (ansOf (outL mo129.items r)) :=
  call_of hm hT (ok_O7000000 k) (fn := Tryd.f129) (c := c129) Tryd.func129 rfl rfl rfl (lk129 k) rfl (by decide) rfl h1 h2 h3
noncomputable def O129 (k : Nat) : Orc := fun R f args K => bif Nat.beq f 129 then callF mi129 mo129 (F129 k) args K else O7000000 k R f args K
theorem ok_O129 (k : Nat) : OrcOK (O129 k) (CallOK Tryd.prog) := orc_add (fn129 k) (ok_O7000000 k)
noncomputable def c128 : Code := Tryd.f128.body.getD .skip
noncomputable def mi128 : Msk := ⟨[(.tmp 0, .val (.st (.cons .str (.cons (.slice (.st (.cons (.int .i64) (.cons .str .nil)))) .nil)))), (.tmp 1, .val (.int .i64))], []⟩
noncomputable def mo128 : Msk := ⟨[(.tmp 4, .val (.int .u64))], []⟩
noncomputable def L128 (k : Nat) : LOrc := fun _ _ _ _ => none
noncomputable def F128 (k : Nat) (v : mi128.den) : Option mo128.den := runF TI (O129 k) (L128 k) c128 mi128 mo128 v
theorem lk128 (k : Nat) : LinksOK Tryd.prog 21 (L128 k) c128 := (And.intro True.intro (And.intro True.intro (And.intro True.intro (And.intro True.intro True.intro))))
theorem fn128 (k : Nat) (args : List AV) (x : mi128.den) (r : mo128.den) (h1 : args.length = mi128.items.length) (h2 : mi128.dec (Th.start args) = some x) (h3 : F128 k x = some r) : CallOK Tryd.prog 128 args (ansOf (outL mo128.items r)) :=
  call_of hm hT (ok_O129 k) (fn := Tryd.f128) (c := c128) Tryd.func128 rfl rfl rfl (lk128 k) rfl (by decide) rfl h1 h2 h3
noncomputable def O128 (k : Nat) : Orc := fun R f args K => bif Nat.beq f 128 then callF mi128 mo128 (F128 k) args K else O129 k R f args K
theorem ok_O128 (k : Nat) : OrcOK (O128 k) (CallOK Tryd.prog) := orc_add (fn128 k) (ok_O129 k)
noncomputable def c130 : Code := Tryd.f130.body.getD .skip
noncomputable def mi130 : Msk := ⟨[(.tmp 0, .val (.st (.cons .str (.cons (.slice (.st (.cons (.int .i64) (.cons .str .nil)))) .nil)))), (.tmp 1, .val (.st (.cons (.int .i64) (.cons .str (.cons (.int .u64) (.cons (.int .u32) (.cons .str (.cons .str .nil))))))))], []⟩
noncomputable def mo130 : Msk := ⟨[(.tmp 4, .val .bool)], []⟩
noncomputable def L130_5 (k : Nat) : LOrc := fun _ _ _ _ => none
noncomputable def b130_5 : Code := (findLoop 5 c130).getD .skip
noncomputable def m130_5 : Msk := ⟨[(.tmp 2, .ptr 2 0), (.tmp 16, .row false (.st (.cons (.int .i64) (.cons .str .nil)))), (.tmp 17, .val (.int .i64)), (.tmp 18, .val (.int .i64)), (.cell 2 0, .val .str), (.cell 2 1, .val (.slice (.st (.cons (.int .i64) (.cons .str .nil)))))], [(2, 2)]⟩
noncomputable def x130_5 : List (X × Msk) := [(.exit 0, ⟨[], []⟩), (.ret, ⟨[(.tmp 4, .val .bool)], []⟩)]
noncomputable def F130_5 (k : Nat) : Nat → m130_5.den → Option (denE x130_5)
  | 0, _ => none
  | j + 1, v => round TI (O128 k) (L130_5 k) b130_5 m130_5 x130_5 (F130_5 k j) v
theorem lk130_5_ (k : Nat) : LinksOK Tryd.prog 33 (L130_5 k) b130_5 := (And.intro True.intro (And.intro (And.intro True.intro True.intro) (And.intro (And.intro True.intro (And.intro True.intro (And.intro (And.intro True.intro True.intro) True.intro))) True.intro)))
noncomputable def L130 (k : Nat) : LOrc := fun R lk s K => match lk with
  | .loop r => bif Nat.beq r 5 then link m130_5 x130_5 (F130_5 k k) s K else none
  | .label l => none
theorem lk_L130_5 (k : Nat) : LoopOK Tryd.prog 33 (L130 k) b130_5 := loopOK_of hm hT (ok_O128 k) (fun _ _ _ h => h) rfl (lk130_5_ k) rfl rfl (F := F130_5 k) (fun _ => rfl) (fun _ _ => rfl) (n := k) fun _ _ _ => rfl
noncomputable def F130 (k : Nat) (v : mi130.den) : Option mo130.den := runF TI (O128 k) (L130 k) c130 mi130 mo130 v
theorem lk130 (k : Nat) : LinksOK Tryd.prog 33 (L130 k) c130 := (And.intro True.intro (And.intro True.intro (And.intro (And.intro True.intro (And.intro (And.intro True.intro True.intro) True.intro)) (And.intro (And.intro True.intro (lk_L130_5 k)) (And.intro True.intro True.intro)))))
theorem fn130 (k : Nat) (args : List AV) (x : mi130.den) (r : mo130.den) (h1 : args.length = mi130.items.length) (h2 : mi130.dec (Th.start args) = some x) (h3 : F130 k x = some r) : CallOK Tryd.prog 130 args (ansOf (outL mo130.items r)) :=
  call_of hm hT (ok_O128 k) (fn := Tryd.f130) (c := c130) Tryd.func130 rfl rfl rfl (lk130 k) rfl (by decide) rfl h1 h2 h3
noncomputable def O130 (k : Nat) : Orc := fun R f args K => bif Nat.beq f 130 then callF mi130 mo130 (F130 k) args K else O128 k R f args K
theorem ok_O130 (k : Nat) : OrcOK (O130 k) (CallOK Tryd.prog) := orc_add (fn130 k) (ok_O128 k)
noncomputable def c109 : Code := Tryd.f109.body.getD .skip
noncomputable def mi109 : Msk := ⟨[(.tmp 0, .val (.st (.cons .str (.cons (.slice (.st (.cons (.int .i64) (.cons .str .nil)))) .nil))))], []⟩
noncomputable def mo109 : Msk := ⟨[(.res 2, .val (.st (.cons (.int .i64) (.cons .str (.cons (.int .u64) (.cons (.int .u32) (.cons .str (.cons .str .nil)))))))), (.tmp 3, .val (.int .i64))], []⟩
noncomputable def L109 (k : Nat) : LOrc := fun _ _ _ _ => none
noncomputable def F109 (k : Nat) (v : mi109.den) : Option mo109.den := runF TI (O130 k) (L109 k) c109 mi109 mo109 v
theorem lk109 (k : Nat) : LinksOK Tryd.prog 84 (L109 k) c109 := (And.intro True.intro (And.intro (And.intro True.intro (And.intro (And.intro True.intro True.intro) True.intro)) (And.intro True.intro (And.intro True.intro (And.intro True.intro (And.intro True.intro (And.intro True.intro (And.intro (And.intro (And.intro True.intro (And.intro True.intro True.intro)) (And.intro (And.intro True.intro True.intro) (And.intro True.intro (And.intro (And.intro True.intro True.intro) (And.intro True.intro (And.intro (And.intro True.intro True.intro) True.intro)))))) (And.intro True.intro True.intro)))))))))
theorem fn109 (k : Nat) (args : List AV) (x : mi109.den) (r : mo109.den) (h1 : args.length = mi109.items.length) (h2 : mi109.dec (Th.start args) = some x) (h3 : F109 k x = some r) : CallOK Tryd.prog 109 args (ansOf (outL mo109.items r)) :=
  call_of hm hT (ok_O130 k) (fn := Tryd.f109) (c := c109) Tryd.func109 rfl rfl rfl (lk109 k) rfl (by decide) rfl h1 h2 h3
noncomputable def O109 (k : Nat) : Orc := fun R f args K => bif Nat.beq f 109 then callF mi109 mo109 (F109 k) args K else O130 k R f args K
theorem ok_O109 (k : Nat) : OrcOK (O109 k) (CallOK Tryd.prog) := orc_add (fn109 k) (ok_O130 k)
noncomputable def c80 : Code := Tryd.f80.body.getD .skip
noncomputable def mi80 : Msk := ⟨[(.tmp 0, .val (.slice (.int .u8)))], []⟩
noncomputable def mo80 : Msk := ⟨[(.res 2, .val (.st (.cons (.int .i64) (.cons .str (.cons (.int .u64) (.cons (.int .u32) (.cons .str (.cons .str .nil)))))))), (.tmp 3, .val (.int .i64))], []⟩
noncomputable def L80 (k : Nat) : LOrc := fun _ _ _ _ => none
noncomputable def F80 (k : Nat) (v : mi80.den) : Option mo80.den := runF TI (O109 k) (L80 k) c80 mi80 mo80 v
theorem lk80 (k : Nat) : LinksOK Tryd.prog 44 (L80 k) c80 := (And.intro True.intro (And.intro True.intro (And.intro (And.intro True.intro (And.intro (And.intro True.intro True.intro) True.intro)) (And.intro True.intro (And.intro (And.intro True.intro (And.intro (And.intro True.intro True.intro) True.intro)) (And.intro True.intro True.intro))))))
theorem fn80 (k : Nat) (args : List AV) (x : mi80.den) (r : mo80.den) (h1 : args.length = mi80.items.length) (h2 : mi80.dec (Th.start args) = some x) (h3 : F80 k x = some r) : CallOK Tryd.prog 80 args (ansOf (outL mo80.items r)) :=
  call_of hm hT (ok_O109 k) (fn := Tryd.f80) (c := c80) Tryd.func80 rfl rfl rfl (lk80 k) rfl (by decide) rfl h1 h2 h3
noncomputable def O80 (k : Nat) : Orc := fun R f args K => bif Nat.beq f 80 then callF mi80 mo80 (F80 k) args K else O109 k R f args K
theorem ok_O80 (k : Nat) : OrcOK (O80 k) (CallOK Tryd.prog) := orc_add (fn80 k) (ok_O109 k)
noncomputable def c27 : Code := Tryd.f27.body.getD .skip
noncomputable def mi27 : Msk := ⟨[(.tmp 0, .val (.st (.cons (.int .i64) (.cons .str (.cons (.int .u64) (.cons (.int .u32) (.cons .str (.cons .str .nil))))))))], []⟩
noncomputable def mo27 : Msk := ⟨[(.res 2, .val (.st (.cons (.int .u32) (.cons .str .nil))))], []⟩
noncomputable def L27 (k : Nat) : LOrc := fun _ _ _ _ => none
noncomputable def F27 (k : Nat) (v : mi27.den) : Option mo27.den := runF TI (O80 k) (L27 k) c27 mi27 mo27 v
theorem lk27 (k : Nat) : LinksOK Tryd.prog 8 (L27 k) c27 := (And.intro True.intro (And.intro True.intro True.intro))
theorem fn27 (k : Nat) (args : List AV) (x : mi27.den) (r : mo27.den) (h1 : args.length = mi27.items.length) (h2 : mi27.dec (Th.start args) = some x) (h3 : F27 k x = some r) : CallOK Tryd.prog 27 args (ansOf (outL mo27.items r)) :=
  call_of hm hT (ok_O80 k) (fn := Tryd.f27) (c := c27) Tryd.func27 rfl rfl rfl (lk27 k) rfl (by decide) rfl h1 h2 h3
noncomputable def O27 (k : Nat) : Orc := fun R f args K => bif Nat.beq f 27 then callF mi27 mo27 (F27 k) args K else O80 k R f args K
theorem ok_O27 (k : Nat) : OrcOK (O27 k) (CallOK Tryd.prog) := orc_add (fn27 k) (ok_O80 k)
noncomputable def c81 : Code := Tryd.f81.body.getD .skip
noncomputable def mi81 : Msk := ⟨[(.tmp 0, .val (.st (.cons (.st (.cons (.int .u32) (.cons .str .nil))) .nil))), (.tmp 1, .val (.st (.cons (.int .i64) (.cons .str (.cons (.int .u64) (.cons (.int .u32) (.cons .str (.cons .str .nil))))))))], []⟩
noncomputable def mo81 : Msk := ⟨[(.tmp 4, .val .bool)], []⟩
noncomputable def L81 (k : Nat) : LOrc := fun _ _ _ _ => none
noncomputable def F81 (k : Nat) (v : mi81.den) : Option mo81.den := runF TI (O27 k) (L81 k) c81 mi81 mo81 v
theorem lk81 (k : Nat) : LinksOK Tryd.prog 10 (L81 k) c81 := (And.intro True.intro (And.intro True.intro True.intro))
theorem fn81 (k : Nat) (args : List AV) (x : mi81.den) (r : mo81.den) (h1 : args.length = mi81.items.length) (h2 : mi81.dec (Th.start args) = some x) (h3 : F81 k x = some r) : CallOK Tryd.prog 81 args (ansOf (outL mo81.items r)) :=
  call_of hm hT (ok_O27 k) (fn := Tryd.f81) (c := c81) Tryd.func81 rfl rfl rfl (lk81 k) rfl (by decide) rfl h1 h2 h3
noncomputable def O81 (k : Nat) : Orc := fun R f args K => bif Nat.beq f 81 then callF mi81 mo81 (F81 k) args K else O27 k R f args K
theorem ok_O81 (k : Nat) : OrcOK (O81 k) (CallOK Tryd.prog) := orc_add (fn81 k) (ok_O27 k)
noncomputable def c7000001 : Code := Tryd.f57.body.getD .skip
noncomputable def mi7000001 : Msk := ⟨[(.tmp 0, .val (.slice (.st (.cons (.int .i64) (.cons .str (.cons (.int .u64) (.cons (.int .u32) (.cons .str (.cons .str .nil))))))))), (.tmp 1, .val (.clo 81 (.st (.cons (.int .u32) (.cons .str .nil)))))], []⟩
noncomputable def mo7000001 : Msk := ⟨[(.tmp 4, .val (.int .i64))], []⟩
noncomputable def L7000001_2 (k : Nat) : LOrc := fun _ _ _ _ => none
noncomputable def b7000001_2 : Code := (findLoop 2 c7000001).getD .skip
noncomputable def m7000001_2 : Msk := ⟨[(.tmp 0, .val (.slice (.st (.cons (.int .i64) (.cons .str (.cons (.int .u64) (.cons (.int .u32) (.cons .str (.cons .str .nil))))))))), (.tmp 1, .val (.clo 81 (.st (.cons (.int .u32) (.cons .str .nil))))), (.tmp 7, .val (.int .i64)), (.tmp 8, .val (.int .i64))], []⟩
noncomputable def x7000001_2 : List (X × Msk) := [(.exit 0, ⟨[], []⟩), (.ret, ⟨[(.tmp 4, .val (.int .i64))], []⟩)]
noncomputable def F7000001_2 (k : Nat) : Nat → m7000001_2.den → Option (denE x7000001_2)
  | 0, _ => none
  | j + 1, v => round TI (O81 k) (L7000001_2 k) b7000001_2 m7000001_2 x7000001_2 (F7000001_2 k j) v
theorem lk7000001_2_ (k : Nat) : LinksOK Tryd.prog 19 (L7000001_2 k) b7000001_2 := (And.intro True.intro (And.intro (And.intro True.intro True.intro) (And.intro (And.intro True.intro (And.intro True.intro (And.intro (And.intro True.intro True.intro) True.intro))) True.intro)))
noncomputable def L7000001 (k : Nat) : LOrc := fun R lk s K => match lk with
  | .loop r => bif Nat.beq r 2 then link m7000001_2 x7000001_2 (F7000001_2 k k) s K else none
  | .label l => none
theorem lk_L7000001_2 (k : Nat) : LoopOK Tryd.prog 19 (L7000001 k) b7000001_2 := loopOK_of hm hT (ok_O81 k) (fun _ _ _ h => h) rfl (lk7000001_2_ k) rfl rfl (F := F7000001_2 k) (fun _ => rfl) (fun _ _ => rfl) (n := k) fun _ _ _ => rfl
noncomputable def F7000001 (k : Nat) (v : mi7000001.den) : Option mo7000001.den := runF TI (O81 k) (L7000001 k) c7000001 mi7000001 mo7000001 v
theorem lk7000001 (k : Nat) : LinksOK Tryd.prog 19 (L7000001 k) c7000001 := (And.intro True.intro (And.intro (And.intro True.intro (lk_L7000001_2 k)) (And.intro True.intro True.intro)))
theorem fn7000001 (k : Nat) (args : List AV) (x : mi7000001.den) (r : mo7000001.den) (h1 : args.length = mi7000001.items.length) (h2 : mi7000001.dec (Th.start args) = some x) (h3 : F7000001 k x = some r) : CallOK Tryd.prog 57 args (ansOf (outL mo7000001.items r)) :=
  call_of hm hT (ok_O81 k) (fn := Tryd.f57) (c := c7000001) Tryd.func57 rfl rfl rfl (lk7000001 k) rfl (by decide) rfl h1 h2 h3
noncomputable def O7000001 (k : Nat) : Orc := fun R f args K => bif (bif Nat.beq f 57 then isClo 1 81 args else false) then callF mi7000001 mo7000001 (F7000001 k) args K else O81 k R f args K
theorem ok_O7000001 (k : Nat) : OrcOK (O7000001 k) (CallOK Tryd.prog) := orc_addP (fn7000001 k) (ok_O81 k)
noncomputable def c7000002 : Code := Tryd.f50.body.getD .skip
noncomputable def mi7000002 : Msk := ⟨[(.tmp 0, .row false (.st (.cons (.int .i64) (.cons .str (.cons (.int .u64) (.cons (.int .u32) (.cons .str (.cons .str .nil)))))))), (.tmp 1, .val (.clo 81 (.st (.cons (.int .u32) (.cons .str .nil)))))], []⟩
noncomputable def mo7000002 : Msk := ⟨[(.tmp 4, .val (.slice (.st (.cons (.int .i64) (.cons .str (.cons (.int .u64) (.cons (.int .u32) (.cons .str (.cons .str .nil)))))))))], []⟩
noncomputable def L7000002_5 (k : Nat) : LOrc := fun _ _ _ _ => none
noncomputable def b7000002_5 : Code := (findLoop 5 c7000002).getD .skip
noncomputable def m7000002_5 : Msk := ⟨[(.tmp 0, .row false (.st (.cons (.int .i64) (.cons .str (.cons (.int .u64) (.cons (.int .u32) (.cons .str (.cons .str .nil)))))))), (.tmp 1, .val (.clo 81 (.st (.cons (.int .u32) (.cons .str .nil))))), (.tmp 5, .val (.int .i64)), (.tmp 6, .val (.int .i64))], []⟩
noncomputable def x7000002_5 : List (X × Msk) := [(.exit 0, ⟨[(.tmp 0, .row false (.st (.cons (.int .i64) (.cons .str (.cons (.int .u64) (.cons (.int .u32) (.cons .str (.cons .str .nil)))))))), (.tmp 5, .val (.int .i64))], []⟩)]
noncomputable def F7000002_5 (k : Nat) : Nat → m7000002_5.den → Option (denE x7000002_5)
  | 0, _ => none
  | j + 1, v => round TI (O7000001 k) (L7000002_5 k) b7000002_5 m7000002_5 x7000002_5 (F7000002_5 k j) v
theorem lk7000002_5_ (k : Nat) : LinksOK Tryd.prog 42 (L7000002_5 k) b7000002_5 := (And.intro (And.intro True.intro (And.intro True.intro True.intro)) (And.intro (And.intro True.intro (And.intro True.intro (And.intro (And.intro True.intro True.intro) True.intro))) True.intro))
noncomputable def L7000002 (k : Nat) : LOrc := fun R lk s K => match lk with
  | .loop r => bif Nat.beq r 5 then link m7000002_5 x7000002_5 (F7000002_5 k k) s K else none
  | .label l => none
theorem lk_L7000002_5 (k : Nat) : LoopOK Tryd.prog 42 (L7000002 k) b7000002_5 := loopOK_of hm hT (ok_O7000001 k) (fun _ _ _ h => h) rfl (lk7000002_5_ k) rfl rfl (F := F7000002_5 k) (fun _ => rfl) (fun _ _ => rfl) (n := k) fun _ _ _ => rfl
noncomputable def F7000002 (k : Nat) (v : mi7000002.den) : Option mo7000002.den := runF TI (O7000001 k) (L7000002 k) c7000002 mi7000002 mo7000002 v
theorem lk7000002 (k : Nat) : LinksOK Tryd.prog 42 (L7000002 k) c7000002 := (And.intro True.intro (And.intro True.intro (And.intro (And.intro True.intro (And.intro (And.intro True.intro True.intro) True.intro)) (And.intro (And.intro True.intro (lk_L7000002_5 k)) (And.intro True.intro (And.intro True.intro True.intro))))))
theorem fn7000002 (k : Nat) (a0 : AV) (rest : List AV) (x : mi7000002.den) (r : mo7000002.den) (h1 : (a0 :: rest).length = mi7000002.items.length) (h2 : mi7000002.dec (startE a0 rest) = some x) (h3 : F7000002 k x = some r) : CallOK Tryd.prog 50 (a0 :: rest) (.back (ansOf (outL mo7000002.items r)) [.lent []]) :=
  call_ofE hm hT (ok_O7000001 k) (fn := Tryd.f50) (c := c7000002) Tryd.func50 rfl rfl rfl (lk7000002 k) rfl (by decide) rfl h1 h2 h3
noncomputable def O7000002 (k : Nat) : Orc := fun R f args K => bif (bif Nat.beq f 50 then isClo 1 81 args else false) then callE mi7000002 mo7000002 (F7000002 k) args K else O7000001 k R f args K
theorem ok_O7000002 (k : Nat) : OrcOK (O7000002 k) (CallOK Tryd.prog) := orc_addEP (fn7000002 k) (ok_O7000001 k)
noncomputable def c48 : Code := Tryd.f48.body.getD .skip
noncomputable def mi48 : Msk := ⟨[(.tmp 0, .val (.slice (.slice (.int .u8)))), (.tmp 1, .val (.st (.cons (.int .u32) (.cons .str .nil))))], []⟩
noncomputable def mo48 : Msk := ⟨[(.tmp 4, .val (.slice (.st (.cons (.int .i64) (.cons .str (.cons (.int .u64) (.cons (.int .u32) (.cons .str (.cons .str .nil)))))))))], []⟩
noncomputable def L48_3 (k : Nat) : LOrc := fun _ _ _ _ => none
noncomputable def b48_3 : Code := (findLoop 3 c48).getD .skip
noncomputable def m48_3 : Msk := ⟨[(.tmp 3, .ptr 3 0), (.tmp 5, .row false (.st (.cons (.int .i64) (.cons .str (.cons (.int .u64) (.cons (.int .u32) (.cons .str (.cons .str .nil)))))))), (.tmp 10, .val (.slice (.slice (.int .u8)))), (.tmp 11, .val (.int .i64)), (.tmp 12, .val (.int .i64)), (.cell 3 0, .val (.int .u32)), (.cell 3 1, .val .str)], [(3, 2)]⟩
noncomputable def x48_3 : List (X × Msk) := [(.exit 0, ⟨[(.tmp 3, .ptr 3 0), (.tmp 5, .row false (.st (.cons (.int .i64) (.cons .str (.cons (.int .u64) (.cons (.int .u32) (.cons .str (.cons .str .nil)))))))), (.cell 3 0, .val (.int .u32)), (.cell 3 1, .val .str)], [(3, 2)]⟩)]
noncomputable def F48_3 (k : Nat) : Nat → m48_3.den → Option (denE x48_3)
  | 0, _ => none
  | j + 1, v => round TI (O7000002 k) (L48_3 k) b48_3 m48_3 x48_3 (F48_3 k j) v
theorem lk48_3_ (k : Nat) : LinksOK Tryd.prog 33 (L48_3 k) b48_3 := (And.intro True.intro (And.intro (And.intro True.intro True.intro) (And.intro (And.intro True.intro (And.intro True.intro (And.intro True.intro (And.intro True.intro True.intro)))) True.intro)))
noncomputable def L48 (k : Nat) : LOrc := fun R lk s K => match lk with
  | .loop r => bif Nat.beq r 3 then link m48_3 x48_3 (F48_3 k k) s K else none
  | .label l => none
theorem lk_L48_3 (k : Nat) : LoopOK Tryd.prog 33 (L48 k) b48_3 := loopOK_of hm hT (ok_O7000002 k) (fun _ _ _ h => h) rfl (lk48_3_ k) rfl rfl (F := F48_3 k) (fun _ => rfl) (fun _ _ => rfl) (n := k) fun _ _ _ => rfl
noncomputable def F48 (k : Nat) (v : mi48.den) : Option mo48.den := runF TI (O7000002 k) (L48 k) c48 mi48 mo48 v
theorem lk48 (k : Nat) : LinksOK Tryd.prog 33 (L48 k) c48 := (And.intro True.intro (And.intro True.intro (And.intro (And.intro True.intro (lk_L48_3 k)) (And.intro True.intro True.intro))))
theorem fn48 (k : Nat) (args : List AV) (x : mi48.den) (r : mo48.den) (h1 : args.length = mi48.items.length) (h2 : mi48.dec (Th.start args) = some x) (h3 : F48 k x = some r) : CallOK Tryd.prog 48 args (ansOf (outL mo48.items r)) :=
  call_of hm hT (ok_O7000002 k) (fn := Tryd.f48) (c := c48) Tryd.func48 rfl rfl rfl (lk48 k) rfl (by decide) rfl h1 h2 h3
noncomputable def O48 (k : Nat) : Orc := fun R f args K => bif Nat.beq f 48 then callF mi48 mo48 (F48 k) args K else O7000002 k R f args K
theorem ok_O48 (k : Nat) : OrcOK (O48 k) (CallOK Tryd.prog) := orc_add (fn48 k) (ok_O7000002 k)
noncomputable def c51 : Code := Tryd.f51.body.getD .skip
noncomputable def mo51 : Msk := ⟨[(.tmp 2, .row false (.st (.cons (.int .i64) (.cons .str (.cons (.int .u64) (.cons (.int .u32) (.cons .str (.cons .str .nil))))))))], []⟩
noncomputable def L51 : LOrc := fun _ _ _ _ => none
noncomputable def F51 (k : Nat) (l : List (Ty.den (.st (.cons (.int .i64) (.cons .str (.cons (.int .u64) (.cons (.int .u32) (.cons .str (.cons .str .nil))))))))) : Option mo51.den := run TI (O48 k) L51 c51 (Th.start [.nsl (.st (.cons (.int .i64) (.cons .str (.cons (.int .u64) (.cons (.int .u32) (.cons .str (.cons .str .nil))))))) l]) (endF mo51)
theorem fn51 (k : Nat) (l : List (Ty.den (.st (.cons (.int .i64) (.cons .str (.cons (.int .u64) (.cons (.int .u32) (.cons .str (.cons .str .nil))))))))) (r : mo51.den) (h : F51 k l = some r) : CallOK Tryd.prog 51 [.sl (.st (.cons (.int .i64) (.cons .str (.cons (.int .u64) (.cons (.int .u32) (.cons .str (.cons .str .nil))))))) l] (ansOf (outL mo51.items r)) :=
  call_nil hm hT (ok_O48 k) (fn := Tryd.f51) (c := c51) Tryd.func51 rfl rfl rfl ((And.intro True.intro (And.intro (And.intro True.intro (And.intro (And.intro True.intro True.intro) True.intro)) (And.intro True.intro True.intro))) : LinksOK Tryd.prog 8 L51 c51) (by decide) rfl (fun e => by subst e; exact h) h
noncomputable def O51 (k : Nat) : Orc := fun R f args K => bif Nat.beq f 51 then callN (.st (.cons (.int .i64) (.cons .str (.cons (.int .u64) (.cons (.int .u32) (.cons .str (.cons .str .nil))))))) mo51 (F51 k) args K else O48 k R f args K
theorem ok_O51 (k : Nat) : OrcOK (O51 k) (CallOK Tryd.prog) := orc_addN (fn51 k) (ok_O48 k)
noncomputable def c52 : Code := Tryd.f52.body.getD .skip
noncomputable def mi52 : Msk := ⟨[(.tmp 0, .val (.slice (.st (.cons (.int .i64) (.cons .str (.cons (.int .u64) (.cons (.int .u32) (.cons .str (.cons .str .nil))))))))), (.tmp 1, .val (.int .i64))], []⟩
noncomputable def mo52 : Msk := ⟨[(.tmp 4, .val (.int .i64))], []⟩
noncomputable def L52_g0 (k : Nat) : LOrc := fun _ _ _ _ => none
noncomputable def b52_g0 : Code := (findScope 0 c52).getD .skip
noncomputable def l52_g0 : List (X × Msk) := [(.goto 0, ⟨[(.tmp 0, .val (.slice (.st (.cons (.int .i64) (.cons .str (.cons (.int .u64) (.cons (.int .u32) (.cons .str (.cons .str .nil))))))))), (.tmp 1, .val (.int .i64)), (.tmp 5, .val (.int .i64)), (.tmp 6, .val (.int .i64))], []⟩)]
noncomputable def x52_g0 : List (X × Msk) := [(.ret, ⟨[(.tmp 4, .val (.int .i64))], []⟩)]
noncomputable def F52_g0 (k : Nat) : Nat → denE l52_g0 → Option (denE x52_g0)
  | 0, _ => none
  | j + 1, v => pass TI (O51 k) (L52_g0 k) b52_g0 l52_g0 x52_g0 (F52_g0 k j) v
theorem lk52_g0_ (k : Nat) : LinksOK Tryd.prog 23 (L52_g0 k) b52_g0 := (And.intro True.intro (And.intro True.intro (And.intro (And.intro True.intro (And.intro (And.intro True.intro True.intro) True.intro)) (And.intro (And.intro True.intro (And.intro True.intro True.intro)) (And.intro True.intro True.intro)))))
noncomputable def L52 (k : Nat) : LOrc := fun R lk s K => match lk with
  | .loop r => none
  | .label l => (match findLabel b52_g0 l with | some _ => linkJ l52_g0 x52_g0 (F52_g0 k k) l s K | none => none)
theorem lk_L52_g0 (k : Nat) : JumpsOK Tryd.prog 23 (L52 k) b52_g0 := jumpsOK_of hm hT (ok_O51 k) (fun _ _ _ h => h) rfl (lk52_g0_ k) rfl rfl (F := F52_g0 k) (fun _ => rfl) (fun _ _ => rfl) (n := k) fun R l s K rest hf => by
  show (match findLabel b52_g0 l with | some _ => linkJ l52_g0 x52_g0 (F52_g0 k k) l s K | none => none) = _
  rw [hf]
noncomputable def F52 (k : Nat) (v : mi52.den) : Option mo52.den := runF TI (O51 k) (L52 k) c52 mi52 mo52 v
theorem lk52 (k : Nat) : LinksOK Tryd.prog 23 (L52 k) c52 := (And.intro True.intro (And.intro (lk_L52_g0 k) (And.intro True.intro (And.intro True.intro (And.intro (And.intro True.intro (And.intro (And.intro True.intro True.intro) True.intro)) (And.intro (And.intro True.intro (And.intro True.intro True.intro)) (And.intro True.intro True.intro)))))))
theorem fn52 (k : Nat) (args : List AV) (x : mi52.den) (r : mo52.den) (h1 : args.length = mi52.items.length) (h2 : mi52.dec (Th.start args) = some x) (h3 : F52 k x = some r) : CallOK Tryd.prog 52 args (ansOf (outL mo52.items r)) :=
  call_of hm hT (ok_O51 k) (fn := Tryd.f52) (c := c52) Tryd.func52 rfl rfl rfl (lk52 k) rfl (by decide) rfl h1 h2 h3
noncomputable def O52 (k : Nat) : Orc := fun R f args K => bif Nat.beq f 52 then callF mi52 mo52 (F52 k) args K else O51 k R f args K
theorem ok_O52 (k : Nat) : OrcOK (O52 k) (CallOK Tryd.prog) := orc_add (fn52 k) (ok_O51 k)
noncomputable def c49 : Code := Tryd.f49.body.getD .skip
noncomputable def mi49 : Msk := ⟨[(.tmp 0, .val (.st (.cons (.int .i64) (.cons .str (.cons (.int .u64) (.cons (.int .u32) (.cons .str (.cons .str .nil))))))))], []⟩
noncomputable def mo49 : Msk := ⟨[(.tmp 2, .val .bool)], []⟩
noncomputable def L49 (k : Nat) : LOrc := fun _ _ _ _ => none
noncomputable def F49 (k : Nat) (v : mi49.den) : Option mo49.den := runF TI (O52 k) (L49 k) c49 mi49 mo49 v
theorem lk49 (k : Nat) : LinksOK Tryd.prog 6 (L49 k) c49 := (And.intro True.intro (And.intro True.intro True.intro))
theorem fn49 (k : Nat) (args : List AV) (x : mi49.den) (r : mo49.den) (h1 : args.length = mi49.items.length) (h2 : mi49.dec (Th.start args) = some x) (h3 : F49 k x = some r) : CallOK Tryd.prog 49 args (ansOf (outL mo49.items r)) :=
  call_of hm hT (ok_O52 k) (fn := Tryd.f49) (c := c49) Tryd.func49 rfl rfl rfl (lk49 k) rfl (by decide) rfl h1 h2 h3
noncomputable def O49 (k : Nat) : Orc := fun R f args K => bif Nat.beq f 49 then callF mi49 mo49 (F49 k) args K else O52 k R f args K
theorem ok_O49 (k : Nat) : OrcOK (O49 k) (CallOK Tryd.prog) := orc_add (fn49 k) (ok_O52 k)
noncomputable def c7000003 : Code := Tryd.f57.body.getD .skip
noncomputable def mi7000003 : Msk := ⟨[(.tmp 0, .val (.slice (.st (.cons (.int .i64) (.cons .str (.cons (.int .u64) (.cons (.int .u32) (.cons .str (.cons .str .nil))))))))), (.tmp 1, .val (.clo 49 .nil))], []⟩
noncomputable def mo7000003 : Msk := ⟨[(.tmp 4, .val (.int .i64))], []⟩
noncomputable def L7000003_2 (k : Nat) : LOrc := fun _ _ _ _ => none
noncomputable def b7000003_2 : Code := (findLoop 2 c7000003).getD .skip
noncomputable def m7000003_2 : Msk := ⟨[(.tmp 0, .val (.slice (.st (.cons (.int .i64) (.cons .str (.cons (.int .u64) (.cons (.int .u32) (.cons .str (.cons .str .nil))))))))), (.tmp 1, .val (.clo 49 .nil)), (.tmp 7, .val (.int .i64)), (.tmp 8, .val (.int .i64))], []⟩
noncomputable def x7000003_2 : List (X × Msk) := [(.exit 0, ⟨[], []⟩), (.ret, ⟨[(.tmp 4, .val (.int .i64))], []⟩)]
noncomputable def F7000003_2 (k : Nat) : Nat → m7000003_2.den → Option (denE x7000003_2)
  | 0, _ => none
  | j + 1, v => round TI (O49 k) (L7000003_2 k) b7000003_2 m7000003_2 x7000003_2 (F7000003_2 k j) v
theorem lk7000003_2_ (k : Nat) : LinksOK Tryd.prog 19 (L7000003_2 k) b7000003_2 := (And.intro True.intro (And.intro (And.intro True.intro True.intro) (And.intro (And.intro True.intro (And.intro True.intro (And.intro (And.intro True.intro True.intro) True.intro))) True.intro)))
noncomputable def L7000003 (k : Nat) : LOrc := fun R lk s K => match lk with
  | .loop r => bif Nat.beq r 2 then link m7000003_2 x7000003_2 (F7000003_2 k k) s K else none
  | .label l => none
theorem lk_L7000003_2 (k : Nat) : LoopOK Tryd.prog 19 (L7000003 k) b7000003_2 := loopOK_of hm hT (ok_O49 k) (fun _ _ _ h => h) rfl (lk7000003_2_ k) rfl rfl (F := F7000003_2 k) (fun _ => rfl) (fun _ _ => rfl) (n := k) fun _ _ _ => rfl
noncomputable def F7000003 (k : Nat) (v : mi7000003.den) : Option mo7000003.den := runF TI (O49 k) (L7000003 k) c7000003 mi7000003 mo7000003 v
theorem lk7000003 (k : Nat) : LinksOK Tryd.prog 19 (L7000003 k) c7000003 := (And.intro True.intro (And.intro (And.intro True.intro (lk_L7000003_2 k)) (And.intro True.intro True.intro)))
theorem fn7000003 (k : Nat) (args : List AV) (x : mi7000003.den) (r : mo7000003.den) (h1 : args.length = mi7000003.items.length) (h2 : mi7000003.dec (Th.start args) = some x) (h3 : F7000003 k x = some r) : CallOK Tryd.prog 57 args (ansOf (outL mo7000003.items r)) :=
  call_of hm hT (ok_O49 k) (fn := Tryd.f57) (c := c7000003) Tryd.func57 rfl rfl rfl (lk7000003 k) rfl (by decide) rfl h1 h2 h3
noncomputable def O7000003 (k : Nat) : Orc := fun R f args K => bif (bif Nat.beq f 57 then isClo 1 49 args else false) then callF mi7000003 mo7000003 (F7000003 k) args K else O49 k R f args K
theorem ok_O7000003 (k : Nat) : OrcOK (O7000003 k) (CallOK Tryd.prog) := orc_addP (fn7000003 k) (ok_O49 k)
noncomputable def c7000004 : Code := Tryd.f50.body.getD .skip
noncomputable def mi7000004 : Msk := ⟨[(.tmp 0, .row false (.st (.cons (.int .i64) (.cons .str (.cons (.int .u64) (.cons (.int .u32) (.cons .str (.cons .str .nil)))))))), (.tmp 1, .val (.clo 49 .nil))], []⟩
noncomputable def mo7000004 : Msk := ⟨[(.tmp 4, .val (.slice (.st (.cons (.int .i64) (.cons .str (.cons (.int .u64) (.cons (.int .u32) (.cons .str (.cons .str .nil)))))))))], []⟩
noncomputable def L7000004_5 (k : Nat) : LOrc := fun _ _ _ _ => none
noncomputable def b7000004_5 : Code := (findLoop 5 c7000004).getD .skip
noncomputable def m7000004_5 : Msk := ⟨[(.tmp 0, .row false (.st (.cons (.int .i64) (.cons .str (.cons (.int .u64) (.cons (.int .u32) (.cons .str (.cons .str .nil)))))))), (.tmp 1, .val (.clo 49 .nil)), (.tmp 5, .val (.int .i64)), (.tmp 6, .val (.int .i64))], []⟩
noncomputable def x7000004_5 : List (X × Msk) := [(.exit 0, ⟨[(.tmp 0, .row false (.st (.cons (.int .i64) (.cons .str (.cons (.int .u64) (.cons (.int .u32) (.cons .str (.cons .str .nil)))))))), (.tmp 5, .val (.int .i64))], []⟩)]
noncomputable def F7000004_5 (k : Nat) : Nat → m7000004_5.den → Option (denE x7000004_5)
  | 0, _ => none
  | j + 1, v => round TI (O7000003 k) (L7000004_5 k) b7000004_5 m7000004_5 x7000004_5 (F7000004_5 k j) v
theorem lk7000004_5_ (k : Nat) : LinksOK Tryd.prog 42 (L7000004_5 k) b7000004_5 := (And.intro (And.intro True.intro (And.intro True.intro True.intro)) (And.intro (And.intro True.intro (And.intro True.intro (And.intro (And.intro True.intro True.intro) True.intro))) True.intro))
noncomputable def L7000004 (k : Nat) : LOrc := fun R lk s K => match lk with
  | .loop r => bif Nat.beq r 5 then link m7000004_5 x7000004_5 (F7000004_5 k k) s K else none
  | .label l => none
theorem lk_L7000004_5 (k : Nat) : LoopOK Tryd.prog 42 (L7000004 k) b7000004_5 := loopOK_of hm hT (ok_O7000003 k) (fun _ _ _ h => h) rfl (lk7000004_5_ k) rfl rfl (F := F7000004_5 k) (fun _ => rfl) (fun _ _ => rfl) (n := k) fun _ _ _ => rfl
noncomputable def F7000004 (k : Nat) (v : mi7000004.den) : Option mo7000004.den := runF TI (O7000003 k) (L7000004 k) c7000004 mi7000004 mo7000004 v
theorem lk7000004 (k : Nat) : LinksOK Tryd.prog 42 (L7000004 k) c7000004 := (And.intro True.intro (And.intro True.intro (And.intro (And.intro True.intro (And.intro (And.intro True.intro True.intro) True.intro)) (And.intro (And.intro True.intro (lk_L7000004_5 k)) (And.intro True.intro (And.intro True.intro True.intro))))))
theorem fn7000004 (k : Nat) (a0 : AV) (rest : List AV) (x : mi7000004.den) (r : mo7000004.den) (h1 : (a0 :: rest).length = mi7000004.items.length) (h2 : mi7000004.dec (startE a0 rest) = some x) (h3 : F7000004 k x = some r) : CallOK Tryd.prog 50 (a0 :: rest) (.back (ansOf (outL mo7000004.items r)) [.lent []]) :=
  call_ofE hm hT (ok_O7000003 k) (fn := Tryd.f50) (c := c7000004) Tryd.func50 rfl rfl rfl (lk7000004 k) rfl (by decide) rfl h1 h2 h3
noncomputable def O7000004 (k : Nat) : Orc := fun R f args K => bif (bif Nat.beq f 50 then isClo 1 49 args else false) then callE mi7000004 mo7000004 (F7000004 k) args K else O7000003 k R f args K
theorem ok_O7000004 (k : Nat) : OrcOK (O7000004 k) (CallOK Tryd.prog) := orc_addEP (fn7000004 k) (ok_O7000003 k)
noncomputable def c24 : Code := Tryd.f24.body.getD .skip
noncomputable def mi24 : Msk := ⟨[(.tmp 0, .val (.slice (.slice (.int .u8)))), (.tmp 1, .val (.slice (.slice (.int .u8)))), (.tmp 2, .val (.st (.cons (.int .u32) (.cons .str .nil))))], []⟩
noncomputable def mo24 : Msk := ⟨[(.res 6, .val (.st (.cons (.slice (.st (.cons (.int .i64) (.cons .str (.cons (.int .u64) (.cons (.int .u32) (.cons .str (.cons .str .nil)))))))) (.cons (.int .i64) (.cons (.int .i64) (.cons (.int .i64) (.cons (.int .i64) .nil)))))))], []⟩
noncomputable def L24 (k : Nat) : LOrc := fun _ _ _ _ => none
noncomputable def F24 (k : Nat) (v : mi24.den) : Option mo24.den := runF TI (O7000004 k) (L24 k) c24 mi24 mo24 v
theorem lk24 (k : Nat) : LinksOK Tryd.prog 29 (L24 k) c24 := (And.intro True.intro (And.intro True.intro (And.intro True.intro (And.intro True.intro True.intro))))
theorem fn24 (k : Nat) (args : List AV) (x : mi24.den) (r : mo24.den) (h1 : args.length = mi24.items.length) (h2 : mi24.dec (Th.start args) = some x) (h3 : F24 k x = some r) : CallOK Tryd.prog 24 args (ansOf (outL mo24.items r)) :=
  call_of hm hT (ok_O7000004 k) (fn := Tryd.f24) (c := c24) Tryd.func24 rfl rfl rfl (lk24 k) rfl (by decide) rfl h1 h2 h3
noncomputable def O24 (k : Nat) : Orc := fun R f args K => bif Nat.beq f 24 then callF mi24 mo24 (F24 k) args K else O7000004 k R f args K
theorem ok_O24 (k : Nat) : OrcOK (O24 k) (CallOK Tryd.prog) := orc_add (fn24 k) (ok_O7000004 k)
noncomputable def c56 : Code := Tryd.f56.body.getD .skip
noncomputable def mi56 : Msk := ⟨[(.tmp 0, .val (.st (.cons (.int .i64) (.cons .str (.cons (.int .u64) (.cons (.int .u32) (.cons .str (.cons .str .nil))))))))], []⟩
noncomputable def mo56 : Msk := ⟨[(.tmp 2, .val .bool)], []⟩
noncomputable def L56 (k : Nat) : LOrc := fun _ _ _ _ => none
noncomputable def F56 (k : Nat) (v : mi56.den) : Option mo56.den := runF TI (O24 k) (L56 k) c56 mi56 mo56 v
theorem lk56 (k : Nat) : LinksOK Tryd.prog 11 (L56 k) c56 := (And.intro True.intro (And.intro True.intro True.intro))
theorem fn56 (k : Nat) (args : List AV) (x : mi56.den) (r : mo56.den) (h1 : args.length = mi56.items.length) (h2 : mi56.dec (Th.start args) = some x) (h3 : F56 k x = some r) : CallOK Tryd.prog 56 args (ansOf (outL mo56.items r)) :=
  call_of hm hT (ok_O24 k) (fn := Tryd.f56) (c := c56) Tryd.func56 rfl rfl rfl (lk56 k) rfl (by decide) rfl h1 h2 h3
noncomputable def O56 (k : Nat) : Orc := fun R f args K => bif Nat.beq f 56 then callF mi56 mo56 (F56 k) args K else O24 k R f args K
theorem ok_O56 (k : Nat) : OrcOK (O56 k) (CallOK Tryd.prog) := orc_add (fn56 k) (ok_O24 k)
noncomputable def c7000005 : Code := Tryd.f57.body.getD .skip
noncomputable def mi7000005 : Msk := ⟨[(.tmp 0, .val (.slice (.st (.cons (.int .i64) (.cons .str (.cons (.int .u64) (.cons (.int .u32) (.cons .str (.cons .str .nil))))))))), (.tmp 1, .val (.clo 56 .nil))], []⟩
noncomputable def mo7000005 : Msk := ⟨[(.tmp 4, .val (.int .i64))], []⟩
noncomputable def L7000005_2 (k : Nat) : LOrc := fun _ _ _ _ => none
noncomputable def b7000005_2 : Code := (findLoop 2 c7000005).getD .skip
noncomputable def m7000005_2 : Msk := ⟨[(.tmp 0, .val (.slice (.st (.cons (.int .i64) (.cons .str (.cons (.int .u64) (.cons (.int .u32) (.cons .str (.cons .str .nil))))))))), (.tmp 1, .val (.clo 56 .nil)), (.tmp 7, .val (.int .i64)), (.tmp 8, .val (.int .i64))], []⟩
noncomputable def x7000005_2 : List (X × Msk) := [(.exit 0, ⟨[], []⟩), (.ret, ⟨[(.tmp 4, .val (.int .i64))], []⟩)]
noncomputable def F7000005_2 (k : Nat) : Nat → m7000005_2.den → Option (denE x7000005_2)
  | 0, _ => none
  | j + 1, v => round TI (O56 k) (L7000005_2 k) b7000005_2 m7000005_2 x7000005_2 (F7000005_2 k j) v
theorem lk7000005_2_ (k : Nat) : LinksOK Tryd.prog 19 (L7000005_2 k) b7000005_2 := (And.intro True.intro (And.intro (And.intro True.intro True.intro) (And.intro (And.intro True.intro (And.intro True.intro (And.intro (And.intro True.intro True.intro) True.intro))) True.intro)))
noncomputable def L7000005 (k : Nat) : LOrc := fun R lk s K => match lk with
  | .loop r => bif Nat.beq r 2 then link m7000005_2 x7000005_2 (F7000005_2 k k) s K else none
  | .label l => none
theorem lk_L7000005_2 (k : Nat) : LoopOK Tryd.prog 19 (L7000005 k) b7000005_2 := loopOK_of hm hT (ok_O56 k) (fun _ _ _ h => h) rfl (lk7000005_2_ k) rfl rfl (F := F7000005_2 k) (fun _ => rfl) (fun _ _ => rfl) (n := k) fun _ _ _ => rfl
noncomputable def F7000005 (k : Nat) (v : mi7000005.den) : Option mo7000005.den := runF TI (O56 k) (L7000005 k) c7000005 mi7000005 mo7000005 v
theorem lk7000005 (k : Nat) : LinksOK Tryd.prog 19 (L7000005 k) c7000005 := (And.intro True.intro (And.intro (And.intro True.intro (lk_L7000005_2 k)) (And.intro True.intro True.intro)))
theorem fn7000005 (k : Nat) (args : List AV) (x : mi7000005.den) (r : mo7000005.den) (h1 : args.length = mi7000005.items.length) (h2 : mi7000005.dec (Th.start args) = some x) (h3 : F7000005 k x = some r) : CallOK Tryd.prog 57 args (ansOf (outL mo7000005.items r)) :=
  call_of hm hT (ok_O56 k) (fn := Tryd.f57) (c := c7000005) Tryd.func57 rfl rfl rfl (lk7000005 k) rfl (by decide) rfl h1 h2 h3
noncomputable def O7000005 (k : Nat) : Orc := fun R f args K => bif (bif Nat.beq f 57 then isClo 1 56 args else false) then callF mi7000005 mo7000005 (F7000005 k) args K else O56 k R f args K
theorem ok_O7000005 (k : Nat) : OrcOK (O7000005 k) (CallOK Tryd.prog) := orc_addP (fn7000005 k) (ok_O56 k)
noncomputable def c59 : Code := Tryd.f59.body.getD .skip
noncomputable def mi59 : Msk := ⟨[(.tmp 0, .val (.st (.cons (.int .i64) (.cons .str (.cons (.int .u64) (.cons (.int .u32) (.cons .str (.cons .str .nil)))))))), (.tmp 1, .val (.ref (.cons (.clo 56 .nil) .nil))), (.tmp 2, .val (.ref (.cons (.slice (.st (.cons (.int .i64) (.cons .str (.cons (.int .u64) (.cons (.int .u32) (.cons .str (.cons .str .nil)))))))) (.cons (.int .i64) (.cons (.int .i64) (.cons (.int .i64) (.cons (.int .i64) .nil))))))), (.tmp 3, .val (.ref (.cons (.int .i64) .nil)))], []⟩
noncomputable def mo59 : Msk := ⟨[(.tmp 5, .val .bool)], []⟩
noncomputable def L59 (k : Nat) : LOrc := fun _ _ _ _ => none
noncomputable def F59 (k : Nat) (v : mi59.den) : Option mo59.den := runF TI (O7000005 k) (L59 k) c59 mi59 mo59 v
theorem lk59 (k : Nat) : LinksOK Tryd.prog 18 (L59 k) c59 := (And.intro True.intro (And.intro True.intro True.intro))
theorem fn59 (k : Nat) (args : List AV) (x : mi59.den) (r : mo59.den) (h1 : args.length = mi59.items.length) (h2 : mi59.dec (Th.start args) = some x) (h3 : F59 k x = some r) : CallOK Tryd.prog 59 args (ansOf (outL mo59.items r)) :=
  call_of hm hT (ok_O7000005 k) (fn := Tryd.f59) (c := c59) Tryd.func59 rfl rfl rfl (lk59 k) rfl (by decide) rfl h1 h2 h3
noncomputable def O59 (k : Nat) : Orc := fun R f args K => bif Nat.beq f 59 then callF mi59 mo59 (F59 k) args K else O7000005 k R f args K
theorem ok_O59 (k : Nat) : OrcOK (O59 k) (CallOK Tryd.prog) := orc_add (fn59 k) (ok_O7000005 k)
noncomputable def c7000006 : Code := Tryd.f57.body.getD .skip
noncomputable def mi7000006 : Msk := ⟨[(.tmp 0, .val (.slice (.st (.cons (.int .i64) (.cons .str (.cons (.int .u64) (.cons (.int .u32) (.cons .str (.cons .str .nil))))))))), (.tmp 1, .val (.clo 59 (.cons (.ref (.cons (.clo 56 .nil) .nil)) (.cons (.ref (.cons (.slice (.st (.cons (.int .i64) (.cons .str (.cons (.int .u64) (.cons (.int .u32) (.cons .str (.cons .str .nil)))))))) (.cons (.int .i64) (.cons (.int .i64) (.cons (.int .i64) (.cons (.int .i64) .nil)))))) (.cons (.ref (.cons (.int .i64) .nil)) .nil)))))], []⟩
noncomputable def mo7000006 : Msk := ⟨[(.tmp 4, .val (.int .i64))], []⟩
noncomputable def L7000006_2 (k : Nat) : LOrc := fun _ _ _ _ => none
noncomputable def b7000006_2 : Code := (findLoop 2 c7000006).getD .skip
noncomputable def m7000006_2 : Msk := ⟨[(.tmp 0, .val (.slice (.st (.cons (.int .i64) (.cons .str (.cons (.int .u64) (.cons (.int .u32) (.cons .str (.cons .str .nil))))))))), (.tmp 1, .val (.clo 59 (.cons (.ref (.cons (.clo 56 .nil) .nil)) (.cons (.ref (.cons (.slice (.st (.cons (.int .i64) (.cons .str (.cons (.int .u64) (.cons (.int .u32) (.cons .str (.cons .str .nil)))))))) (.cons (.int .i64) (.cons (.int .i64) (.cons (.int .i64) (.cons (.int .i64) .nil)))))) (.cons (.ref (.cons (.int .i64) .nil)) .nil))))), (.tmp 7, .val (.int .i64)), (.tmp 8, .val (.int .i64))], []⟩
noncomputable def x7000006_2 : List (X × Msk) := [(.exit 0, ⟨[], []⟩), (.ret, ⟨[(.tmp 4, .val (.int .i64))], []⟩)]
noncomputable def F7000006_2 (k : Nat) : Nat → m7000006_2.den → Option (denE x7000006_2)
  | 0, _ => none
  | j + 1, v => round TI (O59 k) (L7000006_2 k) b7000006_2 m7000006_2 x7000006_2 (F7000006_2 k j) v
theorem lk7000006_2_ (k : Nat) : LinksOK Tryd.prog 19 (L7000006_2 k) b7000006_2 := (And.intro True.intro (And.intro (And.intro True.intro True.intro) (And.intro (And.intro True.intro (And.intro True.intro (And.intro (And.intro True.intro True.intro) True.intro))) True.intro)))
noncomputable def L7000006 (k : Nat) : LOrc := fun R lk s K => match lk with
  | .loop r => bif Nat.beq r 2 then link m7000006_2 x7000006_2 (F7000006_2 k k) s K else none
  | .label l => none
theorem lk_L7000006_2 (k : Nat) : LoopOK Tryd.prog 19 (L7000006 k) b7000006_2 := loopOK_of hm hT (ok_O59 k) (fun _ _ _ h => h) rfl (lk7000006_2_ k) rfl rfl (F := F7000006_2 k) (fun _ => rfl) (fun _ _ => rfl) (n := k) fun _ _ _ => rfl
noncomputable def F7000006 (k : Nat) (v : mi7000006.den) : Option mo7000006.den := runF TI (O59 k) (L7000006 k) c7000006 mi7000006 mo7000006 v
theorem lk7000006 (k : Nat) : LinksOK Tryd.prog 19 (L7000006 k) c7000006 := (And.intro True.intro (And.intro (And.intro True.intro (lk_L7000006_2 k)) (And.intro True.intro True.intro)))
theorem fn7000006 (k : Nat) (args : List AV) (x : mi7000006.den) (r : mo7000006.den) (h1 : args.length = mi7000006.items.length) (h2 : mi7000006.dec (Th.start args) = some x) (h3 : F7000006 k x = some r) : CallOK Tryd.prog 57 args (ansOf (outL mo7000006.items r)) :=
  call_of hm hT (ok_O59 k) (fn := Tryd.f57) (c := c7000006) Tryd.func57 rfl rfl rfl (lk7000006 k) rfl (by decide) rfl h1 h2 h3
noncomputable def O7000006 (k : Nat) : Orc := fun R f args K => bif (bif Nat.beq f 57 then isClo 1 59 args else false) then callF mi7000006 mo7000006 (F7000006 k) args K else O59 k R f args K
theorem ok_O7000006 (k : Nat) : OrcOK (O7000006 k) (CallOK Tryd.prog) := orc_addP (fn7000006 k) (ok_O59 k)
noncomputable def c7000007 : Code := Tryd.f58.body.getD .skip
noncomputable def mi7000007 : Msk := ⟨[(.tmp 0, .val (.slice (.st (.cons (.int .i64) (.cons .str (.cons (.int .u64) (.cons (.int .u32) (.cons .str (.cons .str .nil))))))))), (.tmp 1, .val (.clo 59 (.cons (.ref (.cons (.clo 56 .nil) .nil)) (.cons (.ref (.cons (.slice (.st (.cons (.int .i64) (.cons .str (.cons (.int .u64) (.cons (.int .u32) (.cons .str (.cons .str .nil)))))))) (.cons (.int .i64) (.cons (.int .i64) (.cons (.int .i64) (.cons (.int .i64) .nil)))))) (.cons (.ref (.cons (.int .i64) .nil)) .nil)))))], []⟩
noncomputable def mo7000007 : Msk := ⟨[(.tmp 4, .val .bool)], []⟩
noncomputable def L7000007 (k : Nat) : LOrc := fun _ _ _ _ => none
noncomputable def F7000007 (k : Nat) (v : mi7000007.den) : Option mo7000007.den := runF TI (O7000006 k) (L7000007 k) c7000007 mi7000007 mo7000007 v
theorem lk7000007 (k : Nat) : LinksOK Tryd.prog 9 (L7000007 k) c7000007 := (And.intro True.intro (And.intro True.intro True.intro))
theorem fn7000007 (k : Nat) (args : List AV) (x : mi7000007.den) (r : mo7000007.den) (h1 : args.length = mi7000007.items.length) (h2 : mi7000007.dec (Th.start args) = some x) (h3 : F7000007 k x = some r) : CallOK Tryd.prog 58 args (ansOf (outL mo7000007.items r)) :=
  call_of hm hT (ok_O7000006 k) (fn := Tryd.f58) (c := c7000007) Tryd.func58 rfl rfl rfl (lk7000007 k) rfl (by decide) rfl h1 h2 h3
noncomputable def O7000007 (k : Nat) : Orc := fun R f args K => bif (bif Nat.beq f 58 then isClo 1 59 args else false) then callF mi7000007 mo7000007 (F7000007 k) args K else O7000006 k R f args K
theorem ok_O7000007 (k : Nat) : OrcOK (O7000007 k) (CallOK Tryd.prog) := orc_addP (fn7000007 k) (ok_O7000006 k)
noncomputable def c26 : Code := Tryd.f26.body.getD .skip
noncomputable def mi26 : Msk := ⟨[(.tmp 0, .val (.st (.cons (.slice (.st (.cons (.int .i64) (.cons .str (.cons (.int .u64) (.cons (.int .u32) (.cons .str (.cons .str .nil)))))))) (.cons (.int .i64) (.cons (.int .i64) (.cons (.int .i64) (.cons (.int .i64) .nil))))))), (.tmp 1, .val (.int .i64))], []⟩
noncomputable def mo26 : Msk := ⟨[(.tmp 4, .val .bool)], []⟩
noncomputable def L26 (k : Nat) : LOrc := fun _ _ _ _ => none
noncomputable def F26 (k : Nat) (v : mi26.den) : Option mo26.den := runF TI (O7000007 k) (L26 k) c26 mi26 mo26 v
theorem lk26 (k : Nat) : LinksOK Tryd.prog 45 (L26 k) c26 := (And.intro True.intro (And.intro (And.intro True.intro (And.intro (And.intro True.intro True.intro) True.intro)) (And.intro True.intro (And.intro True.intro (And.intro True.intro True.intro)))))
theorem fn26 (k : Nat) (args : List AV) (x : mi26.den) (r : mo26.den) (h1 : args.length = mi26.items.length) (h2 : mi26.dec (Th.start args) = some x) (h3 : F26 k x = some r) : CallOK Tryd.prog 26 args (ansOf (outL mo26.items r)) :=
  call_of hm hT (ok_O7000007 k) (fn := Tryd.f26) (c := c26) Tryd.func26 rfl rfl rfl (lk26 k) rfl (by decide) rfl h1 h2 h3
noncomputable def O26 (k : Nat) : Orc := fun R f args K => bif Nat.beq f 26 then callF mi26 mo26 (F26 k) args K else O7000007 k R f args K
theorem ok_O26 (k : Nat) : OrcOK (O26 k) (CallOK Tryd.prog) := orc_add (fn26 k) (ok_O7000007 k)
noncomputable def c21 : Code := Tryd.f21.body.getD .skip
noncomputable def mi21 : Msk := ⟨[], []⟩
noncomputable def mo21 : Msk := ⟨[(.tmp 0, .val .bool)], []⟩
noncomputable def L21 (k : Nat) : LOrc := fun _ _ _ _ => none
noncomputable def F21 (k : Nat) (v : mi21.den) : Option mo21.den := runF TI (O26 k) (L21 k) c21 mi21 mo21 v
theorem lk21 (k : Nat) : LinksOK Tryd.prog 87 (L21 k) c21 := (And.intro True.intro (And.intro True.intro (And.intro True.intro (And.intro True.intro (And.intro True.intro (And.intro True.intro (And.intro True.intro (And.intro True.intro True.intro))))))))
theorem fn21 (k : Nat) (args : List AV) (x : mi21.den) (r : mo21.den) (h1 : args.length = mi21.items.length) (h2 : mi21.dec (Th.start args) = some x) (h3 : F21 k x = some r) : CallOK Tryd.prog 21 args (ansOf (outL mo21.items r)) :=
  call_of hm hT (ok_O26 k) (fn := Tryd.f21) (c := c21) Tryd.func21 rfl rfl rfl (lk21 k) rfl (by decide) rfl h1 h2 h3
noncomputable def O21 (k : Nat) : Orc := fun R f args K => bif Nat.beq f 21 then callF mi21 mo21 (F21 k) args K else O26 k R f args K
theorem ok_O21 (k : Nat) : OrcOK (O21 k) (CallOK Tryd.prog) := orc_add (fn21 k) (ok_O26 k)
noncomputable def c22 : Code := Tryd.f22.body.getD .skip
noncomputable def mi22 : Msk := ⟨[(.tmp 0, .val (.slice (.slice (.int .u8))))], []⟩
noncomputable def mo22 : Msk := ⟨[(.tmp 2, .val .bool)], []⟩
noncomputable def L22_2 (k : Nat) : LOrc := fun _ _ _ _ => none
noncomputable def b22_2 : Code := (findLoop 2 c22).getD .skip
noncomputable def m22_2 : Msk := ⟨[(.tmp 0, .val (.slice (.slice (.int .u8)))), (.tmp 3, .val (.int .i64))], []⟩
noncomputable def x22_2 : List (X × Msk) := [(.exit 0, ⟨[(.tmp 0, .val (.slice (.slice (.int .u8))))], []⟩), (.ret, ⟨[(.tmp 2, .val .bool)], []⟩)]
noncomputable def F22_2 (k : Nat) : Nat → m22_2.den → Option (denE x22_2)
  | 0, _ => none
  | j + 1, v => round TI (O21 k) (L22_2 k) b22_2 m22_2 x22_2 (F22_2 k j) v
theorem lk22_2_ (k : Nat) : LinksOK Tryd.prog 23 (L22_2 k) b22_2 := (And.intro (And.intro True.intro (And.intro True.intro True.intro)) (And.intro (And.intro True.intro (And.intro (And.intro True.intro True.intro) True.intro)) True.intro))
noncomputable def L22 (k : Nat) : LOrc := fun R lk s K => match lk with
  | .loop r => bif Nat.beq r 2 then link m22_2 x22_2 (F22_2 k k) s K else none
  | .label l => none
theorem lk_L22_2 (k : Nat) : LoopOK Tryd.prog 23 (L22 k) b22_2 := loopOK_of hm hT (ok_O21 k) (fun _ _ _ h => h) rfl (lk22_2_ k) rfl rfl (F := F22_2 k) (fun _ => rfl) (fun _ _ => rfl) (n := k) fun _ _ _ => rfl
noncomputable def F22 (k : Nat) (v : mi22.den) : Option mo22.den := runF TI (O21 k) (L22 k) c22 mi22 mo22 v
theorem lk22 (k : Nat) : LinksOK Tryd.prog 23 (L22 k) c22 := (And.intro True.intro (And.intro (And.intro True.intro (lk_L22_2 k)) (And.intro True.intro True.intro)))
theorem fn22 (k : Nat) (args : List AV) (x : mi22.den) (r : mo22.den) (h1 : args.length = mi22.items.length) (h2 : mi22.dec (Th.start args) = some x) (h3 : F22 k x = some r) : CallOK Tryd.prog 22 args (ansOf (outL mo22.items r)) :=
  call_of hm hT (ok_O21 k) (fn := Tryd.f22) (c := c22) Tryd.func22 rfl rfl rfl (lk22 k) rfl (by decide) rfl h1 h2 h3
noncomputable def O22 (k : Nat) : Orc := fun R f args K => bif Nat.beq f 22 then callF mi22 mo22 (F22 k) args K else O21 k R f args K
theorem ok_O22 (k : Nat) : OrcOK (O22 k) (CallOK Tryd.prog) := orc_add (fn22 k) (ok_O21 k)
noncomputable def c17 : Code := Tryd.f17.body.getD .skip
noncomputable def mi17 : Msk := ⟨[(.tmp 0, .val (.st (.cons (.int .u32) (.cons .str .nil))))], []⟩
noncomputable def mo17 : Msk := ⟨[(.tmp 2, .val .bool)], []⟩
noncomputable def L17 (k : Nat) : LOrc := fun _ _ _ _ => none
noncomputable def F17 (k : Nat) (v : mi17.den) : Option mo17.den := runF TI (O22 k) (L17 k) c17 mi17 mo17 v
theorem lk17 (k : Nat) : LinksOK Tryd.prog 7 (L17 k) c17 := (And.intro True.intro (And.intro True.intro True.intro))
theorem fn17 (k : Nat) (args : List AV) (x : mi17.den) (r : mo17.den) (h1 : args.length = mi17.items.length) (h2 : mi17.dec (Th.start args) = some x) (h3 : F17 k x = some r) : CallOK Tryd.prog 17 args (ansOf (outL mo17.items r)) :=
  call_of hm hT (ok_O22 k) (fn := Tryd.f17) (c := c17) Tryd.func17 rfl rfl rfl (lk17 k) rfl (by decide) rfl h1 h2 h3
noncomputable def O17 (k : Nat) : Orc := fun R f args K => bif Nat.beq f 17 then callF mi17 mo17 (F17 k) args K else O22 k R f args K
theorem ok_O17 (k : Nat) : OrcOK (O17 k) (CallOK Tryd.prog) := orc_add (fn17 k) (ok_O22 k)
noncomputable def c23 : Code := Tryd.f23.body.getD .skip
noncomputable def mi23 : Msk := ⟨[(.tmp 0, .val (.st (.cons (.int .i64) (.cons .str (.cons (.int .u64) (.cons (.int .u32) (.cons .str (.cons .str .nil))))))))], []⟩
noncomputable def mo23 : Msk := ⟨[(.tmp 2, .val .bool)], []⟩
noncomputable def L23 (k : Nat) : LOrc := fun _ _ _ _ => none
noncomputable def F23 (k : Nat) (v : mi23.den) : Option mo23.den := runF TI (O17 k) (L23 k) c23 mi23 mo23 v
theorem lk23 (k : Nat) : LinksOK Tryd.prog 19 (L23 k) c23 := (And.intro True.intro (And.intro True.intro True.intro))
theorem fn23 (k : Nat) (args : List AV) (x : mi23.den) (r : mo23.den) (h1 : args.length = mi23.items.length) (h2 : mi23.dec (Th.start args) = some x) (h3 : F23 k x = some r) : CallOK Tryd.prog 23 args (ansOf (outL mo23.items r)) :=
  call_of hm hT (ok_O17 k) (fn := Tryd.f23) (c := c23) Tryd.func23 rfl rfl rfl (lk23 k) rfl (by decide) rfl h1 h2 h3
noncomputable def O23 (k : Nat) : Orc := fun R f args K => bif Nat.beq f 23 then callF mi23 mo23 (F23 k) args K else O17 k R f args K
theorem ok_O23 (k : Nat) : OrcOK (O23 k) (CallOK Tryd.prog) := orc_add (fn23 k) (ok_O17 k)
noncomputable def c60 : Code := Tryd.f60.body.getD .skip
noncomputable def mi60 : Msk := ⟨[(.tmp 0, .val (.slice (.st (.cons (.int .i64) (.cons .str (.cons (.int .u64) (.cons (.int .u32) (.cons .str (.cons .str .nil))))))))), (.tmp 1, .val (.slice (.st (.cons (.int .i64) (.cons .str (.cons (.int .u64) (.cons (.int .u32) (.cons .str (.cons .str .nil)))))))))], []⟩
noncomputable def mo60 : Msk := ⟨[(.tmp 4, .val .bool)], []⟩
noncomputable def L60_4 (k : Nat) : LOrc := fun _ _ _ _ => none
noncomputable def b60_4 : Code := (findLoop 4 c60).getD .skip
noncomputable def m60_4 : Msk := ⟨[(.tmp 0, .val (.slice (.st (.cons (.int .i64) (.cons .str (.cons (.int .u64) (.cons (.int .u32) (.cons .str (.cons .str .nil))))))))), (.tmp 1, .val (.slice (.st (.cons (.int .i64) (.cons .str (.cons (.int .u64) (.cons (.int .u32) (.cons .str (.cons .str .nil))))))))), (.tmp 5, .val (.int .i64))], []⟩
noncomputable def x60_4 : List (X × Msk) := [(.exit 0, ⟨[], []⟩), (.ret, ⟨[(.tmp 4, .val .bool)], []⟩)]
noncomputable def F60_4 (k : Nat) : Nat → m60_4.den → Option (denE x60_4)
  | 0, _ => none
  | j + 1, v => round TI (O23 k) (L60_4 k) b60_4 m60_4 x60_4 (F60_4 k j) v
theorem lk60_4_ (k : Nat) : LinksOK Tryd.prog 26 (L60_4 k) b60_4 := (And.intro (And.intro True.intro (And.intro True.intro True.intro)) (And.intro (And.intro True.intro (And.intro (And.intro True.intro True.intro) True.intro)) True.intro))
noncomputable def L60 (k : Nat) : LOrc := fun R lk s K => match lk with
  | .loop r => bif Nat.beq r 4 then link m60_4 x60_4 (F60_4 k k) s K else none
  | .label l => none
theorem lk_L60_4 (k : Nat) : LoopOK Tryd.prog 26 (L60 k) b60_4 := loopOK_of hm hT (ok_O23 k) (fun _ _ _ h => h) rfl (lk60_4_ k) rfl rfl (F := F60_4 k) (fun _ => rfl) (fun _ _ => rfl) (n := k) fun _ _ _ => rfl
noncomputable def F60 (k : Nat) (v : mi60.den) : Option mo60.den := runF TI (O23 k) (L60 k) c60 mi60 mo60 v
theorem lk60 (k : Nat) : LinksOK Tryd.prog 26 (L60 k) c60 := (And.intro True.intro (And.intro (And.intro True.intro (And.intro (And.intro True.intro True.intro) True.intro)) (And.intro (And.intro True.intro (lk_L60_4 k)) (And.intro True.intro True.intro))))
theorem fn60 (k : Nat) (args : List AV) (x : mi60.den) (r : mo60.den) (h1 : args.length = mi60.items.length) (h2 : mi60.dec (Th.start args) = some x) (h3 : F60 k x = some r) : CallOK Tryd.prog 60 args (ansOf (outL mo60.items r)) :=
  call_of hm hT (ok_O23 k) (fn := Tryd.f60) (c := c60) Tryd.func60 rfl rfl rfl (lk60 k) rfl (by decide) rfl h1 h2 h3
noncomputable def O60 (k : Nat) : Orc := fun R f args K => bif Nat.beq f 60 then callF mi60 mo60 (F60 k) args K else O23 k R f args K
theorem ok_O60 (k : Nat) : OrcOK (O60 k) (CallOK Tryd.prog) := orc_add (fn60 k) (ok_O23 k)
noncomputable def c28 : Code := Tryd.f28.body.getD .skip
noncomputable def mi28 : Msk := ⟨[(.tmp 0, .val (.st (.cons (.slice (.st (.cons (.int .i64) (.cons .str (.cons (.int .u64) (.cons (.int .u32) (.cons .str (.cons .str .nil)))))))) (.cons (.int .i64) (.cons (.int .i64) (.cons (.int .i64) (.cons (.int .i64) .nil))))))), (.tmp 1, .val (.st (.cons (.slice (.st (.cons (.int .i64) (.cons .str (.cons (.int .u64) (.cons (.int .u32) (.cons .str (.cons .str .nil)))))))) (.cons (.int .i64) (.cons (.int .i64) (.cons (.int .i64) (.cons (.int .i64) .nil)))))))], []⟩
noncomputable def mo28 : Msk := ⟨[(.tmp 4, .val .bool)], []⟩
noncomputable def L28 (k : Nat) : LOrc := fun _ _ _ _ => none
noncomputable def F28 (k : Nat) (v : mi28.den) : Option mo28.den := runF TI (O60 k) (L28 k) c28 mi28 mo28 v
theorem lk28 (k : Nat) : LinksOK Tryd.prog 38 (L28 k) c28 := (And.intro True.intro (And.intro True.intro True.intro))
theorem fn28 (k : Nat) (args : List AV) (x : mi28.den) (r : mo28.den) (h1 : args.length = mi28.items.length) (h2 : mi28.dec (Th.start args) = some x) (h3 : F28 k x = some r) : CallOK Tryd.prog 28 args (ansOf (outL mo28.items r)) :=
  call_of hm hT (ok_O60 k) (fn := Tryd.f28) (c := c28) Tryd.func28 rfl rfl rfl (lk28 k) rfl (by decide) rfl h1 h2 h3
noncomputable def O28 (k : Nat) : Orc := fun R f args K => bif Nat.beq f 28 then callF mi28 mo28 (F28 k) args K else O60 k R f args K
theorem ok_O28 (k : Nat) : OrcOK (O28 k) (CallOK Tryd.prog) := orc_add (fn28 k) (ok_O60 k)
noncomputable def c5 : Code := Tryd.f5.body.getD .skip
noncomputable def mi5 : Msk := ⟨[(.tmp 0, .val (.slice (.slice (.int .u8)))), (.tmp 1, .val (.slice (.slice (.int .u8)))), (.tmp 2, .val (.st (.cons (.int .u32) (.cons .str .nil)))), (.tmp 3, .val (.st (.cons (.int .i64) (.cons .str (.cons (.int .u64) (.cons (.int .u32) (.cons .str (.cons .str .nil)))))))), (.tmp 4, .val (.int .u8))], []⟩
noncomputable def mo5 : Msk := ⟨[(.tmp 10, .val .bool)], []⟩
noncomputable def L5 (k : Nat) : LOrc := fun _ _ _ _ => none
noncomputable def F5 (k : Nat) (v : mi5.den) : Option mo5.den := runF TI (O28 k) (L5 k) c5 mi5 mo5 v
theorem lk5 (k : Nat) : LinksOK Tryd.prog 171 (L5 k) c5 := (And.intro True.intro (And.intro (And.intro True.intro (And.intro (And.intro True.intro True.intro) True.intro)) (And.intro (And.intro True.intro (And.intro (And.intro True.intro True.intro) True.intro)) (And.intro True.intro (And.intro True.intro (And.intro (And.intro True.intro (And.intro (And.intro True.intro True.intro) True.intro)) (And.intro True.intro (And.intro True.intro (And.intro True.intro (And.intro (And.intro True.intro (And.intro (And.intro True.intro True.intro) True.intro)) (And.intro (And.intro True.intro (And.intro (And.intro True.intro True.intro) True.intro)) (And.intro True.intro (And.intro (And.intro True.intro (And.intro (And.intro True.intro True.intro) True.intro)) (And.intro True.intro True.intro))))))))))))))
theorem fn5 (k : Nat) (args : List AV) (x : mi5.den) (r : mo5.den) (h1 : args.length = mi5.items.length) (h2 : mi5.dec (Th.start args) = some x) (h3 : F5 k x = some r) : CallOK Tryd.prog 5 args (ansOf (outL mo5.items r)) :=
  call_of hm hT (ok_O28 k) (fn := Tryd.f5) (c := c5) Tryd.func5 rfl rfl rfl (lk5 k) rfl (by decide) rfl h1 h2 h3
noncomputable def O5 (k : Nat) : Orc := fun R f args K => bif Nat.beq f 5 then callF mi5 mo5 (F5 k) args K else O28 k R f args K
theorem ok_O5 (k : Nat) : OrcOK (O5 k) (CallOK Tryd.prog) := orc_add (fn5 k) (ok_O28 k)
end Go.Proofs.YtcgnmecbdleehaaDoor.G
end
section
set_option maxRecDepth 1000000
set_option linter.unusedVariables false
set_option linter.unusedSimpArgs false
namespace Go.Proofs.YtcgnmecbdleehaaDoor.G
open Go Go.Proofs.YtcgnmecbdleehaaDoor Th
noncomputable def G105 (k : Nat) (v : Int × Unit) : Option (Bool × Unit) := F105 k v
theorem G105_eq (k : Nat) (v0 : Int) : G105 k (v0, ()) = sel (decide (v0 = 1)) (sel (decide (v0 = 1)) (some (true, ())) (some (false, ()))) (sel (decide (v0 = 3)) (sel (decide (v0 = 3)) (some (true, ())) (some (false, ()))) (sel (decide (v0 = 5)) (sel (decide
 (v0 = 5)) (some (true, ())) (some (false, ()))) (sel (decide (v0 = 6)) (some (true, ())) (some (false, ()))))) := by kernel_rfl
noncomputable def G72_g0 (k : Nat) (j : Nat) (v : List UInt8 × Int × Unit) : Option (Bool × Unit) := F72_g0 k j v
theorem G72_g0_eq (k : Nat) (j : Nat) (v0 : List UInt8) (v1 : Int) : G72_g0 k (j + 1) (v0, v1, ()) = sel (decide (v1 = Int.ofNat v0.length)) (some (decide (0 < v1), ())) (sel (decide (0 ≤ v1)) (sel (decide (v1 < Int.ofNat v0.length)) (sel (decide (Int.ofNat (v0.getD v1.toNat 0).toNat
 < 48)) (some (false, ())) (sel (decide (0 ≤ v1)) (sel (decide (v1 < Int.ofNat v0.length)) (sel (decide (57 < Int.ofNat (v0.getD v1.toNat 0).toNat)) (some (false, ())) (G72_g0 k j (v0, IntKind.i64.wrap (v1 + 1), ()))) none) none)) none) none) := by kernel_rfl
noncomputable def G72 (k : Nat) (v : List UInt8 × Unit) : Option (Bool × Unit) := F72 k v
theorem G72_eq (k : Nat) (v0 : List UInt8) : G72 k (v0, ()) = sel (decide (0 = Int.ofNat v0.length)) (some (false, ())) (sel (decide (0 < Int.ofNat v0.length)) (sel (decide (Int.ofNat (v0.getD (Int.toNat 0) 0).toNat < 48)) (some (false, ())) (sel (decide (0 < Int.ofNat
 v0.length)) (sel (decide (57 < Int.ofNat (v0.getD (Int.toNat 0) 0).toNat)) (some (false, ())) (ocall (G72_g0 k k (v0, IntKind.i64.wrap (0 + 1), ())) fun e => some (e.1, ()))) none)) none) := by kernel_rfl
noncomputable def G73 (k : Nat) (v : List UInt8 × Bool × Unit) : Option (Int × Unit) := F73 k v
theorem G73_eq (k : Nat) (v0 : List UInt8) (v1 : Bool) : G73 k (v0, v1, ()) = sel (decide (v0.length ≤ 9223372036854775807)) (some ((Sum.sumOf (Sum.backs (toBytes v0)) v1).1, ())) none := by kernel_rfl
noncomputable def G39 (k : Nat) (v : List UInt8 × Unit) : Option (Bool × Unit) := F39 k v
theorem G39_eq (k : Nat) (v0 : List UInt8) : G39 k (v0, ()) = ocall (G72 k (v0, ())) fun r => sel r.1 (ocall (G73 k (v0, false, ())) fun r => some (decide (r.1.tmod 10 = 0), ())) (some (false, ())) := by kernel_rfl
noncomputable def G82 (k : Nat) (v : Int × Unit) : Option (List UInt8 × Unit) := F82 k v
theorem G82_eq (k : Nat) (v0 : Int) : G82 k (v0, ()) = sel (decide (v0 < 0)) (some ([], ())) (sel (decide (8 ≤ v0)) (some ([], ())) (sel (decide (0 ≤ v0)) (sel (decide (v0 < Int.ofNat 8)) (some ([[], [48, 49, 48, 48], [48, 49, 49, 48], [48, 52, 48, 48], [48, 52, 49, 48], [48,
 52, 50, 48], [48, 52, 50, 49], [48, 52, 51, 48]].getD v0.toNat [], ())) none) none)) := by kernel_rfl
noncomputable def G77_5 (k : Nat) (j : Nat) (v : Int × List Int × Int × Unit) : Option (Int × List Int × Unit) := F77_5 k j v
theorem G77_5_eq (k : Nat) (j : Nat) (v0 : Int) (v1 : List Int) (v2 : Int) : G77_5 k (j + 1) (v0, v1, v2, ()) = sel (decide (0 ≤ v2)) (sel (decide (0 ≤ v2)) (sel (decide (v2 < Int.ofNat v1.length)) (sel (decide (v2.toNat < v1.length)) (G77_5 k j (IntKind.u64.wrap (v0.tdiv 10), v1.set
 v2.toNat (IntKind.u8.wrap (48 + IntKind.u8.wrap (v0.tmod 10))), IntKind.i64.wrap (v2 - 1), ())) none) none) none) (some (v0, v1, ())) := by kernel_rfl
noncomputable def G77 (k : Nat) (v : Int × Int × Unit) : Option (List UInt8 × Int × Unit) := F77 k v
theorem G77_eq (k : Nat) (v0 v1 : Int) : G77 k (v0, v1, ()) = sel (decide (v1 < 1)) (some ([], 1, ())) (sel (decide (19 < v1)) (some ([], 1, ())) (sel (decide (0 ≤ v1)) (sel (decide (v1 ≤ v1)) (sel (decide (v1 ≤ 140737488355328)) (sel (decide (v1 * Int.ofNat 1 ≤
 140737488355328)) (ocall (G77_5 k k (v0, List.replicate v1.toNat 0, IntKind.i64.wrap (v1 - 1), ())) fun e => sel (decide (0 < e.1)) (some ([], 10, ())) (some (ofBytes e.2.1, 0, ()))) none) none) none) none)) := by kernel_rfl
noncomputable def G83 (k : Nat) (v : (Int × List UInt8 × Int × Int × List UInt8 × List UInt8 × Unit) × Unit) : Option (List (Int × List UInt8 × Unit) × Unit) := F83 k v
theorem G83_eq (k : Nat) (v0 : Int) (v1 : List UInt8) (v2 v3 : Int) (v4 v5 : List UInt8) : G83 k ((v0, v1, v2, v3, v4, v5, ()), ()) = ocall (G77 k (IntKind.u64.wrap v3, 6, ())) fun r => ocall (G105 k (v0, ())) fun r_1 => sel (!r_1.1) (some ([(11, r.1, ()),
 (37, v4, ()), (39, v5, ())], ())) (ocall (G77 k (v2, 12, ())) fun r_2 => sel (decide (5 ≤ v0)) (ocall (G82 k (1, ())) fun r_3 => sel (decide (r_3.1.length + r.1.length ≤ 140737488355328)) (sel (decide ((r_3.1 ++ r.1).length + 32 ≤ 140737488355328)) (some ([(2,
 v1, ()), (4, r_2.1, ()), (11, r.1, ()), (37, v4, ()), (90, r_3.1 ++ r.1 ++ [48, 48, 48, 48, 48, 48, 48, 48, 48, 48, 48, 48, 48, 48, 48, 48, 48, 48, 48, 48, 48, 48, 48, 48, 48, 48, 48, 48, 48, 48, 48, 48], ())], ())) none) none) (some ([(2, v1,
 ()), (4, r_2.1, ()), (11, r.1, ()), (37, v4, ())], ()))) := by kernel_rfl
noncomputable def G74_2 (k : Nat) (j : Nat) (v : Int × List (Int × Int × Int × Unit) × Int × Int × Int × Int × Int × Unit) : Option (Int × Int × Int × Unit ⊕ Bool × Int × Int × Int × Unit) := F74_2 k j v
theorem G74_2_eq (k : Nat) (j : Nat) (v0 : Int) (v1 : List (Int × Int × Int × Unit)) (v2 v3 v4 v5 v6 : Int) : G74_2 k (j + 1) (v0, v1, v2, v3, v4, v5, v6, ()) = sel (decide (v3 < v2)) (sel (decide (0 ≤ v3)) (sel (decide (v3 < Int.ofNat v1.length)) (sel (decide (v3.toNat < v1.length)) (sel
 (decide ((v1.getD v3.toNat (0, 0, 0, ())).1 = v0)) (some (Sum.inr (true, (v1.getD v3.toNat (0, 0, 0, ())).1, (v1.getD v3.toNat (0, 0, 0, ())).2.1, (v1.getD v3.toNat (0, 0, 0, ())).2.2.1, ()))) (G74_2 k j (v0, v1, v2, IntKind.i64.wrap (v3 + 1), v4, v5, v6,
 ()))) none) none) none) (some (Sum.inl (v4, v5, v6, ()))) := by kernel_rfl
noncomputable def G74 (k : Nat) (v : Int × Unit) : Option ((Int × Int × Int × Unit) × Bool × Unit) := F74 k v
theorem G74_eq (k : Nat) (v0 : Int) : G74 k (v0, ()) = ocall (G74_2 k k (v0, [(2, 3, 19, ()), (3, 1, 6, ()), (4, 1, 12, ()), (7, 1, 10, ()), (11, 1, 6, ()), (12, 1, 6, ()), (37, 2, 12, ()), (38, 2, 6, ()), (39, 2, 2,
 ()), (41, 2, 8, ()), (44, 4, 25, ()), (48, 5, 999, ()), (49, 1, 3, ()), (90, 1, 42, ()), (120, 5, 999, ())], Int.ofNat 15, 0, 0, 0, 0, ())) fun e => esel e (fun v => some ((0, 0, 0, ()), false, ())) fun e => some
 ((e.2.1, e.2.2.1, e.2.2.2.1, ()), e.1, ()) := by kernel_rfl
noncomputable def G75 (k : Nat) (v : (Int × Int × Int × Unit) × Unit) : Option ((Int × Int × Unit) × Unit ⊕ (Int × Unit) × Unit) := F75 k v
theorem G75_eq (k : Nat) (v0 v1 v2 : Int) : G75 k ((v0, v1, v2, ()), ()) = sel (decide (v1 = 3)) (sel (decide (v1 = 3)) (some (Sum.inl ((2, v2, ()), ()))) (sel (decide (v1 = 5)) (some (Sum.inl ((3, v2, ()), ()))) (some (Sum.inr ((v2, ()),
 ()))))) (sel (decide (v1 = 4)) (some (Sum.inl ((2, v2, ()), ()))) (sel (decide (v1 = 5)) (some (Sum.inl ((3, v2, ()), ()))) (some (Sum.inr ((v2, ()), ()))))) := by kernel_rfl
noncomputable def G160 (k : Nat) (v : (Int × Int × Unit) × Int × Unit) : Option (Bool × Unit) := F160 k v
theorem G160_eq (k : Nat) (v0 v1 v2 : Int) : G160 k ((v0, v1, ()), v2, ()) = sel (decide (1 ≤ v2)) (some (decide (v2 ≤ v1), ())) (some (false, ())) := by kernel_rfl
noncomputable def G162 (k : Nat) (v : (Int × Unit) × Int × Unit) : Option (Bool × Unit) := F162 k v
theorem G162_eq (k : Nat) (v0 v1 : Int) : G162 k ((v0, ()), v1, ()) = some (decide (v1 = v0), ()) := by kernel_rfl
noncomputable def G76 (k : Nat) (v : (Int × Int × Int × Unit) × List UInt8 × Unit) : Option (Bool × Unit) := F76 k v
theorem G76_eq (k : Nat) (v0 v1 v2 : Int) (v3 : List UInt8) : G76 k ((v0, v1, v2, ()), v3, ()) = sel (decide (v3.length ≤ 9223372036854775807)) (ocall (G72 k (v3, ())) fun r => some (Signs.signsOf v1 r.1 v3, ())) none := by kernel_rfl
noncomputable def G40 (k : Nat) (v : Int × List UInt8 × Unit) : Option (Bool × Unit) := F40 k v
theorem G40_eq (k : Nat) (v0 : Int) (v1 : List UInt8) : G40 k (v0, v1, ()) = ocall (G74 k (v0, ())) fun r => sel r.2.1 (ocall (G75 k ((r.1.1, r.1.2.1, r.1.2.2.1, ()), ())) fun r_1 => esel r_1 (fun v => ocall (G160 k ((v.1.1, v.1.2.1, ()), Int.ofNat v1.length,
 ())) fun r_2 => sel r_2.1 (ocall (G76 k ((r.1.1, r.1.2.1, r.1.2.2.1, ()), v1, ())) fun r => some (r.1, ())) (some (false, ()))) fun e => ocall (G162 k ((e.1.1, ()), Int.ofNat v1.length, ())) fun r_2 => sel r_2.1 (ocall (G76 k ((r.1.1, r.1.2.1,
 r.1.2.2.1, ()), v1, ())) fun r => some (r.1, ())) (some (false, ()))) (some (false, ())) := by kernel_rfl
noncomputable def G110 (k : Nat) (v : List UInt8 × Unit) : Option (Bool × Unit) := F110 k v
theorem G110_eq (k : Nat) (v0 : List UInt8) : G110 k (v0, ()) = sel (decide (v0 = [48, 49, 48, 48])) (sel (decide (v0 = [48, 49, 48, 48])) (some (true, ())) (some (false, ()))) (sel (decide (v0 = [48, 49, 49, 48])) (sel (decide (v0 = [48, 49, 49, 48])) (some (true,
 ())) (some (false, ()))) (sel (decide (v0 = [48, 52, 48, 48])) (sel (decide (v0 = [48, 52, 48, 48])) (some (true, ())) (some (false, ()))) (sel (decide (v0 = [48, 52, 49, 48])) (sel (decide (v0 = [48, 52, 49, 48])) (some (true, ())) (some (false, ())))
 (sel (decide (v0 = [48, 52, 50, 48])) (sel (decide (v0 = [48, 52, 50, 48])) (some (true, ())) (some (false, ()))) (sel (decide (v0 = [48, 52, 50, 49])) (sel (decide (v0 = [48, 52, 50, 49])) (some (true, ())) (some (false, ()))) (sel (decide (v0 = [48, 52, 51, 48]))
 (some (true, ())) (some (false, ())))))))) := by kernel_rfl
noncomputable def G84_3 (k : Nat) (j : Nat) (v : Int × List (Int × List UInt8 × Unit) × Int × Int × List UInt8 × List (Int × List UInt8 × Unit) × Unit) : Option (List UInt8 × List (Int × List UInt8 × Unit) × Unit ⊕ Bool × Unit) := F84_3 k j v
theorem G84_3_eq (k : Nat) (j : Nat) (v0 : Int) (v1 : List (Int × List UInt8 × Unit)) (v2 v3 : Int) (v4 : List UInt8) (v5 : List (Int × List UInt8 × Unit)) : G84_3 k (j + 1) (v0, v1, v2, v3, v4, v5, ()) = sel (decide (v3 < v2)) (sel (decide (0 ≤ v3)) (sel (decide (v3 < Int.ofNat
 v1.length)) (sel (decide ((v1.getD v3.toNat (0, [], ())).1 ≤ v0)) (some (Sum.inr (false, ()))) (ocall (G40 k ((v1.getD v3.toNat (0, [], ())).1, (v1.getD v3.toNat (0, [], ())).2.1, ())) fun r => sel (!r.1) (some (Sum.inr (false, ()))) (G84_3 k j
 ((v1.getD v3.toNat (0, [], ())).1, v1, v2, IntKind.i64.wrap (v3 + 1), v4, v5, ())))) none) none) (some (Sum.inl (v4, v5, ()))) := by kernel_rfl
noncomputable def G84 (k : Nat) (v : (List UInt8 × List (Int × List UInt8 × Unit) × Unit) × Unit) : Option (Bool × Unit) := F84 k v
theorem G84_eq (k : Nat) (v0 : List UInt8) (v1 : List (Int × List UInt8 × Unit)) : G84 k ((v0, v1, ()), ()) = ocall (G84_3 k k (0, v1, Int.ofNat v1.length, 0, v0, v1, ())) fun e => esel e (fun v => ocall (G110 k (v.1, ())) fun r => sel r.1 (some (decide (0 <
 Int.ofNat v.2.1.length), ())) (some (false, ()))) fun e => some (e.1, ()) := by kernel_rfl
noncomputable def G71 (k : Nat) (v : (Int × List UInt8 × Int × Int × List UInt8 × List UInt8 × Unit) × Unit) : Option (Bool × Unit) := F71 k v
theorem G71_eq (k : Nat) (v0 : Int) (v1 : List UInt8) (v2 v3 : Int) (v4 v5 : List UInt8) : G71 k ((v0, v1, v2, v3, v4, v5, ()), ()) = ocall (G105 k (v0, ())) fun r => sel r.1 (sel (!decide (v5 = [])) (some (false, ())) (ocall (G39 k (v1, ())) fun r => sel
 (!r.1) (some (false, ())) (ocall (G82 k (v0, ())) fun r => ocall (G83 k ((v0, v1, v2, v3, v4, v5, ()), ())) fun r_1 => ocall (G84 k ((r.1, r_1.1, ()), ())) fun r => some (r.1, ())))) (sel (!decide (v1 = [])) (some (false, ())) (sel
 (!decide (v2 = 0)) (some (false, ())) (ocall (G82 k (v0, ())) fun r => ocall (G83 k ((v0, v1, v2, v3, v4, v5, ()), ())) fun r_1 => ocall (G84 k ((r.1, r_1.1, ()), ())) fun r => some (r.1, ())))) := by kernel_rfl
noncomputable def G53 (k : Nat) (v : (Int × List UInt8 × Int × Int × List UInt8 × List UInt8 × Unit) × Unit) : Option ((List UInt8 × List (Int × List UInt8 × Unit) × Unit) × Int × Unit) := F53 k v
theorem G53_eq (k : Nat) (v0 : Int) (v1 : List UInt8) (v2 v3 : Int) (v4 v5 : List UInt8) : G53 k ((v0, v1, v2, v3, v4, v5, ()), ()) = ocall (G71 k ((v0, v1, v2, v3, v4, v5, ()), ())) fun r => sel (!r.1) (some (([], [], ()), 1, ())) (ocall (G82 k (v0,
 ())) fun r => ocall (G83 k ((v0, v1, v2, v3, v4, v5, ()), ())) fun r_1 => some ((r.1, r_1.1, ()), 0, ())) := by kernel_rfl
noncomputable def G159 (k : Nat) (v : (Int × Int × Unit) × Unit) : Option (Int × Unit) := F159 k v
theorem G159_eq (k : Nat) (v0 v1 : Int) : G159 k ((v0, v1, ()), ()) = some (v0, ()) := by kernel_rfl
noncomputable def G161 (k : Nat) (v : (Int × Unit) × Unit) : Option (Int × Unit) := F161 k v
theorem G161_eq (k : Nat) (v0 : Int) : G161 k ((v0, ()), ()) = some (0, ()) := by kernel_rfl
noncomputable def G85 (k : Nat) (v : Int × List UInt8 × Unit) : Option (List Int × Int × Unit) := F85 k v
theorem G85_eq (k : Nat) (v0 : Int) (v1 : List UInt8) : G85 k (v0, v1, ()) = ocall (G74 k (v0, ())) fun r => sel (!r.2.1) (some ([], 5, ())) (ocall (G40 k (v0, v1, ())) fun r_1 => sel (!r_1.1) (some ([], 1, ())) (ocall (G75 k ((r.1.1, r.1.2.1, r.1.2.2.1,
 ()), ())) fun r => esel r (fun v => ocall (G159 k ((v.1.1, v.1.2.1, ()), ())) fun r => sel (decide (0 < r.1)) (ocall (G77 k (IntKind.u64.wrap (Int.ofNat v1.length), r.1, ())) fun r => sel (decide (r.1.length + v1.length ≤ 140737488355328)) (some (toBytes (r.1
 ++ v1), 0, ())) none) (some (toBytes v1, 0, ()))) fun e => ocall (G161 k ((e.1.1, ()), ())) fun r => sel (decide (0 < r.1)) (ocall (G77 k (IntKind.u64.wrap (Int.ofNat v1.length), r.1, ())) fun r => sel (decide (r.1.length + v1.length ≤ 140737488355328)) (some
 (toBytes (r.1 ++ v1), 0, ())) none) (some (toBytes v1, 0, ())))) := by kernel_rfl
noncomputable def G132 (k : Nat) (v : Int × Int × Int × Unit) : Option (Int × Int × Int × Unit ⊕ Int × Int × Int × Unit) := F132 k v
theorem G132_eq (k : Nat) (v0 v1 v2 : Int) : G132 k (v0, v1, v2, ()) = sel (decide (v0 ≤ 64)) (sel (decide (0 ≤ IntKind.i64.wrap (v0 - 1))) (some (Sum.inl (Int.fdiv 9223372036854775808 (2 ^ min (IntKind.i64.wrap (v0 - 1)).toNat 64), v1, v2, ()))) none) (sel (decide (0 ≤
 IntKind.i64.wrap (IntKind.i64.wrap (v0 - 64) - 1))) (some (Sum.inr (Int.fdiv 9223372036854775808 (2 ^ min (IntKind.i64.wrap (IntKind.i64.wrap (v0 - 64) - 1)).toNat 64), v1, v2, ()))) none) := by kernel_rfl
noncomputable def G133 (k : Nat) (v : (Int × Int × Unit) × Int × Unit) : Option (Bool × Unit) := F133 k v
theorem G133_eq (k : Nat) (v0 v1 v2 : Int) : G133 k ((v0, v1, ()), v2, ()) = ocall (G132 k (v2, v0, v1, ())) fun r => esel r (fun v => some (!decide (bits BinOp.and IntKind.u64 v.2.1 v.1 = 0), ())) fun e => some (!decide (bits BinOp.and IntKind.u64 e.2.2.1 e.1 = 0),
 ()) := by kernel_rfl
noncomputable def G112 (k : Nat) (v : (Int × Int × Unit) × Unit) : Option (Bool × Unit) := F112 k v
theorem G112_eq (k : Nat) (v0 v1 : Int) : G112 k ((v0, v1, ()), ()) = ocall (G133 k ((v0, v1, ()), 65, ())) fun r => sel (!r.1) (ocall (G133 k ((v0, v1, ()), 1, ())) fun r => some (r.1 == !decide (v1 = 0), ())) (some (false, ())) := by
 kernel_rfl
noncomputable def G131 (k : Nat) (v : Int × Unit) : Option (Bool × Unit) := F131 k v
theorem G131_eq (k : Nat) (v0 : Int) : G131 k (v0, ()) = sel (decide (1 < v0)) (sel (decide (v0 ≤ 128)) (some (!decide (v0 = 65), ())) (some (false, ()))) (some (false, ())) := by kernel_rfl
noncomputable def G111 (k : Nat) (v : (Int × Int × Unit) × Int × Unit) : Option ((Int × Int × Unit) × Int × Unit) := F111 k v
theorem G111_eq (k : Nat) (v0 v1 v2 : Int) : G111 k ((v0, v1, ()), v2, ()) = ocall (G112 k ((v0, v1, ()), ())) fun r => sel (!r.1) (some ((v0, v1, ()), 1, ())) (ocall (G131 k (v2, ())) fun r => sel (!r.1) (some ((v0, v1, ()), 1,
 ())) (ocall (G132 k (v2, v0, v1, ())) fun r => esel r (fun v => sel (!decide (v.2.2.1 = 0)) (some ((bits BinOp.or IntKind.u64 (bits BinOp.or IntKind.u64 v.2.1 v.1) 9223372036854775808, v.2.2.1, ()), 0, ())) (some ((bits BinOp.or IntKind.u64 v.2.1 v.1, v.2.2.1,
 ()), 0, ()))) fun e => sel (!decide (bits BinOp.or IntKind.u64 e.2.2.1 e.1 = 0)) (some ((bits BinOp.or IntKind.u64 e.2.1 9223372036854775808, bits BinOp.or IntKind.u64 e.2.2.1 e.1, ()), 0, ())) (some ((e.2.1, bits BinOp.or IntKind.u64 e.2.2.1 e.1, ()), 0,
 ())))) := by kernel_rfl
noncomputable def G86_3 (k : Nat) (j : Nat) (v : List Int × Int × Int × Int × Int × Int × Int × Unit) : Option (Int × Int × Int × Int × Unit ⊕ Int × Int × Int × Unit) := F86_3 k j v
theorem G86_3_eq (k : Nat) (j : Nat) (v0 : List Int) (v1 v2 v3 v4 v5 v6 : Int) : G86_3 k (j + 1) (v0, v1, v2, v3, v4, v5, v6, ()) = sel (decide (v2 < v1)) (sel (decide (0 ≤ v2)) (sel (decide (v2 < Int.ofNat v0.length)) (ocall (G111 k ((v5, v6, ()), v0.getD v2.toNat 0, ()))
 fun r => sel (!decide (r.2.1 = 0)) (some (Sum.inr (r.2.1, 0, 0, ()))) (G86_3 k j (v0, v1, IntKind.i64.wrap (v2 + 1), v3, v4, r.1.1, r.1.2.1, ()))) none) none) (some (Sum.inl (v3, v4, v5, v6, ()))) := by kernel_rfl
noncomputable def G86 (k : Nat) (v : List Int × Unit) : Option ((Int × Int × Unit) × Int × Unit) := F86 k v
theorem G86_eq (k : Nat) (v0 : List Int) : G86 k (v0, ()) = ocall (G86_3 k k (v0, Int.ofNat v0.length, 0, 0, 0, 0, 0, ())) fun e => esel e (fun v => some ((v.2.2.1, v.2.2.2.1, ()), 0, ())) fun e => some ((e.2.1, e.2.2.1, ()), e.1, ()) := by kernel_rfl
noncomputable def G113_2 (k : Nat) (j : Nat) (v : List Int × Int × Int × Unit) : Option (List Int × Unit) := F113_2 k j v
theorem G113_2_eq (k : Nat) (j : Nat) (v0 : List Int) (v1 v2 : Int) : G113_2 k (j + 1) (v0, v1, v2, ()) = sel (decide (v2 < 8)) (sel (decide (0 ≤ IntKind.i64.wrap (64 - IntKind.i64.wrap (8 * IntKind.i64.wrap (v2 + 1))))) (sel (decide ((v0.length + 1) * 1 ≤ 140737488355328)) (G113_2 k j (v0
 ++ [IntKind.u8.wrap (v1.fdiv (2 ^ min (IntKind.i64.wrap (64 - IntKind.i64.wrap (8 * IntKind.i64.wrap (v2 + 1)))).toNat 64))], v1, IntKind.i64.wrap (v2 + 1), ())) none) none) (some (v0, ())) := by kernel_rfl
noncomputable def G113 (k : Nat) (v : List Int × Int × Unit) : Option (List Int × Unit) := F113 k v
theorem G113_eq (k : Nat) (v0 : List Int) (v1 : Int) : G113 k (v0, v1, ()) = ocall (G113_2 k k (v0, v1, 0, ())) fun e => some (e.1, ()) := by kernel_rfl
noncomputable def G87 (k : Nat) (v : (Int × Int × Unit) × Unit) : Option (List Int × Int × Unit) := F87 k v
theorem G87_eq (k : Nat) (v0 v1 : Int) : G87 k ((v0, v1, ()), ()) = ocall (G112 k ((v0, v1, ()), ())) fun r => sel (!r.1) (some ([], 1, ())) (ocall (G113 k ([], v0, ())) fun r => sel (!decide (v1 = 0)) (ocall (G113 k (r.1, v1, ())) fun r =>
 some (r.1, 0, ())) (some (r.1, 0, ()))) := by kernel_rfl
noncomputable def G114 (k : Nat) (v : Int × Unit) : Option (List Int × Unit) := F114 k v
theorem G114_eq (k : Nat) (v0 : Int) : G114 k (v0, ()) = sel (decide (0 ≤ v0)) (sel (decide (v0 * 1 ≤ 140737488355328)) (some ([], ())) none) none := by kernel_rfl
noncomputable def G88_3 (k : Nat) (j : Nat) (v : List (List Int) × Int × List (List Int) × Int × Int × Unit) : Option (List (List Int) × Int × Unit) := F88_3 k j v
theorem G88_3_eq (k : Nat) (j : Nat) (v0 : List (List Int)) (v1 : Int) (v2 : List (List Int)) (v3 v4 : Int) : G88_3 k (j + 1) (v0, v1, v2, v3, v4, ()) = sel (decide (v4 < v3)) (sel (decide (0 ≤ v4)) (sel (decide (v4 < Int.ofNat v2.length)) (sel (decide (IntKind.i64.wrap (v1 + Int.ofNat
 (List.length (v2.getD v4.toNat []))) < 0)) none (G88_3 k j (v0, IntKind.i64.wrap (v1 + Int.ofNat (List.length (v2.getD v4.toNat []))), v2, v3, IntKind.i64.wrap (v4 + 1), ()))) none) none) (some (v0, v1, ())) := by kernel_rfl
noncomputable def G88_11 (k : Nat) (j : Nat) (v : List Int × List (List Int) × Int × Int × Unit) : Option (List Int × Unit) := F88_11 k j v
theorem G88_11_eq (k : Nat) (j : Nat) (v0 : List Int) (v1 : List (List Int)) (v2 v3 : Int) : G88_11 k (j + 1) (v0, v1, v2, v3, ()) = sel (decide (v3 < v2)) (sel (decide (0 ≤ v3)) (sel (decide (v3 < Int.ofNat v1.length)) (sel (decide ((v0.length + List.length (v1.getD v3.toNat [])) * 1 ≤
 140737488355328)) (G88_11 k j (v0 ++ v1.getD v3.toNat [], v1, v2, IntKind.i64.wrap (v3 + 1), ())) none) none) none) (some (v0, ())) := by kernel_rfl
noncomputable def G88 (k : Nat) (v : List (List Int) × Unit) : Option (List Int × Unit) := F88 k v
theorem G88_eq (k : Nat) (v0 : List (List Int)) : G88 k (v0, ()) = ocall (G88_3 k k (v0, 0, v0, Int.ofNat v0.length, 0, ())) fun e => ocall (G114 k (e.2.1, ())) fun r => ocall (G88_11 k k (r.1, e.1, Int.ofNat e.1.length, 0, ())) fun e => some (e.1, ()) := by
 kernel_rfl
noncomputable def G54_6 (k : Nat) (j : Nat) (v : List Int × List Int × List (Int × List UInt8 × Unit) × Int × Int × List UInt8 × List (Int × List UInt8 × Unit) × Unit) : Option (List Int × List Int × List UInt8 × List (Int × List UInt8 × Unit) × Unit) := F54_6 k j v
theorem G54_6_eq (k : Nat) (j : Nat) (v0 v1 : List Int) (v2 : List (Int × List UInt8 × Unit)) (v3 v4 : Int) (v5 : List UInt8) (v6 : List (Int × List UInt8 × Unit)) : G54_6 k (j + 1) (v0, v1, v2, v3, v4, v5, v6, ()) = sel (decide (v4 < v3)) (sel (decide (0 ≤ v4)) (sel (decide (v4 <
 Int.ofNat v2.length)) (ocall (G85 k ((v2.getD v4.toNat (0, [], ())).1, (v2.getD v4.toNat (0, [], ())).2.1, ())) fun r => sel (decide ((v0.length + 1) * 8 ≤ 140737488355328)) (sel (decide ((v1.length + r.1.length) * 1 ≤ 140737488355328)) (G54_6 k j (v0 ++ [(v2.getD v4.toNat
 (0, [], ())).1], v1 ++ r.1, v2, v3, IntKind.i64.wrap (v4 + 1), v5, v6, ())) none) none) none) none) (some (v0, v1, v5, v6, ())) := by kernel_rfl
noncomputable def G54 (k : Nat) (v : (List UInt8 × List (Int × List UInt8 × Unit) × Unit) × Unit) : Option (List Int × Int × Unit) := F54 k v
theorem G54_eq (k : Nat) (v0 : List UInt8) (v1 : List (Int × List UInt8 × Unit)) : G54 k ((v0, v1, ()), ()) = ocall (G84 k ((v0, v1, ()), ())) fun r => sel (!r.1) (some ([], 1, ())) (ocall (G54_6 k k ([], [], v1, Int.ofNat v1.length, 0, v0, v1, ()))
 fun e => ocall (G86 k (e.1, ())) fun r => ocall (G87 k ((r.1.1, r.1.2.1, ()), ())) fun r => ocall (G88 k ([toBytes e.2.2.1, r.1, e.2.1], ())) fun r => some (r.1, 0, ())) := by kernel_rfl
noncomputable def G55 (k : Nat) (v : List Int × Unit) : Option (List Int × Int × Unit) := F55 k v
theorem G55_eq (k : Nat) (v0 : List Int) : G55 k (v0, ()) = sel (decide (v0.length = 0)) (some ([], 2, ())) (sel (decide (2048 < v0.length)) (some ([], 4, ())) (some (Int.ofNat ((v0.length.div 256).mod 256) :: Int.ofNat (v0.length.mod 256) :: v0, 0, ()))) := by
 kernel_rfl
noncomputable def G25 (k : Nat) (v : (Int × List UInt8 × Int × Int × List UInt8 × List UInt8 × Unit) × Unit) : Option (List Int × Int × Unit) := F25 k v
theorem G25_eq (k : Nat) (v0 : Int) (v1 : List UInt8) (v2 v3 : Int) (v4 v5 : List UInt8) : G25 k ((v0, v1, v2, v3, v4, v5, ()), ()) = ocall (G53 k ((v0, v1, v2, v3, v4, v5, ()), ())) fun r => sel (!decide (r.2.1 = 0)) (some ([], r.2.1, ())) (ocall (G54 k
 ((r.1.1, r.1.2.1, ()), ())) fun r => ocall (G55 k (r.1, ())) fun r => some (r.1, r.2.1, ())) := by kernel_rfl
noncomputable def G123 (k : Nat) (v : List Int × Unit) : Option (Int × Unit) := F123 k v
theorem G123_eq (k : Nat) (v0 : List Int) : G123 k (v0, ()) = sel (decide (Int.ofNat v0.length < 2)) (some (0, ())) (sel (decide (0 < Int.ofNat v0.length)) (sel (decide (1 < Int.ofNat v0.length)) (sel (decide (bits BinOp.or IntKind.i64 (IntKind.i64.wrap (IntKind.i64.wrap (v0.getD
 (Int.toNat 0) 0) * 2 ^ min (Int.toNat 8) 64)) (IntKind.i64.wrap (v0.getD (Int.toNat 1) 0)) = 0)) (sel (decide (bits BinOp.or IntKind.i64 (IntKind.i64.wrap (IntKind.i64.wrap (v0.getD (Int.toNat 0) 0) * 2 ^ min (Int.toNat 8) 64)) (IntKind.i64.wrap (v0.getD (Int.toNat 1) 0)) = 0)) (some ((-1 : Int),
 ())) (sel (decide (Int.ofNat v0.length < IntKind.i64.wrap (2 + bits BinOp.or IntKind.i64 (IntKind.i64.wrap (IntKind.i64.wrap (v0.getD (Int.toNat 0) 0) * 2 ^ min (Int.toNat 8) 64)) (IntKind.i64.wrap (v0.getD (Int.toNat 1) 0))))) (some (0, ())) (some (IntKind.i64.wrap (2 + bits
 BinOp.or IntKind.i64 (IntKind.i64.wrap (IntKind.i64.wrap (v0.getD (Int.toNat 0) 0) * 2 ^ min (Int.toNat 8) 64)) (IntKind.i64.wrap (v0.getD (Int.toNat 1) 0))), ())))) (sel (decide (2048 < bits BinOp.or IntKind.i64 (IntKind.i64.wrap (IntKind.i64.wrap (v0.getD (Int.toNat 0) 0) * 2 ^ min
 (Int.toNat 8) 64)) (IntKind.i64.wrap (v0.getD (Int.toNat 1) 0)))) (some ((-1 : Int), ())) (sel (decide (Int.ofNat v0.length < IntKind.i64.wrap (2 + bits BinOp.or IntKind.i64 (IntKind.i64.wrap (IntKind.i64.wrap (v0.getD (Int.toNat 0) 0) * 2 ^ min (Int.toNat 8) 64)) (IntKind.i64.wrap (v0.getD
 (Int.toNat 1) 0))))) (some (0, ())) (some (IntKind.i64.wrap (2 + bits BinOp.or IntKind.i64 (IntKind.i64.wrap (IntKind.i64.wrap (v0.getD (Int.toNat 0) 0) * 2 ^ min (Int.toNat 8) 64)) (IntKind.i64.wrap (v0.getD (Int.toNat 1) 0))), ()))))) none) none) := by kernel_rfl
noncomputable def G122 (k : Nat) (v : (List Int × Bool × Unit) × Unit) : Option (Bool × Unit) := F122 k v
theorem G122_eq (k : Nat) (v0 : List Int) (v1 : Bool) : G122 k ((v0, v1, ()), ()) = sel v1 (some (decide (Int.ofNat v0.length = 0), ())) (ocall (G123 k (v0, ())) fun r => some (decide (r.1 = 0), ())) := by kernel_rfl
noncomputable def G124 (k : Nat) (v : List Int) : Option (List Int × Unit) := F124 k v
theorem G124_eq (k : Nat) (v0 : List Int) : G124 k v0 = sel (decide ((0 + v0.length) * 1 ≤ 140737488355328)) (some (v0, ())) none := by kernel_rfl
noncomputable def G107_g0 (k : Nat) (j : Nat) (v : List Int × List (List Int) × List Int × Bool × Unit) : Option (List (List Int) × Int × List Int × Bool × Unit) := F107_g0 k j v
theorem G107_g0_eq (k : Nat) (j : Nat) (v0 : List Int) (v1 : List (List Int)) (v2 : List Int) (v3 : Bool) : G107_g0 k (j + 1) (v0, v1, v2, v3, ()) = ocall (G123 k (v0, ())) fun r => sel (decide (0 < r.1)) (sel (decide (2 ≤ r.1)) (sel (decide (r.1 ≤ r.1)) (sel (decide (r.1 ≤ Int.ofNat
 v0.length)) (sel (decide ((v1.length + 1) * 24 ≤ 140737488355328)) (sel (decide (0 ≤ r.1)) (sel (decide (r.1 ≤ Int.ofNat v0.length)) (sel (decide (Int.ofNat v0.length ≤ Int.ofNat v0.length)) (sel (decide (Int.ofNat v0.length ≤ Int.ofNat v0.length)) (G107_g0 k j (List.drop r.1.toNat (List.take
 (Int.ofNat v0.length).toNat v0), v1 ++ [List.drop (Int.toNat 2) (List.take r.1.toNat v0)], v2, v3, ())) none) none) none) none) none) none) none) none) (sel (decide (r.1 < 0)) (some (v1, 12, [], true, ())) (ocall (G124 k v0) fun r => some (v1, 0, r.1, false, ()))) := by
 kernel_rfl
noncomputable def G107 (k : Nat) (v : (List Int × Bool × Unit) × List Int × Unit) : Option ((List Int × Bool × Unit) × List (List Int) × Int × Unit) := F107 k v
theorem G107_eq (k : Nat) (v0 : List Int) (v1 : Bool) (v2 : List Int) : G107 k ((v0, v1, ()), v2, ()) = ocall (G122 k ((v0, v1, ()), ())) fun r => sel (!r.1) (some ((v0, v1, ()), [], 1, ())) (sel v1 (some ((v0, v1, ()), [], 12, ()))
 (ocall (G88 k ([v0, v2], ())) fun r => ocall (G123 k (r.1, ())) fun r_1 => sel (decide (0 < r_1.1)) (sel (decide (2 ≤ r_1.1)) (sel (decide (r_1.1 ≤ r_1.1)) (sel (decide (r_1.1 ≤ Int.ofNat r.1.length)) (sel (decide (0 ≤ r_1.1)) (sel (decide (r_1.1 ≤ Int.ofNat r.1.length)) (sel (decide
 (Int.ofNat r.1.length ≤ Int.ofNat r.1.length)) (sel (decide (Int.ofNat r.1.length ≤ Int.ofNat r.1.length)) (ocall (G107_g0 k k (List.drop r_1.1.toNat (List.take (Int.ofNat r.1.length).toNat r.1), [List.drop (Int.toNat 2) (List.take r_1.1.toNat r.1)], [], false, ())) fun e => some ((e.2.2.1,
 e.2.2.2.1, ()), e.1, e.2.1, ())) none) none) none) none) none) none) none) (sel (decide (r_1.1 < 0)) (some (([], true, ()), [], 12, ())) (ocall (G124 k r.1) fun r => some ((r.1, false, ()), [], 0, ()))))) := by kernel_rfl
noncomputable def G142_3 (k : Nat) (j : Nat) (v : Int × List Int × Int × Int × Unit) : Option (Int × Unit) := F142_3 k j v
theorem G142_3_eq (k : Nat) (j : Nat) (v0 : Int) (v1 : List Int) (v2 v3 : Int) : G142_3 k (j + 1) (v0, v1, v2, v3, ()) = sel (decide (v3 < v2)) (sel (decide (0 ≤ v3)) (sel (decide (v3 < Int.ofNat v1.length)) (G142_3 k j (bits BinOp.or IntKind.u64 (IntKind.u64.wrap (v0 * 2 ^ min (Int.toNat 8)
 64)) (IntKind.u64.wrap (v1.getD v3.toNat 0)), v1, v2, IntKind.i64.wrap (v3 + 1), ())) none) none) (some (v0, ())) := by kernel_rfl
noncomputable def G142 (k : Nat) (v : List Int × Unit) : Option (Int × Unit) := F142 k v
theorem G142_eq (k : Nat) (v0 : List Int) : G142 k (v0, ()) = sel (decide (8 ≤ Int.ofNat v0.length)) (sel (decide (Int.ofNat v0.length ≤ Int.ofNat v0.length)) (ocall (G142_3 k k (0, List.drop (Int.ofNat 0).toNat (List.take (Int.toNat 8) v0), Int.ofNat (List.drop (Int.ofNat 0).toNat
 (List.take (Int.toNat 8) v0)).length, 0, ())) fun e => some (e.1, ())) none) none := by kernel_rfl
noncomputable def G136 (k : Nat) (v : List Int × Unit) : Option ((Int × Int × Unit) × Int × Int × Unit) := F136 k v
theorem G136_eq (k : Nat) (v0 : List Int) : G136 k (v0, ()) = sel (decide (Int.ofNat v0.length < 8)) (some ((0, 0, ()), 0, 2, ())) (ocall (G142 k (v0, ())) fun r => ocall (G133 k ((r.1, 0, ()), 1, ())) fun r_1 => sel r_1.1 (sel (decide (Int.ofNat
 v0.length < 16)) (some ((0, 0, ()), 0, 2, ())) (sel (decide (8 ≤ Int.ofNat v0.length)) (sel (decide (Int.ofNat v0.length ≤ Int.ofNat v0.length)) (sel (decide (Int.ofNat v0.length ≤ Int.ofNat v0.length)) (ocall (G142 k (List.drop (Int.toNat 8) (List.take (Int.ofNat v0.length).toNat
 v0), ())) fun r_2 => ocall (G112 k ((r.1, r_2.1, ()), ())) fun r_3 => sel (!r_3.1) (some ((0, 0, ()), 0, 3, ())) (some ((r.1, r_2.1, ()), 16, 0, ()))) none) none) none)) (ocall (G112 k ((r.1, 0, ()), ())) fun r_2 => sel (!r_2.1)
 (some ((0, 0, ()), 0, 3, ())) (some ((r.1, 0, ()), 8, 0, ())))) := by kernel_rfl
noncomputable def G143 (k : Nat) (v : (Int × Int × Unit) × Int × Unit) : Option (Bool × Unit) := F143 k v
theorem G143_eq (k : Nat) (v0 v1 v2 : Int) : G143 k ((v0, v1, ()), v2, ()) = ocall (G131 k (v2, ())) fun r => sel r.1 (ocall (G133 k ((v0, v1, ()), v2, ())) fun r => some (r.1, ())) (some (false, ())) := by kernel_rfl
noncomputable def G137_g0 (k : Nat) (j : Nat) (v : List Int × Int × Int × Int × Unit) : Option (List Int × Unit) := F137_g0 k j v
theorem G137_g0_eq (k : Nat) (j : Nat) (v0 : List Int) (v1 v2 v3 : Int) : G137_g0 k (j + 1) (v0, v1, v2, v3, ()) = ocall (G143 k ((v2, v3, ()), v1, ())) fun r => sel r.1 (sel (decide ((v0.length + 1) * 8 ≤ 140737488355328)) (sel (decide (IntKind.i64.wrap (v1 + 1) ≤ 128))
 (G137_g0 k j (v0 ++ [v1], IntKind.i64.wrap (v1 + 1), v2, v3, ())) (some (v0 ++ [v1], ()))) none) (sel (decide (IntKind.i64.wrap (v1 + 1) ≤ 128)) (G137_g0 k j (v0, IntKind.i64.wrap (v1 + 1), v2, v3, ())) (some (v0, ()))) := by kernel_rfl
noncomputable def G137 (k : Nat) (v : (Int × Int × Unit) × Unit) : Option (List Int × Unit) := F137 k v
theorem G137_eq (k : Nat) (v0 v1 : Int) : G137 k ((v0, v1, ()), ()) = ocall (G143 k ((v0, v1, ()), 2, ())) fun r => sel r.1 (ocall (G137_g0 k k ([2], IntKind.i64.wrap (2 + 1), v0, v1, ())) fun e => some (e.1, ())) (ocall (G137_g0 k k ([],
 IntKind.i64.wrap (2 + 1), v0, v1, ())) fun e => some (e.1, ())) := by kernel_rfl
noncomputable def G125 (k : Nat) (v : List Int × Unit) : Option (List UInt8 × List Int × List Int × Int × Unit) := F125 k v
theorem G125_eq (k : Nat) (v0 : List Int) : G125 k (v0, ()) = sel (decide (Int.ofNat v0.length < 4)) (some ([], [], [], 2, ())) (sel (decide (4 ≤ Int.ofNat v0.length)) (sel (decide (Int.ofNat v0.length ≤ Int.ofNat v0.length)) (ocall (G110 k (ofBytes (List.drop (Int.ofNat 0).toNat
 (List.take (Int.toNat 4) v0)), ())) fun r => sel (!r.1) (some ([], [], [], 3, ())) (sel (decide (4 ≤ Int.ofNat v0.length)) (sel (decide (Int.ofNat v0.length ≤ Int.ofNat v0.length)) (sel (decide (Int.ofNat v0.length ≤ Int.ofNat v0.length)) (ocall (G136 k (List.drop (Int.toNat 4)
 (List.take (Int.ofNat v0.length).toNat v0), ())) fun r => sel (decide (4 ≤ Int.ofNat v0.length)) (sel (decide (Int.ofNat v0.length ≤ Int.ofNat v0.length)) (ocall (G137 k ((r.1.1, r.1.2.1, ()), ())) fun r_1 => sel (decide (0 ≤ IntKind.i64.wrap (4 + r.2.1))) (sel (decide
 (IntKind.i64.wrap (4 + r.2.1) ≤ Int.ofNat v0.length)) (sel (decide (Int.ofNat v0.length ≤ Int.ofNat v0.length)) (sel (decide (Int.ofNat v0.length ≤ Int.ofNat v0.length)) (some (ofBytes (List.drop (Int.ofNat 0).toNat (List.take (Int.toNat 4) v0)), r_1.1, List.drop (IntKind.i64.wrap (4 + r.2.1)).toNat
 (List.take (Int.ofNat v0.length).toNat v0), r.2.2.1, ())) none) none) none) none) none) none) none) none) none)) none) none) := by kernel_rfl
noncomputable def G139_9 (k : Nat) (j : Nat) (v : Int × List Int × Int × Int × Unit) : Option (Int × Unit) := F139_9 k j v
theorem G139_9_eq (k : Nat) (j : Nat) (v0 : Int) (v1 : List Int) (v2 v3 : Int) : G139_9 k (j + 1) (v0, v1, v2, v3, ()) = sel (decide (v3 < v2)) (sel (decide (0 ≤ v3)) (sel (decide (v3 < Int.ofNat v1.length)) (sel (decide (v3.toNat < v1.length)) (G139_9 k j (IntKind.u64.wrap (IntKind.u64.wrap
 (10 * v0) + IntKind.u64.wrap (IntKind.u8.wrap (v1.getD v3.toNat 0 - 48))), v1, v2, IntKind.i64.wrap (v3 + 1), ())) none) none) none) (some (v0, ())) := by kernel_rfl
noncomputable def G139 (k : Nat) (v : List UInt8 × Unit) : Option (Int × Int × Unit) := F139 k v
theorem G139_eq (k : Nat) (v0 : List UInt8) : G139 k (v0, ()) = sel (decide (v0 = [])) (some (0, 2, ())) (sel (decide (19 < Int.ofNat v0.length)) (some (0, 4, ())) (ocall (G72 k (v0, ())) fun r => sel (!r.1) (some (0, 3, ())) (ocall (G139_9 k k (0, toBytes v0,
 Int.ofNat (toBytes v0).length, 0, ())) fun e => some (e.1, 0, ())))) := by kernel_rfl
noncomputable def G138 (k : Nat) (v : (Int × Int × Int × Unit) × List Int × Unit) : Option (Int × Int × Unit) := F138 k v
theorem G138_eq (k : Nat) (v0 v1 v2 : Int) (v3 : List Int) : G138 k ((v0, v1, v2, ()), v3, ()) = ocall (G75 k ((v0, v1, v2, ()), ())) fun r => esel r (fun v => ocall (G159 k ((v.1.1, v.1.2.1, ()), ())) fun r => sel (decide (r.1 = 0)) (some (v2, 0,
 ())) (sel (decide (Int.ofNat v3.length < r.1)) (some (0, 2, ())) (sel (decide (Int.ofNat 0 ≤ r.1)) (sel (decide (r.1 ≤ Int.ofNat v3.length)) (sel (decide (Int.ofNat v3.length ≤ Int.ofNat v3.length)) (ocall (G139 k (ofBytes (List.drop (Int.ofNat 0).toNat (List.take r.1.toNat v3)),
 ())) fun r => sel (!decide (r.2.1 = 0)) (sel (!decide (r.2.1 = 0)) (some (0, 3, ())) (sel (decide (IntKind.u64.wrap v2 < r.1)) (some (0, 4, ())) (some (IntKind.i64.wrap r.1, 0, ())))) (sel (decide (r.1 = 0)) (some (0, 3, ())) (sel (decide (IntKind.u64.wrap v2
 < r.1)) (some (0, 4, ())) (some (IntKind.i64.wrap r.1, 0, ()))))) none) none) none))) fun e => ocall (G161 k ((e.1.1, ()), ())) fun r => sel (decide (r.1 = 0)) (some (v2, 0, ())) (sel (decide (Int.ofNat v3.length < r.1)) (some (0, 2, ())) (sel (decide
 (Int.ofNat 0 ≤ r.1)) (sel (decide (r.1 ≤ Int.ofNat v3.length)) (sel (decide (Int.ofNat v3.length ≤ Int.ofNat v3.length)) (ocall (G139 k (ofBytes (List.drop (Int.ofNat 0).toNat (List.take r.1.toNat v3)), ())) fun r => sel (!decide (r.2.1 = 0)) (sel (!decide (r.2.1 = 0)) (some (0, 3,
 ())) (sel (decide (IntKind.u64.wrap v2 < r.1)) (some (0, 4, ())) (some (IntKind.i64.wrap r.1, 0, ())))) (sel (decide (r.1 = 0)) (some (0, 3, ())) (sel (decide (IntKind.u64.wrap v2 < r.1)) (some (0, 4, ())) (some (IntKind.i64.wrap r.1, 0, ()))))) none)
 none) none)) := by kernel_rfl
noncomputable def G126 (k : Nat) (v : Int × List Int × Unit) : Option (List UInt8 × Int × Int × Unit) := F126 k v
theorem G126_eq (k : Nat) (v0 : Int) (v1 : List Int) : G126 k (v0, v1, ()) = ocall (G74 k (v0, ())) fun r => sel (!r.2.1) (some ([], 0, 5, ())) (ocall (G138 k ((r.1.1, r.1.2.1, r.1.2.2.1, ()), v1, ())) fun r_1 => sel (!decide (r_1.2.1 = 0)) (some ([], 0,
 r_1.2.1, ())) (ocall (G75 k ((r.1.1, r.1.2.1, r.1.2.2.1, ()), ())) fun r_2 => esel r_2 (fun v => ocall (G159 k ((v.1.1, v.1.2.1, ()), ())) fun r_3 => sel (decide (Int.ofNat v1.length < IntKind.i64.wrap (r_3.1 + r_1.1))) (some ([], 0, 2, ())) (sel
 (decide (0 ≤ r_3.1)) (sel (decide (r_3.1 ≤ IntKind.i64.wrap (r_3.1 + r_1.1))) (sel (decide (IntKind.i64.wrap (r_3.1 + r_1.1) ≤ Int.ofNat v1.length)) (sel (decide (Int.ofNat v1.length ≤ Int.ofNat v1.length)) (ocall (G76 k ((r.1.1, r.1.2.1, r.1.2.2.1, ()), ofBytes (List.drop r_3.1.toNat
 (List.take (IntKind.i64.wrap (r_3.1 + r_1.1)).toNat v1)), ())) fun r => sel (!r.1) (some ([], 0, 3, ())) (some (ofBytes (List.drop r_3.1.toNat (List.take (IntKind.i64.wrap (r_3.1 + r_1.1)).toNat v1)), IntKind.i64.wrap (r_3.1 + r_1.1), 0, ()))) none) none) none) none)) fun e
 => ocall (G161 k ((e.1.1, ()), ())) fun r_3 => sel (decide (Int.ofNat v1.length < IntKind.i64.wrap (r_3.1 + r_1.1))) (some ([], 0, 2, ())) (sel (decide (0 ≤ r_3.1)) (sel (decide (r_3.1 ≤ IntKind.i64.wrap (r_3.1 + r_1.1))) (sel (decide (IntKind.i64.wrap (r_3.1 + r_1.1) ≤
 Int.ofNat v1.length)) (sel (decide (Int.ofNat v1.length ≤ Int.ofNat v1.length)) (ocall (G76 k ((r.1.1, r.1.2.1, r.1.2.2.1, ()), ofBytes (List.drop r_3.1.toNat (List.take (IntKind.i64.wrap (r_3.1 + r_1.1)).toNat v1)), ())) fun r => sel (!r.1) (some ([], 0, 3, ())) (some
 (ofBytes (List.drop r_3.1.toNat (List.take (IntKind.i64.wrap (r_3.1 + r_1.1)).toNat v1)), IntKind.i64.wrap (r_3.1 + r_1.1), 0, ()))) none) none) none) none))) := by kernel_rfl
noncomputable def G108_8 (k : Nat) (j : Nat) (v : List Int × List Int × Int × Int × List UInt8 × List (Int × List UInt8 × Unit) × List UInt8 × List (Int × List UInt8 × Unit) × Unit) : Option (List Int × List UInt8 × List (Int × List UInt8 × Unit) × List UInt8 × List (Int × List UInt8 × Unit) ×
 Unit ⊕ Int × List UInt8 × List (Int × List UInt8 × Unit) × Unit) := F108_8 k j v
theorem G108_8_eq (k : Nat) (j : Nat) (v0 v1 : List Int) (v2 v3 : Int) (v4 : List UInt8) (v5 : List (Int × List UInt8 × Unit)) (v6 : List UInt8) (v7 : List (Int × List UInt8 × Unit)) : G108_8 k (j + 1) (v0, v1, v2, v3, v4, v5, v6, v7, ()) = sel (decide (v3 < v2)) (sel (decide (0 ≤ v3))
 (sel (decide (v3 < Int.ofNat v1.length)) (sel (decide (v3.toNat < v1.length)) (ocall (G126 k (v1.getD v3.toNat 0, v0, ())) fun r => sel (!decide (r.2.2.1 = 0)) (some (Sum.inr (r.2.2.1, [], [], ()))) (sel (decide ((v7.length + 1) * 24 ≤ 140737488355328)) (sel (decide (0 ≤ r.2.1)) (sel
 (decide (r.2.1 ≤ Int.ofNat v0.length)) (sel (decide (Int.ofNat v0.length ≤ Int.ofNat v0.length)) (sel (decide (Int.ofNat v0.length ≤ Int.ofNat v0.length)) (G108_8 k j (List.drop r.2.1.toNat (List.take (Int.ofNat v0.length).toNat v0), v1, v2, IntKind.i64.wrap (v3 + 1), v4, v5, v6, v7 ++ [(v1.getD
 v3.toNat 0, r.1, ())], ())) none) none) none) none) none)) none) none) none) (some (Sum.inl (v0, v4, v5, v6, v7, ()))) := by kernel_rfl
noncomputable def G108 (k : Nat) (v : List Int × Unit) : Option ((List UInt8 × List (Int × List UInt8 × Unit) × Unit) × Int × Unit) := F108 k v
theorem G108_eq (k : Nat) (v0 : List Int) : G108 k (v0, ()) = ocall (G125 k (v0, ())) fun r => sel (!decide (r.2.2.2.1 = 0)) (some (([], [], ()), r.2.2.2.1, ())) (sel (decide (Int.ofNat r.2.1.length = 0)) (some (([], [], ()), 3, ())) (ocall (G108_8 k k
 (r.2.2.1, r.2.1, Int.ofNat r.2.1.length, 0, [], [], r.1, [], ())) fun e => esel e (fun v => sel (decide (0 < Int.ofNat v.1.length)) (some (([], [], ()), 4, ())) (some ((v.2.2.2.1, v.2.2.2.2.1, ()), 0, ()))) fun e => some ((e.2.1, e.2.2.1, ()), e.1,
 ()))) := by kernel_rfl
noncomputable def G127_2 (k : Nat) (j : Nat) (v : List UInt8 × Int × Unit) : Option (Unit ⊕ Int × Unit) := F127_2 k j v
theorem G127_2_eq (k : Nat) (j : Nat) (v0 : List UInt8) (v1 : Int) : G127_2 k (j + 1) (v0, v1, ()) = sel (decide (v1 ≤ 7)) (ocall (G82 k (v1, ())) fun r => sel (decide (r.1 = v0)) (some (Sum.inr (v1, ()))) (G127_2 k j (v0, IntKind.i64.wrap (v1 + 1), ()))) (some
 (Sum.inl ())) := by kernel_rfl
noncomputable def G127 (k : Nat) (v : List UInt8 × Unit) : Option (Int × Unit) := F127 k v
theorem G127_eq (k : Nat) (v0 : List UInt8) : G127 k (v0, ()) = ocall (G127_2 k k (v0, 1, ())) fun e => esel e (fun v => some (0, ())) fun e => some (e.1, ()) := by kernel_rfl
noncomputable def G141 (k : Nat) (v : (Int × List UInt8 × Unit) × (Int × Unit) × Unit) : Option (Bool × Unit) := F141 k v
theorem G141_eq (k : Nat) (v0 : Int) (v1 : List UInt8) (v2 : Int) : G141 k ((v0, v1, ()), (v2, ()), ()) = some (decide (v0 = v2), ()) := by kernel_rfl
noncomputable def G7000000_2 (k : Nat) (j : Nat) (v : List (Int × List UInt8 × Unit) × ((Int × Unit) × Unit) × Int × Int × Unit) : Option (Unit ⊕ Int × Unit) := F7000000_2 k j v
theorem G7000000_2_eq (k : Nat) (j : Nat) (v0 : List (Int × List UInt8 × Unit)) (v1 v2 v3 : Int) : G7000000_2 k (j + 1) (v0, ((v1, ()), ()), v2, v3, ()) = sel (decide (v3 < v2)) (sel (decide (0 ≤ v3)) (sel (decide (v3 < Int.ofNat v0.length)) (ocall (G141 k (((v0.getD
 v3.toNat (0, [], ())).1, (v0.getD v3.toNat (0, [], ())).2.1, ()), (v1, ()), ())) fun r => sel r.1 (some (Sum.inr (v3, ()))) (G7000000_2 k j (v0, ((v1, ()), ()), v2, IntKind.i64.wrap (v3 + 1), ()))) none) none) (some (Sum.inl
 ())) := by kernel_rfl
noncomputable def G7000000 (k : Nat) (v : List (Int × List UInt8 × Unit) × ((Int × Unit) × Unit) × Unit) : Option (Int × Unit) := F7000000 k v
theorem G7000000_eq (k : Nat) (v0 : List (Int × List UInt8 × Unit)) (v1 : Int) : G7000000 k (v0, ((v1, ()), ()), ()) = ocall (G7000000_2 k k (v0, ((v1, ()), ()), Int.ofNat v0.length, 0, ())) fun e => esel e (fun v => some ((-1 : Int), ())) fun
 e => some (e.1, ()) := by kernel_rfl
noncomputable def G129 (k : Nat) (v : (List UInt8 × List (Int × List UInt8 × Unit) × Unit) × Int × Unit) : Option (List UInt8 × Bool × Unit) := F129 k v
theorem G129_eq (k : Nat) (v0 : List UInt8) (v1 : List (Int × List UInt8 × Unit)) (v2 : Int) : G129 k ((v0, v1, ()), v2, ()) = ocall (G7000000 k (v1, ((v2, ()), ()), ())) fun r => sel (decide (r.1 < 0)) (some ([], false, ())) (sel (decide (0 ≤ r.1))
 (sel (decide (r.1 < Int.ofNat v1.length)) (some ((v1.getD r.1.toNat (0, [], ())).2.1, true, ())) none) none) := by kernel_rfl
noncomputable def G128 (k : Nat) (v : (List UInt8 × List (Int × List UInt8 × Unit) × Unit) × Int × Unit) : Option (Int × Unit) := F128 k v
theorem G128_eq (k : Nat) (v0 : List UInt8) (v1 : List (Int × List UInt8 × Unit)) (v2 : Int) : G128 k ((v0, v1, ()), v2, ()) = ocall (G129 k ((v0, v1, ()), v2, ())) fun r => ocall (G139 k (r.1, ())) fun r => some (r.1, ()) := by kernel_rfl
noncomputable def G130_5 (k : Nat) (j : Nat) (v : List (Int × List UInt8 × Unit) × Int × Int × List UInt8 × List (Int × List UInt8 × Unit) × Unit) : Option (Unit ⊕ Bool × Unit) := F130_5 k j v
theorem G130_5_eq (k : Nat) (j : Nat) (v0 : List (Int × List UInt8 × Unit)) (v1 v2 : Int) (v3 : List UInt8) (v4 : List (Int × List UInt8 × Unit)) : G130_5 k (j + 1) (v0, v1, v2, v3, v4, ()) = sel (decide (v2 < v1)) (sel (decide (0 ≤ v2)) (sel (decide (v2 < Int.ofNat v0.length)) (sel
 (decide (v2.toNat < v0.length)) (sel (decide (0 ≤ v2)) (sel (decide (v2 < Int.ofNat v4.length)) (sel (!decide ((v4.getD v2.toNat (0, [], ())).1 = (v0.getD v2.toNat (0, [], ())).1)) (some (Sum.inr (false, ()))) (G130_5 k j (v0, v1, IntKind.i64.wrap (v2 + 1), v3, v4,
 ()))) none) none) none) none) none) (some (Sum.inl ())) := by kernel_rfl
noncomputable def G130 (k : Nat) (v : (List UInt8 × List (Int × List UInt8 × Unit) × Unit) × (Int × List UInt8 × Int × Int × List UInt8 × List UInt8 × Unit) × Unit) : Option (Bool × Unit) := F130 k v
theorem G130_eq (k : Nat) (v0 : List UInt8) (v1 : List (Int × List UInt8 × Unit)) (v2 : Int) (v3 : List UInt8) (v4 v5 : Int) (v6 v7 : List UInt8) : G130 k ((v0, v1, ()), (v2, v3, v4, v5, v6, v7, ()), ()) = ocall (G83 k ((v2, v3, v4, v5, v6, v7, ()), ())) fun
 r => sel (!decide (Int.ofNat r.1.length = Int.ofNat v1.length)) (some (false, ())) (ocall (G130_5 k k (r.1, Int.ofNat r.1.length, 0, v0, v1, ())) fun e => esel e (fun v => some (true, ())) fun e => some (e.1, ())) := by kernel_rfl
noncomputable def G109 (k : Nat) (v : (List UInt8 × List (Int × List UInt8 × Unit) × Unit) × Unit) : Option ((Int × List UInt8 × Int × Int × List UInt8 × List UInt8 × Unit) × Int × Unit) := F109 k v
theorem G109_eq (k : Nat) (v0 : List UInt8) (v1 : List (Int × List UInt8 × Unit)) : G109 k ((v0, v1, ()), ()) = ocall (G84 k ((v0, v1, ()), ())) fun r => sel (!r.1) (some ((0, [], 0, 0, [], [], ()), 1, ())) (ocall (G127 k (v0, ())) fun r =>
 ocall (G128 k ((v0, v1, ()), 11, ())) fun r_1 => ocall (G128 k ((v0, v1, ()), 4, ())) fun r_2 => ocall (G129 k ((v0, v1, ()), 2, ())) fun r_3 => ocall (G129 k ((v0, v1, ()), 37, ())) fun r_4 => ocall (G129 k ((v0, v1, ()), 39,
 ())) fun r_5 => ocall (G129 k ((v0, v1, ()), 90, ())) fun r_6 => ocall (G130 k ((v0, v1, ()), (r.1, r_3.1, r_2.1, IntKind.u32.wrap r_1.1, r_4.1, r_5.1, ()), ())) fun r_7 => sel (!r_7.1) (sel (!r_7.1) (some ((0, [], 0, 0, [], [], ()), 3,
 ())) (sel (decide (5 ≤ r.1)) (ocall (G105 k (r.1, ())) fun r_8 => sel r_8.1 (ocall (G83 k ((r.1, r_3.1, r_2.1, IntKind.u32.wrap r_1.1, r_4.1, r_5.1, ()), ())) fun r_9 => sel (decide (4 < Int.ofNat r_9.1.length)) (sel (decide (Int.toNat 4 < r_9.1.length)) (sel (!decide
 (r_6.1 = (r_9.1.getD (Int.toNat 4) (0, [], ())).2.1)) (some ((0, [], 0, 0, [], [], ()), 11, ())) (ocall (G40 k (37, r_4.1, ())) fun r_10 => sel (!r_10.1) (some ((0, [], 0, 0, [], [], ()), 3, ())) (some ((r.1, r_3.1, r_2.1, IntKind.u32.wrap r_1.1,
 r_4.1, r_5.1, ()), 0, ())))) none) none) (ocall (G40 k (37, r_4.1, ())) fun r_9 => sel (!r_9.1) (some ((0, [], 0, 0, [], [], ()), 3, ())) (some ((r.1, r_3.1, r_2.1, IntKind.u32.wrap r_1.1, r_4.1, r_5.1, ()), 0, ())))) (ocall (G40 k (37, r_4.1,
 ())) fun r_8 => sel (!r_8.1) (some ((0, [], 0, 0, [], [], ()), 3, ())) (some ((r.1, r_3.1, r_2.1, IntKind.u32.wrap r_1.1, r_4.1, r_5.1, ()), 0, ()))))) (ocall (G105 k (r.1, ())) fun r_8 => sel r_8.1 (ocall (G39 k (r_3.1, ())) fun r_9 => sel
 (!r_9.1) (some ((0, [], 0, 0, [], [], ()), 3, ())) (sel (decide (5 ≤ r.1)) (ocall (G105 k (r.1, ())) fun r_10 => sel r_10.1 (ocall (G83 k ((r.1, r_3.1, r_2.1, IntKind.u32.wrap r_1.1, r_4.1, r_5.1, ()), ())) fun r_11 => sel (decide (4 < Int.ofNat
 r_11.1.length)) (sel (decide (Int.toNat 4 < r_11.1.length)) (sel (!decide (r_6.1 = (r_11.1.getD (Int.toNat 4) (0, [], ())).2.1)) (some ((0, [], 0, 0, [], [], ()), 11, ())) (ocall (G40 k (37, r_4.1, ())) fun r_12 => sel (!r_12.1) (some ((0, [], 0, 0, [], [],
 ()), 3, ())) (some ((r.1, r_3.1, r_2.1, IntKind.u32.wrap r_1.1, r_4.1, r_5.1, ()), 0, ())))) none) none) (ocall (G40 k (37, r_4.1, ())) fun r_11 => sel (!r_11.1) (some ((0, [], 0, 0, [], [], ()), 3, ())) (some ((r.1, r_3.1, r_2.1,
 IntKind.u32.wrap r_1.1, r_4.1, r_5.1, ()), 0, ())))) (ocall (G40 k (37, r_4.1, ())) fun r_10 => sel (!r_10.1) (some ((0, [], 0, 0, [], [], ()), 3, ())) (some ((r.1, r_3.1, r_2.1, IntKind.u32.wrap r_1.1, r_4.1, r_5.1, ()), 0, ()))))) (sel
 (decide (5 ≤ r.1)) (ocall (G105 k (r.1, ())) fun r_9 => sel r_9.1 (ocall (G83 k ((r.1, r_3.1, r_2.1, IntKind.u32.wrap r_1.1, r_4.1, r_5.1, ()), ())) fun r_10 => sel (decide (4 < Int.ofNat r_10.1.length)) (sel (decide (Int.toNat 4 < r_10.1.length)) (sel (!decide (r_6.1 =
 (r_10.1.getD (Int.toNat 4) (0, [], ())).2.1)) (some ((0, [], 0, 0, [], [], ()), 11, ())) (ocall (G40 k (37, r_4.1, ())) fun r_11 => sel (!r_11.1) (some ((0, [], 0, 0, [], [], ()), 3, ())) (some ((r.1, r_3.1, r_2.1, IntKind.u32.wrap r_1.1, r_4.1, r_5.1,
 ()), 0, ())))) none) none) (ocall (G40 k (37, r_4.1, ())) fun r_10 => sel (!r_10.1) (some ((0, [], 0, 0, [], [], ()), 3, ())) (some ((r.1, r_3.1, r_2.1, IntKind.u32.wrap r_1.1, r_4.1, r_5.1, ()), 0, ())))) (ocall (G40 k (37, r_4.1, ()))
 fun r_9 => sel (!r_9.1) (some ((0, [], 0, 0, [], [], ()), 3, ())) (some ((r.1, r_3.1, r_2.1, IntKind.u32.wrap r_1.1, r_4.1, r_5.1, ()), 0, ())))))) := by kernel_rfl
noncomputable def G80 (k : Nat) (v : List Int × Unit) : Option ((Int × List UInt8 × Int × Int × List UInt8 × List UInt8 × Unit) × Int × Unit) := F80 k v
end Go.Proofs.YtcgnmecbdleehaaDoor.G
end
