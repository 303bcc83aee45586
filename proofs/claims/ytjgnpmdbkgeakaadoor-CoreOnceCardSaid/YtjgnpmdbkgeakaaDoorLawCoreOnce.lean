/- The statement CoreOnce, out of what its function answers. No condition. -/
import Derived.Test.YtjgnpmdbkgeakaaDoorRows
import Derived.Test.YtjgnpmdbkgeakaaDoorThT
import Derived.Test.YtjgnpmdbkgeakaaDoorPureCoreOnce
import Derived.WalkKit
import Derived.ProofKit
import Derived.OpenShut
import Derived.ShutString
import Derived.ChangeOld
import Derived.Below
import Derived.SizedLaws
import Derived.Carry
import Derived.Test.YtjgnpmdbkgeakaaDoorDoor
import Derived.Test.YtjgnpmdbkgeakaaDoorCards
import Derived.Test.YtjgnpmdbkgeakaaDoorTie
import Derived.SevenTiedAt
set_option linter.unusedVariables false
set_option linter.unusedSimpArgs false
namespace Go.Proofs.YtjgnpmdbkgeakaaDoor.coreOnce
open Go.ChangeShapes Go.WideShapes Go.ChangeAt Go.RowKit Go.Proofs.YtjgnpmdbkgeakaaDoor Th G
open Go.ChangeMaps (open_string shut_string)
theorem own : ownKnob Tryd.prog.godebug = none := by kernel_rfl
theorem laidOut : laidOutB Tryd.prog = true := by kernel_rfl
set_option maxRecDepth 100000 in
theorem lifted (os : Os) (started : os.Started) (H : Type) (enc : TypeId × Value → H) :
    ReturnsInHanded {} Tryd.checked os 10 .any (fun w args => (Rows.coreOnceSpec.pre enc Tryd.prog Tryd.f10 [] false w args ∧ laidMetH Tryd.prog laidL w) ∧ sizedMet enc Tryd.prog Tryd.f10 (OpenSpec.ofChange Rows.coreOnceSpec) false w args) (Rows.coreOnceSpec.post enc Tryd.prog Tryd.f10 false true false false) := by
  refine returnsInHanded_of_change_and (C := Tryd.checked) (X := fun w _ => laidMetH Tryd.prog laidL w) (fun _ _ _ hh h => h.of_heap hh) own started (by kernel_rfl) Tryd.func10
    (ChangeSpec.witness_shaped (enc := enc) (C := Tryd.checked) (os := os) (X := fun w _ => laidMetH Tryd.prog laidL w) false (World.doorLaid Tryd.prog 400 os) #[.agg #[.int .u32 0, .string ByteArray.empty], .slice none 0 0, .int .i64 0] 8 rfl (World.shaped_of_RefB (by kernel_rfl) (by kernel_rfl)) (by kernel_rfl) (by kernel_rfl) (by kernel_rfl) (door_met os _)) ?_
  intro W base args ds gs before hval0 hW hcnd hsz0 hL _
  have hsz : (DataW.weightsEach Tryd.prog (Tryd.f10.params.toList ++ Rows.coreOnceSpec.plain.varTypes Tryd.prog) (ds ++ gs)).all (· ≤ reachBytes) = true := hsz0
  have hval : ∀ (j : Nat) t v, Tryd.f10.params[j]? = some t → args[j]? = some v → Value.okWide Tryd.prog W .any base t v := hval0
  have hW' := hW
  obtain ⟨p, q, hA0, hV, rfl, hfz, hnd⟩ := hW
  have hA : DataW.TrodAll enc Tryd.prog W 0 (fun _ => true) true Tryd.f10.params.toList args.toList ds p := hA0
  rw [Tryd.params10] at hA hval hsz
  obtain ⟨v0, vs0, d0, ds0, p0, q0, hargs, rfl, rfl, h0, r0⟩ := trodAll_cons hA
  obtain ⟨v1, vs1, d1, ds1, p1, q1, rfl, rfl, rfl, h1, r1⟩ := trodAll_cons r0
  obtain ⟨v2, vs2, d2, ds2, p2, q2, rfl, rfl, rfl, h2, r2⟩ := trodAll_cons r1
  obtain ⟨rfl, rfl, rfl⟩ := trodAll_nil r2
  obtain rfl : args = #[v0, v1, v2] := by cases args; simp_all
  obtain ⟨rfl, rfl⟩ := trodVars_none hV
  obtain ⟨x0, a0, g0⟩ := open_arg (T := (.st (.cons (.int .u32) (.cons .str .nil)))) (by kernel_rfl) (hval 0 27 v0 rfl rfl) h0 (weights_of hsz (j := 0) (t := 27) rfl rfl)
  have k0 := h0
  have lt0 : ∀ x ∈ p0, x.block < W.heap.size := by obtain ⟨m, hm⟩ := k0; exact DataW.trod_lt m _ _ _ hm
  obtain ⟨x1, a1, g1⟩ := open_arg (T := (.slice (.st (.cons (.int .i64) (.cons (.st (.cons (.int .i64) (.cons .str (.cons (.int .u64) (.cons (.int .u32) (.cons .str (.cons .str .nil))))))) .nil))))) (by kernel_rfl) (hval 1 69 v1 rfl rfl) h1 (weights_of hsz (j := 1) (t := 69) rfl rfl)
  have k1 := h1
  have lt1 : ∀ x ∈ p1, x.block < W.heap.size := by obtain ⟨m, hm⟩ := k1; exact DataW.trod_lt m _ _ _ hm
  obtain ⟨x2, a2, g2⟩ := open_arg (T := (.int .i64)) (by kernel_rfl) (hval 2 3 v2 rfl rfl) h2 (weights_of hsz (j := 2) (t := 3) rfl rfl)
  have k2 := h2
  have lt2 : ∀ x ∈ p2, x.block < W.heap.size := by obtain ⟨m, hm⟩ := k2; exact DataW.trod_lt m _ _ _ hm
  obtain ⟨k, hk⟩ := PureCoreOnce.pure x0 x1 x2 g0 g1 g2
  clear hA0 hval0 hsz0 hsz
  refine (law_of (fn10 k [Ty.av (.st (.cons (.int .u32) (.cons .str .nil))) x0, Ty.av (.slice (.st (.cons (.int .i64) (.cons (.st (.cons (.int .i64) (.cons .str (.cons (.int .u64) (.cons (.int .u32) (.cons .str (.cons .str .nil))))))) .nil)))) x1, Ty.av (.int .i64) x2] (x0, (x1, (x2, PUnit.unit))) (true, PUnit.unit) rfl rfl hk) (glob_of_laid hL) (us := [v0, v1, v2]) ⟨a0, a1, a2, trivial⟩).mono fun e W' ⟨he, bel⟩ => ?_
  subst he
  exact ⟨_, rfl, _, _, _, [], _, [], hW', trodAll_mk1 (shut_bool Tryd.underlying4 _), (trodAll_cons_mk (Below.trod laidOut (by kernel_rfl) (of_decide_eq_true (by kernel_rfl)) k0 bel lt0) (trodAll_cons_mk (Below.trod laidOut (by kernel_rfl) (of_decide_eq_true (by kernel_rfl)) k1 bel lt1) (trodAll_cons_mk (Below.trod laidOut (by kernel_rfl) (of_decide_eq_true (by kernel_rfl)) k2 bel lt2) trodAll_mk0))), rfl, bel.frame _, fun h => by cases h⟩
theorem inP : Tryd.prog.inPlace 10 = [] := by kernel_rfl
theorem unf : Tryd.prog.unfollowed 10 = true := by kernel_rfl
theorem rec' : Tryd.prog.recurses 10 = true := by kernel_rfl
theorem nam : Tryd.prog.varsNamed 10 = ["paydesk/deal.types"] := by kernel_rfl
theorem lk : false = Tryd.prog.looks [] := by kernel_rfl
theorem gb : false = Rows.coreOnceRow.goesBy Tryd.prog := by kernel_rfl
theorem facts : joinedFacts Tryd.prog 10 Tryd.f10 Rows.coreOnceSpec Rows.coreOnceRow = true := by
  unfold joinedFacts
  rw [laidOut, mapsRowed', stopsHeard', mayEnter', plainKeys', liftsFinal', make', stops', stopKnobs', inP, unf, rec', nam]
  kernel_rfl
theorem over : Rows.coreOnceRow.holds Tryd.pinned (OpenSpec.ofChange Rows.coreOnceSpec) :=
  OpenClaim.holds_of_wide 10 Tryd.f10 rfl rfl rfl rfl rfl rfl rfl ⟨rfl, rfl, rfl, rfl, rfl⟩ rfl rfl rfl rfl rfl (by kernel_rfl) Tryd.func10 facts
    (of_decide_eq_true (by kernel_rfl)) (by unfold Func.isWrapper; first | (rw [if_pos (by decide +kernel)]; kernel_rfl) | (rw [if_neg (by decide +kernel)]; exact ⟨rfl, rfl⟩))
    (fun os started H enc _ => lifted os started H enc)
end Go.Proofs.YtjgnpmdbkgeakaaDoor.coreOnce
namespace Go.Proofs.YtjgnpmdbkgeakaaDoor
theorem coreOnce_card_holds : Rows.CoreOnceCardSaid :=
  Claim7.holds_tied_plain_at .later [] [.data] true (true, "4b760acf1adc6d3612329ab3c20ec014558e267c494e654019cab19211bf1961") false
    coreOnce.over (fun _ h => by cases h) (by kernel_rfl) (fun _ h => by cases h) coreOnce_row_tie rfl ⟨rfl, rfl⟩ mainIs' rfl
    (fun f fn hf hfn => by
      obtain rfl : f = 10 := Option.some.inj ((show Tryd.prog.funcNamed "paydesk/paydesklaw12.CoreOnce" = some 10 by kernel_rfl).symm.trans hf) |>.symm
      obtain rfl : fn = Tryd.f10 := (Option.some.inj (Tryd.func10.symm.trans hfn)).symm
      exact ⟨coreOnce.lk, fun j t ht => by
        rw [Tryd.params10] at ht
        have hm : t ∈ [27, 69, 3] := by simpa using Array.mem_of_getElem? ht
        have hall : ([27, 69, 3].all fun u => !Tryd.prog.wantsStandIn u) = true := by kernel_rfl
        exact (show Tryd.prog.wantsStandIn t = false by simpa using List.all_eq_true.1 hall t hm)⟩)
    coreOnce.gb
#print axioms coreOnce_card_holds
end Go.Proofs.YtjgnpmdbkgeakaaDoor
