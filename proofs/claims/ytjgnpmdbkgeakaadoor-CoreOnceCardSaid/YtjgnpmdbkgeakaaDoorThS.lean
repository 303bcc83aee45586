/- THEORY, part S: functions. No condition. -/
import Derived.Test.YtjgnpmdbkgeakaaDoorThR
set_option linter.unusedVariables false
set_option linter.unusedSimpArgs false
namespace Go.Proofs.YtjgnpmdbkgeakaaDoor.Th
open Go Go.RowKit

section
variable {P : Program} {TI : TEnv} {O : Orc} {L : LOrc}

theorem PV.VR {w : World} {g : Gh} {v : AV} {u : Value} (h : PV w g.pr v u) : VR w g v u := VR_of_LR h.LR

/-- where a call starts -/
theorem start_rel {w : World} {pr : Nat → Nat → Prop} {args : List AV} {us : List Value} {n : Nat} (hp : ∀ k o, pr k o → k < w.heap.size) (hgl : GlobOK w pr) (ha : All2 (VR w ⟨pr, fun _ => none, fun _ => none⟩) args us) (hn : args.length ≤ n) :
    Rel (bd0 w.heap.size pr) ⟨pr, fun _ => none, fun _ => none⟩ (start args) w { tmps := us.toArray ++ Array.replicate (n - us.toArray.size) undef, defers := [] } n := by
  have hlen := ha.len
  refine ⟨rfl, by simp; omega, Nat.le_refl _, ?_, hp, fun _ _ => rfl, (fun b cs h => by simp [start] at h), (fun b b' k h => by cases h), fun _ _ => rfl, (fun t sh T l h => by simp [start] at h),
    (fun t t' tg tg' k h => by simp [start, Tok.isLive] at h), (fun t tg k b h => by simp [start, Tok.isLive] at h), fun _ _ _ => Iff.rfl, ⟨(fun b k e => by cases e), hgl⟩⟩
  intro t
  show VR w _ (args.getD t .undef) _
  rcases Nat.lt_or_ge t args.length with hlt | hge
  · obtain ⟨u, hu, hr⟩ := ha.get t args[t] (by simp [hlt])
    have e1 : args.getD t .undef = args[t] := by simp [hlt]
    have e2 : (us.toArray ++ Array.replicate (n - us.toArray.size) undef).getD t undef = u := by
      have hlt2 : t < us.length := by omega
      rw [Array.getD_eq_getD_getElem?, Array.getElem?_append_left (by simpa using hlt2)]
      simp [hu]
    rw [e1, e2]
    exact hr
  · have e1 : args.getD t .undef = .undef := by simp [List.getD, List.getElem?_eq_none hge]
    rw [e1]
    exact VR_of_LR (show LR w _ .undef _ from trivial)

/-- a function is what its run tells -/
theorem call_coreK (hm : P.follows .mixedOrders = true) (hT : TIok P TI) (hO : OrcOK O (CallOK P)) {f : FuncId} {fn : Func} {c : Code} (hf : P.funcs[f]? = some fn) (hb : fn.body = some c)
    (hc : codeOK fn.ntmps c = true) (hl : LinksOK P fn.ntmps L c) {R : Type} {K : X → S → Option R} {r0 : R} {s0 : S} (hr : run TI O L c s0 K = some r0) {v : AV}
    (hK : ∀ x s, K x s = some r0 → (x = .ret ∨ x = .norm) ∧ ∃ (mo : Msk) (r : mo.den), outOK TI fn.results.toList mo.items = true ∧ mo.dec s = some r ∧ v = ansOf (outL mo.items r)) {w : World} {pr : Nat → Nat → Prop} {us : List Value} (hJ0 : J (bd0 w.heap.size pr) w fn.ntmps s0 { tmps := us.toArray ++ Array.replicate (fn.ntmps - us.toArray.size) undef, defers := [] } w) :
    Calls P f us.toArray w fun e w' => ∃ r' pr', e = .returned r' ∧ Below w.heap.size w w' ∧ (∀ k o, k < w.heap.size → (pr' k o ↔ pr k o)) ∧ (∀ k o, pr' k o → k < w'.heap.size) ∧ ResR (bd0 w.heap.size pr) w' pr' v r' := by
  obtain ⟨x1, s1, h1, w1⟩ := run_wp hm hT hO (fun _ _ _ h => h) c hc hl _ _ _ _ hr
  refine calls_of_wp hf hb (wp_mono (w1 _ _ _ _ hJ0) ?_)
  rintro e a w' ⟨rfl, g0, hrel0, hbel⟩
  obtain ⟨hx1, mo, r, ho, hd0, rfl⟩ := hK x1 s1 h1
  have hd : mo.dec s1 = some r ∧ (x1 = .ret ∨ x1 = .norm) := ⟨hd0, hx1⟩
  have hend : a.defers = [] ∧ ∃ v, (results fn a.tmps).run P w' = .ok v w' ∧ (∃ r' pr', Ending.returned v = .returned r' ∧ Below w.heap.size w w' ∧ (∀ k o, k < w.heap.size → (pr' k o ↔ pr k o)) ∧ (∀ k o, pr' k o → k < w'.heap.size) ∧ ResR (bd0 w.heap.size pr) w' pr' (ansOf (outL mo.items r)) r') := by
    refine ⟨hrel0.df, ?_⟩
    have hd := hd.1
    unfold Msk.dec at hd
    cases hbx : boxesOK s1 mo.boxes with
    | false => rw [hbx] at hd; cases hd
    | true =>
      rw [hbx] at hd
      simp only [] at hd
      cases hdl : decL (snapL mo.items s1) (mo.boxes.map (·.1)) mo.items [] with
      | none => rw [hdl] at hd; cases hd
      | some y =>
        obtain ⟨v', used'⟩ := y
        rw [hdl] at hd
        have hvv : r = v' := by simpa using hd.symm
        subst hvv
        clear hd hbx
        obtain ⟨g, hrel⟩ := snapL_rel mo.items hrel0
        obtain ⟨bs, U⟩ := decL_out hrel _ mo.items fn.results.toList ho hdl
        obtain ⟨len1, hpos⟩ := outOK_get ho
        have hmapM : ∀ f : ResultVar → Sem Value, (∀ t, f (.tmp t) = pure (a.tmps.getD t undef)) → (∀ b t, f (.cell b t) = (do loadVar t (← asAddr (a.tmps.getD b undef)))) →
            ∃ vals : List Value, (fn.results.mapM f).run P w' = .ok vals.toArray w' ∧ vals.length = mo.items.length ∧ ∀ (i : Nat) (u : Value) (q : Pos × MC), vals[i]? = some u → mo.items[i]? = some q → VR w' g (q.1.get (snapL mo.items s1)) u := by
          intro f hf hf2
          obtain ⟨vals, v1, v2, v3⟩ := run_resultsL (P := P) (w := w') (f := f) (V := fun q u => VR w' g (q.1.get (snapL mo.items s1)) u) len1 (fun i r q e1 e2 =>
            run_res hT hrel (hpos i r q e1 e2) (fun T e => decL_item hdl i q.1 T (by rw [e2, ← e])) hf hf2)
          refine ⟨vals, ?_, v2, v3⟩
          rw [Array.mapM_eq_mapM_toList]
          show ((List.mapM f fn.results.toList) >>= fun x => pure x.toArray).run P w' = _
          rw [Sem.run_bind, v1]
          rfl
        obtain ⟨vals, hmapM, hvals, hval⟩ := hmapM (fun
          | .tmp t => pure (a.tmps.getD t undef)
          | .cell b t => do loadVar t (← asAddr (a.tmps.getD b undef))) (fun _ => rfl) (fun _ _ => rfl)
        have hown : ∀ (i : Nat) (x : AV) (u : Value) (b : Option Nat), (outL mo.items r)[i]? = some x → vals[i]? = some u → bs[i]? = some b → OwnC (bd0 w.heap.size pr) w' g.pr x u b := by
          intro i x u b e1 e2 e3
          have hi : i < mo.items.length := by rw [← U.len]; exact (List.getElem?_eq_some_iff.1 e1).1
          exact U.own i x mo.items[i] b e1 (by simp [hi]) e3 u (hval i u _ e2 (by simp [hi]))
        refine ⟨if h : vals.toArray.size = 1 then vals.toArray[0] else .tuple vals.toArray, ?_, ?_⟩
        · unfold results
          rw [Sem.run_bind]
          exact congrArg (fun r => Result.andThen r (fun (vs : Array Value) w' => (pure (if h : vs.size = 1 then vs[0] else .tuple vs) : Sem Value).run P w')) hmapM
        · refine ⟨_, g.pr, rfl, hbel.to, fun k o hk => hrel.prB k o (fun e => by have := bd0_mine.1 e; omega), hrel.prlt, ?_⟩
          by_cases h1 : vals.length = 1
          · have hl1 : (outL mo.items r).length = 1 := by rw [U.len, ← hvals, h1]
            have hb1 : bs.length = 1 := by rw [U.blen, ← hvals, h1]
            obtain ⟨u, rfl⟩ := List.length_eq_one_iff.1 h1
            cases hol : outL mo.items r with
            | nil => rw [hol] at hl1; simp at hl1
            | cons x xs =>
              cases xs with
              | cons _ _ => rw [hol] at hl1; simp at hl1
              | nil =>
                cases hbs : bs with
                | nil => rw [hbs] at hb1; simp at hb1
                | cons b bs' =>
                  have ho1 := hown 0 x u b (by rw [hol]; rfl) rfl (by rw [hbs]; rfl)
                  show ResR (bd0 w.heap.size pr) w' g.pr x u
                  cases x with
                  | tup l => exact absurd ho1.1 (by rintro (h | ⟨_, _, e, _⟩) <;> first | exact h.elim | cases e)
                  | _ => exact ⟨b, ho1⟩
          · rw [dif_neg (by simpa using h1)]
            have hne : (outL mo.items r).length ≠ 1 := by rw [U.len, ← hvals]; exact h1
            have : ansOf (outL mo.items r) = .tup (outL mo.items r) := by
              unfold ansOf
              split
              · rename_i e; rw [e] at hne; simp at hne
              · rfl
            rw [this]
            exact ⟨vals, bs, rfl, by rw [U.len, hvals], by rw [U.blen, hvals], hown, U.inj⟩
  rcases hd.2 with rfl | rfl
  · exact hend
  · exact hend

theorem call_core (hm : P.follows .mixedOrders = true) (hT : TIok P TI) (hO : OrcOK O (CallOK P)) {f : FuncId} {fn : Func} {c : Code} (hf : P.funcs[f]? = some fn) (hb : fn.body = some c)
    (hc : codeOK fn.ntmps c = true) (hl : LinksOK P fn.ntmps L c) {mo : Msk} (ho : outOK TI fn.results.toList mo.items = true)
    {s0 : S} {r : mo.den} (hr : run TI O L c s0 (endF mo) = some r) {w : World} {pr : Nat → Nat → Prop} {us : List Value} (hJ0 : J (bd0 w.heap.size pr) w fn.ntmps s0 { tmps := us.toArray ++ Array.replicate (fn.ntmps - us.toArray.size) undef, defers := [] } w) :
    Calls P f us.toArray w fun e w' => ∃ r' pr', e = .returned r' ∧ Below w.heap.size w w' ∧ (∀ k o, k < w.heap.size → (pr' k o ↔ pr k o)) ∧ (∀ k o, pr' k o → k < w'.heap.size) ∧ ResR (bd0 w.heap.size pr) w' pr' (ansOf (outL mo.items r)) r' := by
  refine call_coreK hm hT hO hf hb hc hl hr (fun x s h => ?_) hJ0
  cases x with
  | ret => exact ⟨.inl rfl, mo, r, ho, h, rfl⟩
  | norm => exact ⟨.inr rfl, mo, r, ho, h, rfl⟩
  | exit i => cases h
  | goto l => cases h

theorem inA_get {l : List Msk} {s : S} {r : denA l} (h : inA l s = some r) : ∃ (mo : Msk) (y : mo.den), mo ∈ l ∧ mo.dec s = some y ∧ valA l r = ansOf (outL mo.items y) := by
  induction l with
  | nil => cases h
  | cons m l ih =>
    cases l with
    | nil => exact ⟨m, r, .head _, h, rfl⟩
    | cons m' l =>
      unfold inA at h
      cases hd : m.dec s with
      | some v => rw [hd] at h; cases h; exact ⟨m, v, .head _, hd, rfl⟩
      | none =>
        rw [hd] at h
        simp only [] at h
        cases hi : inA (m' :: l) s with
        | none => rw [hi] at h; cases h
        | some e =>
          rw [hi] at h; cases h
          obtain ⟨mo, y, a, b, c⟩ := ih hi
          exact ⟨mo, y, .tail _ a, b, c⟩

theorem outA_val {R : Type} {l : List Msk} {r : denA l} {K : AV → Option R} {z : R} (h : outA l r K = some z) : K (valA l r) = some z := by
  induction l with
  | nil => cases h
  | cons m l ih =>
    cases l with
    | nil => exact h
    | cons m' l =>
      cases r with
      | inl v => exact h
      | inr e => exact ih h

theorem cells_noback {T : Ty} : ∀ {x : T.den} {v : AV}, v ∈ T.cells x → v.isBack = false := by
  induction T with
  | st f ih => intro x v h; exact ih h
  | cons a b iha ihb => intro x v h; rcases List.mem_append.1 h with h | h <;> first | exact iha h | exact ihb h
  | nil => intro x v h; cases h
  | _ => intro x v h; (have := List.mem_singleton.1 h); subst this; rfl

theorem av_noback {T : Ty} (x : T.den) : (T.av x).isBack = false := by
  unfold Ty.av
  split
  · rfl
  · cases h : T.cells x with
    | nil => rfl
    | cons v l => exact cells_noback (T := T) (x := x) (by rw [h]; exact .head _)

theorem outL_noback : ∀ {l : List (Pos × MC)} {r : denL l} {v : AV}, v ∈ outL l r → v.isBack = false
  | [], _, v, h => by cases h
  | (_, .val T) :: l, r, v, h => by
    rcases List.mem_cons.1 h with rfl | h
    · exact av_noback r.1
    · exact outL_noback h
  | (_, .row _ T) :: l, r, v, h => by
    rcases List.mem_cons.1 h with rfl | h
    · rfl
    · exact outL_noback h
  | (_, .ptr _ _) :: l, r, v, h => by
    rcases List.mem_cons.1 h with rfl | h
    · rfl
    · exact outL_noback h

theorem noback_out {l : List (Pos × MC)} (r : denL l) : (ansOf (outL l r)).isBack = false := by
  unfold ansOf
  split
  · rename_i v h; exact outL_noback (r := r) (by rw [h]; exact .head _)
  · rfl

theorem noback_val : ∀ {ms : List Msk} (r : denA ms), (valA ms r).isBack = false
  | [], _ => rfl
  | [m], r => noback_out (l := m.items) r
  | m :: m' :: l, r => by
    cases r with
    | inl v => exact noback_out (l := m.items) v
    | inr e => exact noback_val (ms := m' :: l) e

theorem call_of (hm : P.follows .mixedOrders = true) (hT : TIok P TI) (hO : OrcOK O (CallOK P)) {f : FuncId} {fn : Func} {c : Code} (hf : P.funcs[f]? = some fn) (hb : fn.body = some c) (hname : (fn.name == "runtime.NumGoroutine") = false)
    (hc : codeOK fn.ntmps c = true) (hl : LinksOK P fn.ntmps L c) {mi mo : Msk} (hi : mi.ok = true) (hn : mi.items.length ≤ fn.ntmps) (ho : outOK TI fn.results.toList mo.items = true)
    {args : List AV} {x : mi.den} {r : mo.den} (hlen : args.length = mi.items.length) (hx : mi.dec (start args) = some x) (hr : runF TI O L c mi mo x = some r) : CallOK P f args (ansOf (outL mo.items r)) := by
  refine .inl ⟨noback_out _, ⟨fn, hf, hname, by rw [hb]; rfl⟩, fun w pr us hp hgl ha => ?_⟩
  have h0 := start_rel (n := fn.ntmps) hp hgl (ha.imp fun _ _ h => PV.VR (g := ⟨pr, fun _ => none, fun _ => none⟩) h) (by omega)
  exact call_core hm hT hO hf hb hc hl ho hr (Msk.dec_J hi hx ⟨_, h0, BelowB.refl _ _⟩)

theorem call_ofA (hm : P.follows .mixedOrders = true) (hT : TIok P TI) (hO : OrcOK O (CallOK P)) {f : FuncId} {fn : Func} {c : Code} (hf : P.funcs[f]? = some fn) (hb : fn.body = some c) (hname : (fn.name == "runtime.NumGoroutine") = false)
    (hc : codeOK fn.ntmps c = true) (hl : LinksOK P fn.ntmps L c) {mi : Msk} {ms : List Msk} (hi : mi.ok = true) (hn : mi.items.length ≤ fn.ntmps) (ho : ms.all (fun mo => outOK TI fn.results.toList mo.items) = true)
    {args : List AV} {x : mi.den} {r : denA ms} (hlen : args.length = mi.items.length) (hx : mi.dec (start args) = some x) (hr : runA TI O L c mi ms x = some r) : CallOK P f args (valA ms r) := by
  refine .inl ⟨noback_val _, ⟨fn, hf, hname, by rw [hb]; rfl⟩, fun w pr us hp hgl ha => ?_⟩
  have h0 := start_rel (n := fn.ntmps) hp hgl (ha.imp fun _ _ h => PV.VR (g := ⟨pr, fun _ => none, fun _ => none⟩) h) (by omega)
  refine call_coreK hm hT hO hf hb hc hl hr (fun x s h => ?_) (Msk.dec_J hi hx ⟨_, h0, BelowB.refl _ _⟩)
  have key : ∀ h : inA ms s = some r, ∃ (mo : Msk) (y : mo.den), outOK TI fn.results.toList mo.items = true ∧ mo.dec s = some y ∧ valA ms r = ansOf (outL mo.items y) := fun h => by
    obtain ⟨mo, y, a, b, c⟩ := inA_get h
    exact ⟨mo, y, List.all_eq_true.1 ho mo a, b, c⟩
  cases x with
  | ret => exact ⟨.inl rfl, key h⟩
  | norm => exact ⟨.inr rfl, key h⟩
  | exit i => cases h
  | goto l => cases h

/-- a function that asks whether its slice is nil: both ways -/
theorem call_nil (hm : P.follows .mixedOrders = true) (hT : TIok P TI) (hO : OrcOK O (CallOK P)) {f : FuncId} {fn : Func} {c : Code} (hf : P.funcs[f]? = some fn) (hb : fn.body = some c) (hname : (fn.name == "runtime.NumGoroutine") = false)
    (hc : codeOK fn.ntmps c = true) (hl : LinksOK P fn.ntmps L c) {mo : Msk} (hn : 1 ≤ fn.ntmps) (ho : outOK TI fn.results.toList mo.items = true)
    {T : Ty} {l : List T.den} {r : mo.den} (h0 : l = [] → run TI O L c (start [.nilsl]) (endF mo) = some r) (h1 : run TI O L c (start [.nsl T l]) (endF mo) = some r) : CallOK P f [.sl T l] (ansOf (outL mo.items r)) := by
  refine .inl ⟨noback_out _, ⟨fn, hf, hname, by rw [hb]; rfl⟩, fun w pr us hp hgl ha => ?_⟩
  obtain ⟨u, rfl, hu⟩ := one_of ha
  have hu : TR w pr (.slice T) l [u] := by
    rcases hu with h | ⟨_, _, e, _⟩
    · exact h
    · cases e
  obtain ⟨ad, c', e, hcap, _⟩ := (show SlR _ _ _ _ _ _ from hu)
  have e : u = .slice ad l.length c' := by simpa using e
  cases ad with
  | none =>
    have hl0 : l = [] := by
      cases l with
      | nil => rfl
      | cons x l => obtain ⟨ad, c2, e2, _, hr⟩ := (show SlR _ _ _ _ _ _ from hu); obtain ⟨a, vs, ea, _⟩ := hr 0 x rfl; rw [e] at e2; rw [ea] at e2; simp at e2
    have hc0 := hcap.2 rfl
    have hu0 : u = .slice none 0 0 := by rw [e, hc0, hl0]; rfl
    have hs := start_rel (n := fn.ntmps) (args := [.nilsl]) (us := [u]) hp hgl ⟨VR_of_LR (show LR w _ .nilsl u from hu0), trivial⟩ (by simpa using hn)
    exact call_core hm hT hO hf hb hc hl ho (h0 hl0) ⟨_, hs, BelowB.refl _ _⟩
  | some ad =>
    have hs := start_rel (n := fn.ntmps) (args := [.nsl T l]) (us := [u]) hp hgl ⟨VR_of_LR (show LR w _ (.nsl T l) u from ⟨hu, ad, _, _, e⟩), trivial⟩ (by simpa using hn)
    exact call_core hm hT hO hf hb hc hl ho h1 ⟨_, hs, BelowB.refl _ _⟩

/-! ### the oracle, built up -/
theorem orc_none {C : FuncId → List AV → AV → Prop} : OrcOK (fun _ _ _ _ => none) C := by
  intro R f args K r h; cases h

/-- a function for some arguments only -/
theorem orc_addP {k : Nat} {p : List AV → Bool} {mi mo : Msk} {F : mi.den → Option mo.den} (hF : ∀ (args : List AV) (x : mi.den) (r : mo.den), args.length = mi.items.length → mi.dec (start args) = some x → F x = some r → CallOK P k args (ansOf (outL mo.items r))) (hO : OrcOK O (CallOK P)) :
    OrcOK (fun R f args K => bif (bif Nat.beq f k then p args else false) then callF mi mo F args K else O R f args K) (CallOK P) := by
  intro R f args K r h
  cases hk : Nat.beq f k with
  | false => simp only [hk, cond_false] at h; exact hO R f args K r h
  | true =>
    simp only [hk, cond_true] at h
    cases hp : p args with
    | false => simp only [hp, cond_false] at h; exact hO R f args K r h
    | true =>
      simp only [hp, cond_true] at h
      have := Nat.eq_of_beq_eq_true hk
      subst this
      unfold callF at h
      cases hlen : Nat.beq args.length mi.items.length with
      | false => rw [hlen] at h; cases h
      | true =>
        rw [hlen] at h
        simp only [cond_true] at h
        obtain ⟨x, hx, h⟩ := obind_some h
        obtain ⟨y, hy, h⟩ := obind_some h
        exact ⟨_, hF args x y (Nat.eq_of_beq_eq_true hlen) hx hy, h⟩

theorem orc_addA {k : Nat} {mi : Msk} {ms : List Msk} {F : mi.den → Option (denA ms)} (hF : ∀ (args : List AV) (x : mi.den) (r : denA ms), args.length = mi.items.length → mi.dec (start args) = some x → F x = some r → CallOK P k args (valA ms r)) (hO : OrcOK O (CallOK P)) :
    OrcOK (fun R f args K => bif Nat.beq f k then callA mi ms F args K else O R f args K) (CallOK P) := by
  intro R f args K r h
  cases hk : Nat.beq f k with
  | false => simp only [hk, cond_false] at h; exact hO R f args K r h
  | true =>
    simp only [hk, cond_true] at h
    have := Nat.eq_of_beq_eq_true hk
    subst this
    unfold callA at h
    cases hlen : Nat.beq args.length mi.items.length with
    | false => rw [hlen] at h; cases h
    | true =>
      rw [hlen] at h
      simp only [cond_true] at h
      obtain ⟨x, hx, h⟩ := obind_some h
      obtain ⟨y, hy, h⟩ := obind_some h
      exact ⟨_, hF args x y (Nat.eq_of_beq_eq_true hlen) hx hy, outA_val h⟩

theorem orc_add {k : Nat} {mi mo : Msk} {F : mi.den → Option mo.den} (hF : ∀ (args : List AV) (x : mi.den) (r : mo.den), args.length = mi.items.length → mi.dec (start args) = some x → F x = some r → CallOK P k args (ansOf (outL mo.items r))) (hO : OrcOK O (CallOK P)) :
    OrcOK (fun R f args K => bif Nat.beq f k then callF mi mo F args K else O R f args K) (CallOK P) := by
  intro R f args K r h
  cases hk : Nat.beq f k with
  | false => simp only [hk, cond_false] at h; exact hO R f args K r h
  | true =>
    simp only [hk, cond_true] at h
    have := Nat.eq_of_beq_eq_true hk
    subst this
    unfold callF at h
    cases hlen : Nat.beq args.length mi.items.length with
    | false => rw [hlen] at h; cases h
    | true =>
      rw [hlen] at h
      simp only [cond_true] at h
      obtain ⟨x, hx, h⟩ := obind_some h
      obtain ⟨r', hr, h⟩ := obind_some h
      exact ⟨_, hF args x r' (Nat.eq_of_beq_eq_true hlen) hx hr, h⟩

theorem callOK_nilsl {k : Nat} {T : Ty} {v : AV} (h : CallOK P k [.sl T []] v) : CallOK P k [.nilsl] v := by
  rcases h with ⟨hb, h⟩ | ⟨vs, cs, _, _, e, _⟩ | ⟨a0, rest, r, bk, e, rfl, hfn, hc⟩
  case inr.inl =>
    have := congrArg List.reverse e
    simp at this
  case inr.inr =>
    cases e
    refine .inr (.inr ⟨_, _, _, _, rfl, rfl, hfn, fun w pr u0 us b0 hp hgl h0 ha => hc w pr u0 us b0 hp hgl ⟨.inl ?_, h0.2⟩ ha⟩)
    rcases h0.1 with h | ⟨_, _, e, _⟩
    · rw [show u0 = _ from h]; exact TR_nilsl _ _ _
    · cases e
  refine .inl ⟨hb, h.1, fun w pr us hp hgl ha => h.2 w pr us hp hgl ?_⟩
  obtain ⟨u, rfl, hu⟩ := one_of ha
  refine ⟨.inl ?_, trivial⟩
  rcases hu with h | ⟨_, _, e, _⟩
  · rw [show u = _ from h]; exact TR_nilsl _ _ _
  · cases e

theorem orc_addN {k : Nat} {T : Ty} {mo : Msk} {F : List T.den → Option mo.den} (hF : ∀ (l : List T.den) (r : mo.den), F l = some r → CallOK P k [.sl T l] (ansOf (outL mo.items r))) (hO : OrcOK O (CallOK P)) :
    OrcOK (fun R f args K => bif Nat.beq f k then callN T mo F args K else O R f args K) (CallOK P) := by
  intro R f args K r h
  cases hk : Nat.beq f k with
  | false => simp only [hk, cond_false] at h; exact hO R f args K r h
  | true =>
    simp only [hk, cond_true] at h
    have := Nat.eq_of_beq_eq_true hk
    subst this
    unfold callN at h
    split at h
    · rename_i T' l
      cases hd : T'.dec T with
      | none => rw [hd] at h; cases h
      | some hh =>
        obtain ⟨rfl⟩ := hh
        rw [hd] at h
        obtain ⟨r', hr, h⟩ := obind_some h
        exact ⟨_, hF l r' hr, h⟩
    · obtain ⟨r', hr, h⟩ := obind_some h
      exact ⟨_, callOK_nilsl (hF [] r' hr), h⟩
    · cases h

end
end Go.Proofs.YtjgnpmdbkgeakaaDoor.Th
