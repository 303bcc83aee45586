/- THEORY, part P: guards, regions, code. No condition. -/
import Derived.Test.YtjgnpmdbkgeakaaDoorThO
import Derived.Scope
set_option linter.unusedVariables false
set_option linter.unusedSimpArgs false
namespace Go.Proofs.YtjgnpmdbkgeakaaDoor.Th
open Go Go.RowKit

/-- the machine is at the abstract state s, and what was there at w0 still stands -/
def J (B : Bd) (w0 : World) (N : Nat) (s : S) (a : Act) (w : World) : Prop := ∃ g, Rel B g s w a N ∧ BelowB B w0 w

def dstsOK (N : Nat) (ops : List Oper) : Bool := ops.all fun o => match o.dst with
  | some t => Nat.blt t N
  | none => true

def codeOK (N : Nat) : Code → Bool
  | .region _ ops _ => dstsOK N ops.toList
  | .seq a b => codeOK N a && codeOK N b
  | .block _ b => codeOK N b
  | .loop b => codeOK N b
  | .scope b => codeOK N b
  | .cond _ a b => codeOK N a && codeOK N b
  | _ => true

section
variable {P : Program} {TI : TEnv} {C : FuncId → List AV → AV → Prop} {B : Bd} {N : Nat} {s s' : S} {w w0 : World} {a : Act} {o : Oper} {ws : List Wr} {ops : Array Oper} {Q : Exit → Act → World → Prop}

theorem dstsOK_get {l : List Oper} (h : dstsOK N l = true) {o : Oper} (ho : o ∈ l) : ∀ t, o.dst = some t → t < N := by
  intro t ht
  have := List.all_eq_true.1 h o ho
  rw [ht] at this
  exact Nat.blt_eq ▸ this

/-- one operation with its guard -/
theorem wpOp_of (hT : TIok P TI) (hC : ∀ f args v, C f args v → CallOK P f args v) (hd : dstsOK N ops.toList = true) {i : Nat} {K : Act → World → Prop} (ho : ops[i]? = some o) (hJ : J B w0 N s a w)
    (he : (pgG TI ops.toList o).Ev C (fun _ => True) s ws) (hK : ∀ a' w', J B w0 N (s.puts ws) a' w' → K a' w') : wpOp P ops Q i K a w := by
  obtain ⟨g, h, hb⟩ := hJ
  have hdo : ∀ t, o.dst = some t → t < N := dstsOK_get hd (by rw [Array.mem_toList_iff]; exact Array.mem_of_getElem? ho)
  have hgo : ∀ (he : (pg TI o).Ev C (fun _ => True) s ws), o.wp P a w K Q := fun he => goes_pg hT hC h hdo he K Q fun g' a' w' h' hb' => hK a' w' ⟨g', h', hb.trans hb'⟩
  unfold wpOp
  rw [ho]
  simp only []
  unfold pgG at he
  cases hg : o.guard with
  | none =>
    rw [hg] at he
    have : Region.wanted o (yielded ops a.tmps) = true := by simp [Region.wanted, hg]
    rw [if_pos this]
    exact .inl (hgo he)
  | some jw =>
    obtain ⟨j, want⟩ := jw
    rw [hg] at he
    simp only [] at he
    cases hj : (ops.toList[j]?).bind (·.dst) with
    | none => rw [hj] at he; exact he.elim
    | some t =>
      rw [hj] at he
      obtain ⟨_, he⟩ := he
      have hj2 : (ops[j]?).bind (·.dst) = some t := by simpa using hj
      have htm := h.tm t
      cases hs : s.tmps t with
      | bool b =>
        rw [hs] at he htm
        have e1 : a.tmps.getD t undef = .bool b := VR_bool htm
        have hy : yielded ops a.tmps j = some b := by
          unfold yielded
          rw [hj2]
          simp only [Option.bind_some]
          rcases Nat.lt_or_ge t a.tmps.size with hlt | hge
          · simp [Array.getD, hlt] at e1
            simp [hlt, e1]
          · simp [Array.getD, Nat.not_lt.2 hge, undef] at e1
        simp only [] at he
        cases hbw : (b == want) with
        | true =>
          rw [hbw] at he
          simp only [Pg.Ev, if_true] at he
          have : Region.wanted o (yielded ops a.tmps) = true := by
            have e : b = want := by simpa using hbw
            simp [Region.wanted, hg, hy, e]
          rw [if_pos this]
          exact .inl (hgo he)
        | false =>
          rw [hbw] at he
          simp only [Pg.Ev, Bool.false_eq_true, if_false] at he
          have e : ¬ b = want := by simpa using hbw
          have : ¬ Region.wanted o (yielded ops a.tmps) = true := by simp [Region.wanted, hg, hy, e]
          rw [if_neg this]
          subst he
          exact hK _ _ ⟨g, h.wrd (show VR w g (.tup []) undef from ⟨[], rfl, trivial⟩) hdo, hb⟩
      | tup l =>
        rw [hs] at he htm
        cases l with
        | cons _ _ => exact he.elim
        | nil =>
          obtain ⟨us, e1, hu⟩ := htm
          have hus : us = [] := List.eq_nil_of_length_eq_zero hu.len.symm
          subst hus
          have hy : yielded ops a.tmps j = none := by
            unfold yielded
            rw [hj2]
            simp only [Option.bind_some]
            rcases Nat.lt_or_ge t a.tmps.size with hlt | hge
            · simp [Array.getD, hlt] at e1
              simp [hlt, e1]
            · simp [hge]
          have : ¬ Region.wanted o (yielded ops a.tmps) = true := by simp [Region.wanted, hg, hy]
          rw [if_neg this]
          have he : ws = _ := he
          subst he
          exact hK _ _ ⟨g, h.wrd (show VR w g (.tup []) undef from ⟨[], rfl, trivial⟩) hdo, hb⟩
      | _ => rw [hs] at he; exact he.elim

/-! ### regions -/
theorem wpOps_of (hT : TIok P TI) (hC : ∀ f args v, C f args v → CallOK P f args v) (hd : dstsOK N ops.toList = true) (hQ : ∀ a' w', J B w0 N s' a' w' → Q .normal a' w') :
    ∀ (l : List Oper) (i : Nat) (s : S) (a : Act) (w : World), ops.toList.drop i = l → OpsEv C TI ops.toList l s s' → J B w0 N s a w → wpOps P ops Q (List.range' i l.length) a w := by
  intro l
  induction l with
  | nil =>
    intro i s a w _ he hJ
    have e : s' = s := he
    subst e
    exact hQ a w hJ
  | cons o l ih =>
    intro i s a w hi he hJ
    obtain ⟨ws, h1, h2⟩ := he
    rw [List.length_cons, List.range'_succ, wpOps_cons]
    have ho : ops[i]? = some o := by
      have : (ops.toList.drop i)[0]? = some o := by rw [hi]; rfl
      simpa using this
    have hi2 : ops.toList.drop (i + 1) = l := by
      rw [← List.drop_drop, hi]; rfl
    exact wpOp_of hT hC hd ho hJ h1 fun a' w' hJ' => ih (i + 1) _ a' w' hi2 h2 hJ'

theorem wp_plain (hT : TIok P TI) (hC : ∀ f args v, C f args v → CallOK P f args v) (hd : dstsOK N ops.toList = true) {id : Nat} (he : OpsEv C TI ops.toList ops.toList s s') (hJ : J B w0 N s a w) (hQ : ∀ a' w', J B w0 N s' a' w' → Q .normal a' w') :
    (Code.region id ops false).wp P Q a w := by
  refine wp_region ?_
  have := wpOps_of (Q := Q) hT hC hd hQ ops.toList 0 s a w rfl he hJ
  rwa [← List.range_eq_range', Array.length_toList] at this

theorem J.drew (hJ : J B w0 N s a w) : J B w0 N s a { w with drawn := w.drawn + 1 } := by
  obtain ⟨g, h, hb⟩ := hJ
  exact ⟨g, (h.heap (w' := { w with drawn := w.drawn + 1 }) rfl).1, ⟨hb.os, hb.tape, hb.output, hb.size, hb.block⟩⟩

theorem mix_none (st : List Stp) (L : Nat → Bool) (hL : ∀ i, L i = false) : ∀ (i : Nat) (s : S), mix st L i s = s := by
  induction st with
  | nil => intro i s; rfl
  | cons x st ih => intro i s; simp only [mix, hL, Bool.false_eq_true, if_false]; exact ih _ _

theorem wp_drawn (hm : P.follows .mixedOrders = true) (hT : TIok P TI) (hC : ∀ f args v, C f args v → CallOK P f args v) (hd : dstsOK N ops.toList = true) {id : Nat} {st : List Stp} (D : Drawn C TI ops s st s') (hJ : J B w0 N s a w)
    (hQ : ∀ a' w', J B w0 N s' a' w' → Q .normal a' w') : (Code.region id ops true).wp P Q a w := by
  refine wp_region_any hm ?_
  have hrep : ∀ i, (Array.replicate ops.size false).getD i false = false := by
    intro i; simp [Array.getD]
  refine D.any (J B w0 N) (fun i o σ ws a w K ho hJ he hK => wpOp_of hT hC hd ho hJ he hK) hQ ops.size _ a _ (by simp) ?_ (fun _ => .inr trivial) ?_ ?_
  · intro j o _ hj; have e := hrep j; simp only [] at hj; rw [e] at hj; cases hj
  · rw [mix_none st _ hrep]; exact hJ.drew
  · exact Nat.le_trans (List.length_filter_le _ _) (by simp)

end

/-! ### several labels in one scope -/
def Exit.hop (c : Code) (K : Nat → Act → World → Prop) (Q : Exit → Act → World → Prop) : Exit → Act → World → Prop
  | .goto l, a, w => match findLabel c l with
    | some _ => K l a w
    | none => Q (.goto l) a w
  | e, a, w => Q e a w

/-- from label l on: at most n passes -/
def Hops (P : Program) (c : Code) (Q : Exit → Act → World → Prop) : Nat → Nat → Act → World → Prop
  | 0, _, _, _ => False
  | n + 1, l, a, w => ∃ rest, findLabel c l = some rest ∧ rest.wp P (Exit.hop c (Hops P c Q n) Q) a w

theorem wp_scope_hops {P : Program} {c : Code} {Q : Exit → Act → World → Prop} {a : Act} {w : World}
    (first : c.wp P (Exit.hop c (fun l a w => ∃ n, Hops P c Q n l a w) Q) a w) : (Code.scope c).wp P Q a w := by
  intro b k cs
  have hg : ∀ l rest, findLabel c l = some rest → gotoIn l (.inScope c :: k) = some (.code rest :: .inScope c :: k) := by intro l rest hf; simp [gotoIn, hf]
  have hn : ∀ l, findLabel c l = none → ∀ k', gotoIn l k = some k' → gotoIn l (.inScope c :: k) = some k' := by intro l hf k' hk; simp [gotoIn, hf, hk]
  have key : ∀ n l a w, Hops P c Q n l a w → ∃ rest, findLabel c l = some rest ∧ ∃ e a' w', Q e a' w' ∧ Arrives P (lone (b.at a (.code rest :: .inScope c :: k)) cs w) b k cs e a' w' := by
    intro n
    induction n with
    | zero => intro l a w h; exact h.elim
    | succ n ih =>
      rintro l a w ⟨rest, hf, h⟩
      refine ⟨rest, hf, ?_⟩
      obtain ⟨e, a₁, w₁, hq, harr⟩ := h b (.inScope c :: k) cs
      cases e with
      | normal => exact ⟨.normal, a₁, w₁, hq, Steps.trans harr (.one step_inScope)⟩
      | exit id => exact ⟨.exit id, a₁, w₁, hq, fun k' hk => harr k' (by simp [exitTo, hk])⟩
      | goto l' =>
        simp only [Exit.hop] at hq
        cases hf' : findLabel c l' with
        | none => rw [hf'] at hq; exact ⟨.goto l', a₁, w₁, hq, fun k' hk => harr k' (hn l' hf' k' hk)⟩
        | some rest' =>
          rw [hf'] at hq
          obtain ⟨rest2, hf2, e₂, a₂, w₂, hq₂, harr₂⟩ := ih l' a₁ w₁ hq
          exact ⟨e₂, a₂, w₂, hq₂, .of_steps (harr _ (hg l' rest2 hf2)) harr₂⟩
      | ret => exact ⟨_, a₁, w₁, hq, harr⟩
      | panic ch => exact ⟨_, a₁, w₁, hq, harr⟩
      | outgrown => exact ⟨_, a₁, w₁, hq, harr⟩
  obtain ⟨e, a₁, w₁, hq, harr⟩ := first b (.inScope c :: k) cs
  cases e with
  | normal => exact ⟨.normal, a₁, w₁, hq, .head step_scope (Steps.trans harr (.one step_inScope))⟩
  | exit id => exact ⟨.exit id, a₁, w₁, hq, fun k' hk => .head step_scope (harr k' (by simp [exitTo, hk]))⟩
  | goto l' =>
    simp only [Exit.hop] at hq
    cases hf' : findLabel c l' with
    | none => rw [hf'] at hq; exact ⟨.goto l', a₁, w₁, hq, fun k' hk => .head step_scope (harr k' (hn l' hf' k' hk))⟩
    | some rest' =>
      rw [hf'] at hq
      obtain ⟨n, hq⟩ := hq
      obtain ⟨rest2, hf2, e₂, a₂, w₂, hq₂, harr₂⟩ := key n l' a₁ w₁ hq
      exact ⟨e₂, a₂, w₂, hq₂, .of_steps (.head step_scope (harr _ (hg l' rest2 hf2))) harr₂⟩
  | ret => exact ⟨_, a₁, w₁, hq, .of_steps (.one step_scope) harr⟩
  | panic ch => exact ⟨_, a₁, w₁, hq, .of_steps (.one step_scope) harr⟩
  | outgrown => exact ⟨_, a₁, w₁, hq, .of_steps (.one step_scope) harr⟩

/-! ### code -/
def X.ex : X → Exit
  | .norm => .normal
  | .exit i => .exit i
  | .goto l => .goto l
  | .ret => .ret

/-- the machine ends so: by exit x, at state s' -/
def Ends (B : Bd) (w0 : World) (N : Nat) (x : X) (s' : S) : Exit → Act → World → Prop := fun e a w => e = x.ex ∧ J B w0 N s' a w

/-- what the oracle tells of a loop, or of a jump, is so -/
def LoopOK (P : Program) (N : Nat) (L : LOrc) (b : Code) : Prop :=
  ∀ (R : Type) (s : S) (K : X → S → Option R) (r : R), L R (.loop (firstRegion b)) s K = some r →
    ∃ x s', K x s' = some r ∧ ∀ (B : Bd) (w0 : World) (a : Act) (w : World), J B w0 N s a w → (Code.loop b).wp P (Ends B w0 N x s') a w
def JumpsOK (P : Program) (N : Nat) (L : LOrc) (b : Code) : Prop :=
  ∀ (R : Type) (l : Nat) (s : S) (K : X → S → Option R) (r : R) (rest : Code), findLabel b l = some rest → L R (.label l) s K = some r →
    ∃ x s', K x s' = some r ∧ ∀ (B : Bd) (w0 : World) (a : Act) (w : World), J B w0 N s a w → ∃ n, Hops P b (Ends B w0 N x s') n l a w

def LinksOK (P : Program) (N : Nat) (L : LOrc) : Code → Prop
  | .seq a b => LinksOK P N L a ∧ LinksOK P N L b
  | .block _ b => LinksOK P N L b
  | .loop b => LoopOK P N L b
  | .scope b => JumpsOK P N L b ∧ LinksOK P N L b
  | .cond _ a b => LinksOK P N L a ∧ LinksOK P N L b
  | _ => True

theorem hops_mono {P : Program} {c : Code} {Q Q' : Exit → Act → World → Prop} (hq : ∀ e a w, Q e a w → Q' e a w) : ∀ (n l : Nat) (a : Act) (w : World), Hops P c Q n l a w → Hops P c Q' n l a w := by
  intro n
  induction n with
  | zero => intro l a w h; exact h
  | succ n ih =>
    rintro l a w ⟨rest, hf, h⟩
    refine ⟨rest, hf, wp_mono h ?_⟩
    intro e a w he
    cases e with
    | goto l' =>
      simp only [Exit.hop] at he ⊢
      cases hf' : findLabel c l' with
      | none => rw [hf'] at he; exact hq _ _ _ he
      | some r => rw [hf'] at he; exact ih _ _ _ he
    | _ => exact hq _ _ _ he

theorem run_wp {P : Program} {TI : TEnv} {O : Orc} {L : LOrc} {C : FuncId → List AV → AV → Prop} {N : Nat} (hm : P.follows .mixedOrders = true) (hT : TIok P TI) (hO : OrcOK O C) (hC : ∀ f args v, C f args v → CallOK P f args v) :
    ∀ (c : Code), codeOK N c = true → LinksOK P N L c → ∀ (R : Type) (s : S) (K : X → S → Option R) (r : R), run TI O L c s K = some r →
      ∃ x s', K x s' = some r ∧ ∀ (B : Bd) (w0 : World) (a : Act) (w : World), J B w0 N s a w → c.wp P (Ends B w0 N x s') a w := by
  intro c
  induction c with
  | skip => exact fun _ _ R s K r h => ⟨.norm, s, h, fun B w0 a w hJ => wp_skip ⟨rfl, hJ⟩⟩
  | label l => exact fun _ _ R s K r h => ⟨.norm, s, h, fun B w0 a w hJ => wp_label ⟨rfl, hJ⟩⟩
  | ret => exact fun _ _ R s K r h => ⟨.ret, s, h, fun B w0 a w hJ => wp_ret ⟨rfl, hJ⟩⟩
  | exit id => exact fun _ _ R s K r h => ⟨.exit id, s, h, fun B w0 a w hJ => wp_exit ⟨rfl, hJ⟩⟩
  | goto l => exact fun _ _ R s K r h => ⟨.goto l, s, h, fun B w0 a w hJ => wp_goto ⟨rfl, hJ⟩⟩
  | seq x y ihx ihy =>
    intro hc hl R s K r h
    simp only [codeOK, Bool.and_eq_true] at hc
    obtain ⟨x1, s1, h1, w1⟩ := ihx hc.1 hl.1 R s _ r h
    cases x1 with
    | norm =>
      obtain ⟨x2, s2, h2, w2⟩ := ihy hc.2 hl.2 R s1 K r h1
      refine ⟨x2, s2, h2, fun B w0 a w hJ => wp_seq (wp_mono (w1 B w0 a w hJ) ?_)⟩
      rintro e a' w' ⟨rfl, hJ'⟩
      exact w2 B w0 a' w' hJ'
    | _ =>
      refine ⟨_, s1, h1, fun B w0 a w hJ => wp_seq (wp_mono (w1 B w0 a w hJ) ?_)⟩
      rintro e a' w' ⟨rfl, hJ'⟩
      exact ⟨rfl, hJ'⟩
  | cond c x y ihx ihy =>
    intro hc hl R s K r h
    simp only [codeOK, Bool.and_eq_true] at hc
    cases c with
    | tmp t =>
      simp only [run] at h
      cases hs : s.tmps t with
      | bool b =>
        rw [hs] at h
        have heval : ∀ (B : Bd) (w0 : World) (a : Act) (w : World), J B w0 N s a w → a.eval (.tmp t) = .bool b := by
          rintro B w0 a w ⟨g, hr, _⟩
          have := hr.tm t
          rw [hs] at this
          exact VR_bool this
        cases b with
        | true =>
          obtain ⟨x1, s1, h1, w1⟩ := ihx hc.1 hl.1 R s K r h
          exact ⟨x1, s1, h1, fun B w0 a w hJ => wp_cond_true (heval B w0 a w hJ) (w1 B w0 a w hJ)⟩
        | false =>
          obtain ⟨x1, s1, h1, w1⟩ := ihy hc.2 hl.2 R s K r h
          exact ⟨x1, s1, h1, fun B w0 a w hJ => wp_cond_false (heval B w0 a w hJ) (w1 B w0 a w hJ)⟩
      | _ => rw [hs] at h; cases h
    | _ => cases h
  | block id b ih =>
    intro hc hl R s K r h
    obtain ⟨x1, s1, h1, w1⟩ := ih hc hl R s _ r h
    cases x1 with
    | exit id' =>
      simp only [] at h1
      cases hid : Nat.beq id' id with
      | true =>
        rw [hid] at h1
        refine ⟨.norm, s1, h1, fun B w0 a w hJ => wp_block (wp_mono (w1 B w0 a w hJ) ?_)⟩
        rintro e a' w' ⟨rfl, hJ'⟩
        have := Nat.eq_of_beq_eq_true hid
        simp only [X.ex, Exit.inBlock, this, if_true]
        exact ⟨rfl, hJ'⟩
      | false =>
        rw [hid] at h1
        refine ⟨.exit id', s1, h1, fun B w0 a w hJ => wp_block (wp_mono (w1 B w0 a w hJ) ?_)⟩
        rintro e a' w' ⟨rfl, hJ'⟩
        have : ¬ id' = id := fun e => by subst e; rw [Nat.beq_refl] at hid; cases hid
        simp only [X.ex, Exit.inBlock, this, if_false]
        exact ⟨rfl, hJ'⟩
    | _ =>
      refine ⟨_, s1, h1, fun B w0 a w hJ => wp_block (wp_mono (w1 B w0 a w hJ) ?_)⟩
      rintro e a' w' ⟨rfl, hJ'⟩
      exact ⟨rfl, hJ'⟩
  | loop b ih => exact fun _ hl R s K r h => hl R s K r h
  | scope b ih =>
    intro hc hl R s K r h
    obtain ⟨x1, s1, h1, w1⟩ := ih hc hl.2 R s _ r h
    cases x1 with
    | goto l =>
      simp only [] at h1
      cases hf : findLabel b l with
      | none =>
        rw [hf] at h1
        refine ⟨.goto l, s1, h1, fun B w0 a w hJ => wp_scope_hops (wp_mono (w1 B w0 a w hJ) ?_)⟩
        rintro e a' w' ⟨rfl, hJ'⟩
        simp only [X.ex, Exit.hop, hf]
        exact ⟨rfl, hJ'⟩
      | some rest =>
        rw [hf] at h1
        obtain ⟨x2, s2, h2, w2⟩ := hl.1 R l s1 K r rest hf h1
        refine ⟨x2, s2, h2, fun B w0 a w hJ => wp_scope_hops (wp_mono (w1 B w0 a w hJ) ?_)⟩
        rintro e a' w' ⟨rfl, hJ'⟩
        simp only [X.ex, Exit.hop, hf]
        exact w2 B w0 a' w' hJ'
    | _ =>
      refine ⟨_, s1, h1, fun B w0 a w hJ => wp_scope_hops (wp_mono (w1 B w0 a w hJ) ?_)⟩
      rintro e a' w' ⟨rfl, hJ'⟩
      exact ⟨rfl, hJ'⟩
  | region id ops draw =>
    intro hc _ R s K r h
    cases draw with
    | false =>
      obtain ⟨s', he, hk⟩ := evalOps_ev hO _ _ h
      exact ⟨.norm, s', hk, fun B w0 a w hJ => wp_plain hT hC hc he hJ fun a' w' hJ' => ⟨rfl, hJ'⟩⟩
    | true =>
      simp only [run] at h
      cases hb : edgesBack 0 ops.toList with
      | false => rw [hb] at h; cases h
      | true =>
        rw [hb] at h
        obtain ⟨st, s', D, hk⟩ := drawn_of hO hb h
        exact ⟨.norm, s', hk, fun B w0 a w hJ => wp_drawn hm hT hC hc D hJ fun a' w' hJ' => ⟨rfl, hJ'⟩⟩
  | _ => intro _ _ R s K r h; cases h

end Go.Proofs.YtjgnpmdbkgeakaaDoor.Th
