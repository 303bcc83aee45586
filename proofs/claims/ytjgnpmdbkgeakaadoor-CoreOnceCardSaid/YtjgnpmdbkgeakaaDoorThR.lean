/- THEORY, part R: loops, jumps and functions by functions of plain values. No condition. -/
import Derived.Test.YtjgnpmdbkgeakaaDoorThQ
set_option linter.unusedVariables false
set_option linter.unusedSimpArgs false
namespace Go.Proofs.YtjgnpmdbkgeakaaDoor.Th
open Go Go.RowKit

def exOK (xs : List (X × Msk)) : Bool := xs.all fun x => x.2.ok

section
variable {P : Program} {TI : TEnv} {O : Orc} {L : LOrc} {C : FuncId → List AV → AV → Prop} {B : Bd} {N : Nat} {s : S} {w w0 : World} {a : Act}

theorem X.beq_eq {x y : X} (h : x.beq y = true) : x = y := by
  cases x <;> cases y <;> simp only [X.beq] at h <;> first | rfl | (rw [Nat.eq_of_beq_eq_true h]) | cases h

theorem obind_some {α β : Type} {x : Option α} {f : α → Option β} {r : β} (h : obind x f = some r) : ∃ v, x = some v ∧ f v = some r := by
  cases x with
  | none => cases h
  | some v => exact ⟨v, rfl, h⟩

theorem inE_out : ∀ {xs : List (X × Msk)} {x : X} {e : denE xs}, exOK xs = true → inE xs x s = some e →
    ∃ s', (∀ (R : Type) (K : X → S → Option R), outE xs e K = K x s') ∧ ∀ (B : Bd) (w0 : World) (a : Act) (w : World), J B w0 N s a w → J B w0 N s' a w
  | [], _, _, _, h => by simp [inE] at h
  | [(y, m)], x, e, ho, h => by
    simp only [inE] at h
    cases hb : y.beq x with
    | false => rw [hb] at h; cases h
    | true =>
      rw [hb] at h
      have := X.beq_eq hb
      subst this
      simp only [exOK, List.all_cons, List.all_nil, Bool.and_true] at ho
      exact ⟨m.enc e, fun R K => rfl, fun B w0 a w hJ => Msk.dec_J ho h hJ⟩
  | (y, m) :: (y', m') :: l, x, e, ho, h => by
    simp only [exOK, List.all_cons, Bool.and_eq_true] at ho
    simp only [inE] at h
    cases hb : y.beq x with
    | true =>
      rw [hb] at h
      simp only [cond_true] at h
      have := X.beq_eq hb
      subst this
      cases hd : m.dec s with
      | none => rw [hd] at h; cases h
      | some v =>
        rw [hd] at h; cases h
        exact ⟨m.enc v, fun R K => rfl, fun B w0 a w hJ => Msk.dec_J ho.1 hd hJ⟩
    | false =>
      rw [hb] at h
      simp only [cond_false] at h
      cases hd : inE ((y', m') :: l) x s with
      | none => rw [hd] at h; cases h
      | some e' =>
        rw [hd] at h; cases h
        obtain ⟨s', h1, h2⟩ := inE_out (xs := (y', m') :: l) (by simp only [exOK, List.all_cons, Bool.and_eq_true]; exact ho.2) hd
        exact ⟨s', fun R K => h1 R K, h2⟩

/-- a way out has an exit and a state -/
theorem outE_pick : ∀ {xs : List (X × Msk)} (e : denE xs), ∃ x s, ∀ (R : Type) (K : X → S → Option R), outE xs e K = K x s
  | [], e => e.elim
  | [(y, m)], e => ⟨y, m.enc e, fun R K => rfl⟩
  | (y, m) :: (y', m') :: l, .inl v => ⟨y, m.enc v, fun R K => rfl⟩
  | (y, m) :: (y', m') :: l, .inr e => let ⟨x, s, h⟩ := outE_pick (xs := (y', m') :: l) e; ⟨x, s, fun R K => h R K⟩

theorem loop_rounds (hm : P.follows .mixedOrders = true) (hT : TIok P TI) (hO : OrcOK O C) (hC : ∀ f args v, C f args v → CallOK P f args v) {b : Code} (hc : codeOK N b = true) (hl : LinksOK P N L b) {m : Msk} {xs : List (X × Msk)} (ho : m.ok = true) (hx : exOK xs = true)
    {F : Nat → m.den → Option (denE xs)} (h0 : ∀ v, F 0 v = none) (hs : ∀ n v, F (n + 1) v = round TI O L b m xs (F n) v) :
    ∀ (n : Nat) (v : m.den) (e : denE xs), F n v = some e → ∃ x s', (∀ (R : Type) (K : X → S → Option R), outE xs e K = K x s') ∧
      ∀ (B : Bd) (w0 : World) (a : Act) (w : World), J B w0 N (m.enc v) a w → Code.rounds P b (Ends B w0 N x s') n a w := by
  intro n
  induction n with
  | zero => intro v e h; rw [h0] at h; cases h
  | succ n ih =>
    intro v e h
    rw [hs] at h
    obtain ⟨x1, s1, h1, w1⟩ := run_wp hm hT hO hC b hc hl _ _ _ _ h
    have other : ∀ (hx1 : x1 ≠ .norm), inE xs x1 s1 = some e → ∃ x s', (∀ (R : Type) (K : X → S → Option R), outE xs e K = K x s') ∧
        ∀ (B : Bd) (w0 : World) (a : Act) (w : World), J B w0 N (m.enc v) a w → Code.rounds P b (Ends B w0 N x s') (n + 1) a w := by
      intro hx1 he
      obtain ⟨s', e1, e2⟩ := inE_out hx he
      refine ⟨x1, s', e1, fun B w0 a w hJ => ?_⟩
      rw [rounds_succ]
      refine wp_mono (w1 B w0 a w hJ) ?_
      rintro e' a' w' ⟨rfl, hJ'⟩
      cases x1 with
      | norm => exact absurd rfl hx1
      | _ => exact ⟨rfl, e2 B w0 a' w' hJ'⟩
    cases x1 with
    | norm =>
      obtain ⟨v', hd, hf⟩ := obind_some h1
      obtain ⟨x, s', e1, e2⟩ := ih v' e hf
      refine ⟨x, s', e1, fun B w0 a w hJ => ?_⟩
      rw [rounds_succ]
      refine wp_mono (w1 B w0 a w hJ) ?_
      rintro e' a' w' ⟨rfl, hJ'⟩
      exact e2 B w0 a' w' (Msk.dec_J ho hd hJ')
    | exit i => exact other (by simp) h1
    | goto l => exact other (by simp) h1
    | ret => exact other (by simp) h1

/-- a loop is what its function tells -/
theorem loopOK_of {L' : LOrc} (hm : P.follows .mixedOrders = true) (hT : TIok P TI) (hO : OrcOK O C) (hC : ∀ f args v, C f args v → CallOK P f args v) {b : Code} (hc : codeOK N b = true) (hl : LinksOK P N L' b) {m : Msk} {xs : List (X × Msk)} (ho : m.ok = true) (hx : exOK xs = true)
    {F : Nat → m.den → Option (denE xs)} (h0 : ∀ v, F 0 v = none) (hs : ∀ n v, F (n + 1) v = round TI O L' b m xs (F n) v) {n : Nat}
    (hL : ∀ (R : Type) (s : S) (K : X → S → Option R), L R (.loop (firstRegion b)) s K = link m xs (F n) s K) : LoopOK P N L b := by
  intro R s K r h
  rw [hL] at h
  obtain ⟨v, hd, h⟩ := obind_some h
  obtain ⟨e, hf, h⟩ := obind_some h
  obtain ⟨x, s', e1, e2⟩ := loop_rounds hm hT hO hC hc hl ho hx h0 hs n v e hf
  rw [e1] at h
  exact ⟨x, s', h, fun B w0 a w hJ => wp_loop_rounds n (e2 B w0 a w (Msk.dec_J ho hd hJ))⟩

/-! ### jumps -/
theorem codeOK_find {l : Nat} : ∀ {b rest : Code}, codeOK N b = true → findLabel b l = some rest → codeOK N rest = true := by
  intro b
  induction b with
  | seq x y ihx ihy =>
    intro rest h hf
    simp only [codeOK, Bool.and_eq_true] at h
    simp only [findLabel] at hf
    cases hx : findLabel x l with
    | some r => rw [hx] at hf; cases hf; simp only [codeOK, Bool.and_eq_true]; exact ⟨ihx h.1 hx, h.2⟩
    | none => rw [hx] at hf; exact ihy h.2 hf
  | label l' =>
    intro rest _ hf
    simp only [findLabel] at hf
    split at hf
    · cases hf; rfl
    · cases hf
  | _ => intro rest _ hf; simp [findLabel] at hf

theorem linksOK_find {l : Nat} : ∀ {b rest : Code}, LinksOK P N L b → findLabel b l = some rest → LinksOK P N L rest := by
  intro b
  induction b with
  | seq x y ihx ihy =>
    intro rest h hf
    simp only [findLabel] at hf
    cases hx : findLabel x l with
    | some r => rw [hx] at hf; cases hf; exact ⟨ihx h.1 hx, h.2⟩
    | none => rw [hx] at hf; exact ihy h.2 hf
  | label l' =>
    intro rest _ hf
    simp only [findLabel] at hf
    split at hf
    · cases hf; trivial
    · cases hf
  | _ => intro rest _ hf; simp [findLabel] at hf

theorem jumps_hops (hm : P.follows .mixedOrders = true) (hT : TIok P TI) (hO : OrcOK O C) (hC : ∀ f args v, C f args v → CallOK P f args v) {b : Code} (hc : codeOK N b = true) (hl : LinksOK P N L b) {ls xs : List (X × Msk)} (ho : exOK ls = true) (hx : exOK xs = true)
    {F : Nat → denE ls → Option (denE xs)} (h0 : ∀ v, F 0 v = none) (hs : ∀ n v, F (n + 1) v = pass TI O L b ls xs (F n) v) :
    ∀ (n : Nat) (v : denE ls) (e : denE xs) (l : Nat) (s : S), (∀ (R : Type) (K : X → S → Option R), outE ls v K = K (.goto l) s) → F n v = some e → ∃ x s', (∀ (R : Type) (K : X → S → Option R), outE xs e K = K x s') ∧
      ∀ (B : Bd) (w0 : World) (a : Act) (w : World), J B w0 N s a w → Hops P b (Ends B w0 N x s') n l a w := by
  intro n
  induction n with
  | zero => intro v e l s _ h; rw [h0] at h; cases h
  | succ n ih =>
    intro v e l s hv h
    rw [hs] at h
    unfold pass at h
    rw [hv] at h
    simp only [] at h
    cases hf : findLabel b l with
    | none => rw [hf] at h; cases h
    | some rest =>
      rw [hf] at h
      simp only [] at h
      unfold hop at h
      obtain ⟨x1, s1, h1, w1⟩ := run_wp hm hT hO hC rest (codeOK_find hc hf) (linksOK_find hl hf) _ _ _ _ h
      have other : ∀ (hx1 : ∀ l', x1 = .goto l' → findLabel b l' = none), inE xs x1 s1 = some e → ∃ x s', (∀ (R : Type) (K : X → S → Option R), outE xs e K = K x s') ∧
          ∀ (B : Bd) (w0 : World) (a : Act) (w : World), J B w0 N s a w → Hops P b (Ends B w0 N x s') (n + 1) l a w := by
        intro hx1 he
        obtain ⟨s', e1, e2⟩ := inE_out hx he
        refine ⟨x1, s', e1, fun B w0 a w hJ => ⟨rest, hf, wp_mono (w1 B w0 a w hJ) ?_⟩⟩
        rintro e' a' w' ⟨rfl, hJ'⟩
        cases x1 with
        | goto l' =>
          simp only [X.ex, Exit.hop, hx1 l' rfl]
          exact ⟨rfl, e2 B w0 a' w' hJ'⟩
        | _ => exact ⟨rfl, e2 B w0 a' w' hJ'⟩
      cases x1 with
      | goto l' =>
        simp only [] at h1
        cases hf' : findLabel b l' with
        | none => rw [hf'] at h1; exact other (fun l2 e => by cases e; exact hf') h1
        | some rest' =>
          rw [hf'] at h1
          obtain ⟨v', hd, hff⟩ := obind_some h1
          obtain ⟨s', e1, e2⟩ := inE_out ho hd
          obtain ⟨x, s2, e3, e4⟩ := ih v' e l' s' e1 hff
          refine ⟨x, s2, e3, fun B w0 a w hJ => ⟨rest, hf, wp_mono (w1 B w0 a w hJ) ?_⟩⟩
          rintro e' a' w' ⟨rfl, hJ'⟩
          simp only [X.ex, Exit.hop, hf']
          exact e4 B w0 a' w' (e2 B w0 a' w' hJ')
      | norm => exact other (fun l2 e => by cases e) h1
      | exit i => exact other (fun l2 e => by cases e) h1
      | ret => exact other (fun l2 e => by cases e) h1

theorem jumpsOK_of {L' : LOrc} (hm : P.follows .mixedOrders = true) (hT : TIok P TI) (hO : OrcOK O C) (hC : ∀ f args v, C f args v → CallOK P f args v) {b : Code} (hc : codeOK N b = true) (hl : LinksOK P N L' b) {ls xs : List (X × Msk)} (ho : exOK ls = true) (hx : exOK xs = true)
    {F : Nat → denE ls → Option (denE xs)} (h0 : ∀ v, F 0 v = none) (hs : ∀ n v, F (n + 1) v = pass TI O L' b ls xs (F n) v) {n : Nat}
    (hL : ∀ (R : Type) (l : Nat) (s : S) (K : X → S → Option R) (rest : Code), findLabel b l = some rest → L R (.label l) s K = linkJ ls xs (F n) l s K) : JumpsOK P N L b := by
  intro R l s K r rest hf h
  rw [hL R l s K rest hf] at h
  obtain ⟨v, hd, h⟩ := obind_some h
  obtain ⟨e, hff, h⟩ := obind_some h
  obtain ⟨s1, e1, e2⟩ := inE_out (N := N) ho hd
  obtain ⟨x, s', e3, e4⟩ := jumps_hops hm hT hO hC hc hl ho hx h0 hs n v e l s1 e1 hff
  rw [e3] at h
  exact ⟨x, s', h, fun B w0 a w hJ => ⟨n, e4 B w0 a w (e2 B w0 a w hJ)⟩⟩

/-- a scope without labels -/
theorem jumpsOK_none {b : Code} (h : ∀ l, findLabel b l = none) : JumpsOK P N L b := by
  intro R l s K r rest hf
  rw [h] at hf; cases hf

/-! ### functions -/
theorem ownC_of_PV {b : Bd} {pr : Nat → Nat → Prop} {v : AV} {u : Value} (h : PV w pr v u) : OwnC b w pr v u none := by
  cases v with
  | own T l => rcases h with h | ⟨_, _, e, _⟩ <;> first | exact h.elim | cases e
  | _ => exact ⟨h, rfl⟩

/-- results' places: slots, or boxes that hold structs -/
def outOK (TI : TEnv) : List ResultVar → List (Pos × MC) → Bool
  | [], [] => true
  | .tmp t :: rs, (.tmp t', .val _) :: l => Nat.beq t t' && outOK TI rs l
  | .tmp t :: rs, (.tmp t', .row false _) :: l => Nat.beq t t' && outOK TI rs l
  | .cell a t :: rs, (.res a', .val T) :: l => Nat.beq a a' && (match TI t with
    | some i => i.kn.isSt && Nat.beq i.size T.size
    | none => false) && outOK TI rs l
  | _, _ => false

/-- a result and its place -/
inductive Out1 (TI : TEnv) : ResultVar → Pos × MC → Prop
  | val (t : Nat) (T : Ty) : Out1 TI (.tmp t) (.tmp t, .val T)
  | row (t : Nat) (T : Ty) : Out1 TI (.tmp t) (.tmp t, .row false T)
  | res (a : Nat) (t : TypeId) (T : Ty) (i : TInfo) (hi : TI t = some i) (hs : i.kn.isSt = true) (hz : i.size = T.size) : Out1 TI (.cell a t) (.res a, .val T)

theorem outOK_inv {rs : List ResultVar} {l : List (Pos × MC)} (h : outOK TI rs l = true) : (rs = [] ∧ l = []) ∨ ∃ r rs' q l', rs = r :: rs' ∧ l = q :: l' ∧ Out1 TI r q ∧ outOK TI rs' l' = true := by
  cases rs with
  | nil => cases l with
    | nil => exact .inl ⟨rfl, rfl⟩
    | cons _ _ => simp [outOK] at h
  | cons r rs => cases l with
    | nil => cases r <;> simp [outOK] at h
    | cons q l =>
      obtain ⟨p, m⟩ := q
      cases r with
      | cell a t =>
        cases p with
        | res a' =>
          cases m with
          | val T =>
            simp only [outOK, Bool.and_eq_true] at h
            obtain ⟨⟨h1, h2⟩, h3⟩ := h
            have := Nat.eq_of_beq_eq_true h1
            subst this
            split at h2
            · rename_i i hi
              simp only [Bool.and_eq_true] at h2
              exact .inr ⟨_, _, _, _, rfl, rfl, .res a t T i hi h2.1 (Nat.eq_of_beq_eq_true h2.2), h3⟩
            · cases h2
          | _ => simp [outOK] at h
        | _ => cases m <;> simp [outOK] at h
      | tmp t =>
        cases p with
        | cell b j => cases m <;> simp [outOK] at h
        | res b => cases m <;> simp [outOK] at h
        | tmp t' =>
          cases m with
          | ptr b o => simp [outOK] at h
          | val T =>
            simp only [outOK, Bool.and_eq_true] at h
            have := Nat.eq_of_beq_eq_true h.1
            subst this
            exact .inr ⟨_, _, _, _, rfl, rfl, .val t T, h.2⟩
          | row sh T =>
            cases sh with
            | true => simp [outOK] at h
            | false =>
              simp only [outOK, Bool.and_eq_true] at h
              have := Nat.eq_of_beq_eq_true h.1
              subst this
              exact .inr ⟨_, _, _, _, rfl, rfl, .row t T, h.2⟩

structure Outs (B : Bd) (w : World) (g : Gh) (s : S) (l : List (Pos × MC)) (v : denL l) (used used' : List Nat) (bs : List (Option Nat)) : Prop where
  len : (outL l v).length = l.length
  blen : bs.length = l.length
  own : ∀ (i : Nat) (x : AV) (q : Pos × MC) (b : Option Nat), (outL l v)[i]? = some x → l[i]? = some q → bs[i]? = some b → ∀ u, VR w g (q.1.get s) u → OwnC B w g.pr x u b
  src : ∀ (i k : Nat), bs[i]? = some (some k) → ∃ h tg0, h ∈ used' ∧ h ∉ used ∧ (s.toks h).isLive = true ∧ g.τ h = some tg0 ∧ tg0.blk = some k
  inj : ∀ (i j k : Nat), bs[i]? = some (some k) → bs[j]? = some (some k) → i = j
  mono : ∀ t ∈ used, t ∈ used'

theorem decL_out {g : Gh} (h : Rel B g s w a N) (bs0 : List Nat) : ∀ (l : List (Pos × MC)) (rs : List ResultVar) {used used' : List Nat} {v : denL l}, outOK TI rs l = true → decL s bs0 l used = some (v, used') → ∃ bs, Outs B w g s l v used used' bs := by
  intro l
  induction l with
  | nil =>
    intro rs used used' v _ hd
    simp only [decL] at hd
    cases hd
    exact ⟨[], rfl, rfl, fun i x q b h => by simp [outL] at h, fun i k h => by simp at h, fun i j k h => by simp at h, fun _ h => h⟩
  | cons q l ih =>
    intro rs used used' v ho hd
    obtain ⟨p, m⟩ := q
    have ho' : ∃ r rs', Out1 TI r (p, m) ∧ outOK TI rs' l = true := by
      rcases outOK_inv ho with ⟨_, e⟩ | ⟨r, rs', q, l', _, e, h1, h2⟩
      · cases e
      · cases e; exact ⟨r, rs', h1, h2⟩
    obtain ⟨r0, rs', hr0, ho'⟩ := ho'
    cases m with
    | ptr b o => cases hr0
    | val T =>
      simp only [decL] at hd
      cases h1 : decV s T (p.get s) with
      | none => rw [h1] at hd; cases hd
      | some x =>
        rw [h1] at hd
        simp only [] at hd
        cases h2 : decL s bs0 l used with
        | none => rw [h2] at hd; cases hd
        | some y =>
          obtain ⟨y1, y2⟩ := y
          rw [h2] at hd; cases hd
          obtain ⟨bs, K⟩ := ih rs' ho' h2
          refine ⟨none :: bs, by simp [outL, K.len], by simp [K.blen], ?_, ?_, ?_, K.mono⟩
          · intro i x' q b e1 e2 e3 u hu
            cases i with
            | zero => simp [outL] at e1 e2 e3; subst e1; subst e2; subst e3; exact ownC_of_PV (decV_PV h h1 hu)
            | succ i => simp [outL] at e1 e2 e3; exact K.own i x' q b e1 e2 e3 u hu
          · intro i k e
            cases i with
            | zero => simp at e
            | succ i => simp at e; exact K.src i k e
          · intro i j k e e'
            cases i with
            | zero => simp at e
            | succ i =>
              cases j with
              | zero => simp at e'
              | succ j => simp at e e'; rw [K.inj i j k e e']
    | row sh T =>
      have hsh : sh = false := by
        cases sh with
        | false => rfl
        | true => cases hr0
      subst hsh
      simp only [decL] at hd
      cases h1 : decR s false T (p.get s) used with
      | none => rw [h1] at hd; cases hd
      | some x =>
        obtain ⟨x1, x2⟩ := x
        rw [h1] at hd
        simp only [] at hd
        cases h2 : decL s bs0 l x2 with
        | none => rw [h2] at hd; cases hd
        | some y =>
          obtain ⟨y1, y2⟩ := y
          rw [h2] at hd; cases hd
          obtain ⟨bs, K⟩ := ih rs' ho' h2
          obtain ⟨tg, R1, R2, R3⟩ := decR_ok h h1
          have key : ∀ (j k : Nat), bs[j]? = some (some k) → tg.blk = some k → False := by
            intro j k e1 e2
            obtain ⟨t, tg0, a1, a2, a3, a4, a5⟩ := R1.src k e2
            obtain ⟨t', tg0', b1, b2, b3, b4, b5⟩ := K.src j k e1
            have := h.tinj t t' tg0 tg0' k a3 b3 a4 b4 a5 b5
            subst this
            exact b2 a1
          refine ⟨tg.blk :: bs, by simp [outL, K.len], by simp [K.blen], ?_, ?_, ?_, fun t ht => K.mono t (R2 t ht)⟩
          · intro i x' q b e1 e2 e3 u hu
            cases i with
            | zero =>
              simp [outL] at e1 e2 e3; subst e1; subst e2; subst e3
              obtain ⟨r1, _⟩ := R3 u hu
              obtain ⟨sh, T', l', e, ok⟩ := R1.live
              cases e
              refine ⟨tg, ok, r1, rfl, fun k hk => ?_⟩
              obtain ⟨_, ok2⟩ := ok
              rcases ok2 with ⟨_, e, _⟩ | ⟨k', cap, _, e, r⟩
              · rw [hk] at e; cases e
              · rw [hk] at e; cases e
                obtain ⟨us, el, fr, r1, _⟩ := r.row
                exact (Array.getElem?_eq_some_iff.1 r1).1
            | succ i => simp [outL] at e1 e2 e3; exact K.own i x' q b e1 e2 e3 u hu
          · intro i k e
            cases i with
            | zero =>
              simp at e
              obtain ⟨t, tg0, a1, a2, a3⟩ := R1.src k e
              exact ⟨t, tg0, K.mono t a1, a2, a3⟩
            | succ i =>
              simp at e
              obtain ⟨t, tg0, a1, a2, a3⟩ := K.src i k e
              exact ⟨t, tg0, a1, fun hm => a2 (R2 t hm), a3⟩
          · intro i j k e e'
            cases i with
            | zero =>
              simp at e
              cases j with
              | zero => rfl
              | succ j => simp at e'; exact (key j k e' e).elim
            | succ i =>
              cases j with
              | zero => simp at e'; simp at e; exact (key i k e e').elim
              | succ j => simp at e e'; rw [K.inj i j k e e']

theorem outOK_get : ∀ {rs : List ResultVar} {l : List (Pos × MC)}, outOK TI rs l = true → rs.length = l.length ∧ ∀ (i : Nat) (r : ResultVar) (q : Pos × MC), rs[i]? = some r → l[i]? = some q → Out1 TI r q := by
  intro rs
  induction rs with
  | nil =>
    intro l h
    rcases outOK_inv h with ⟨_, rfl⟩ | ⟨r, rs', q, l', e, _⟩
    · exact ⟨rfl, fun i r q h => by simp at h⟩
    · cases e
  | cons r rs ih =>
    intro l h
    rcases outOK_inv h with ⟨e, _⟩ | ⟨r', rs', q, l', e, rfl, h1, h'⟩
    · cases e
    · cases e
      obtain ⟨a, b⟩ := ih h'
      refine ⟨by simp [a], fun i r2 q2 hr hq => ?_⟩
      cases i with
      | zero => simp at hq hr; subst hq; subst hr; exact h1
      | succ i => simp at hq hr; exact b i r2 q2 hr hq

theorem decL_item {bs : List Nat} : ∀ {l : List (Pos × MC)} {used : List Nat} {y : denL l × List Nat}, decL s bs l used = some y → ∀ (i : Nat) (p : Pos) (T : Ty), l[i]? = some (p, .val T) → ∃ x, decV s T (p.get s) = some x := by
  intro l
  induction l with
  | nil => intro used y _ i p T h; simp at h
  | cons q l ih =>
    intro used y h i p T hi
    obtain ⟨p0, m⟩ := q
    cases m with
    | val T0 =>
      simp only [decL] at h
      cases h1 : decV s T0 (p0.get s) with
      | none => rw [h1] at h; cases h
      | some x =>
        rw [h1] at h
        cases i with
        | zero => simp at hi; obtain ⟨rfl, rfl⟩ := hi; exact ⟨x, h1⟩
        | succ i =>
          simp only [] at h
          cases h2 : decL s bs l used with
          | none => rw [h2] at h; cases h
          | some z => exact ih h2 i p T (by simpa using hi)
    | row sh T0 =>
      simp only [decL] at h
      cases h1 : decR s sh T0 (p0.get s) used with
      | none => rw [h1] at h; cases h
      | some x =>
        rw [h1] at h
        simp only [] at h
        cases h2 : decL s bs l x.2 with
        | none => rw [h2] at h; cases h
        | some z =>
          cases i with
          | zero => simp at hi
          | succ i => exact ih h2 i p T (by simpa using hi)
    | ptr b o =>
      simp only [decL] at h
      cases h1 : decP bs b o (p0.get s) with
      | false => rw [h1] at h; cases h
      | true =>
        rw [h1] at h
        cases i with
        | zero => simp at hi
        | succ i => exact ih h i p T (by simpa using hi)

theorem deref_PR {g : Gh} (h : Rel B g s w a N) : ∀ {cs : List AV} {us : List Value}, All2 (LR w g) cs us → (cs.map (derefC s)).all isPlainCell = true → All2 (PR w g.pr) (cs.map (derefC s)) us
  | [], [], _, _ => trivial
  | c :: cs, u :: us, h1, hp => by
    simp only [List.map_cons, List.all_cons, Bool.and_eq_true] at hp ⊢
    refine ⟨?_, deref_PR h h1.2 hp.2⟩
    have h0 := h1.1
    have hp0 := hp.1
    cases c with
    | ref t =>
      simp only [derefC] at hp0 ⊢
      split at hp0
      · rename_i T l ht
        obtain ⟨tg, e1, hr⟩ := h.shared ht
        obtain ⟨tg', e2, e3, _⟩ := h0
        rw [e1] at e2; cases e2
        rw [e3]; exact hr
      · simp [isPlainCell] at hp0
    | _ => exact LR_plain' h0 hp0
  | [], _ :: _, h, _ => h.elim
  | _ :: _, [], h, _ => h.elim

/-- what a result's place holds -/
theorem run_res (hT : TIok P TI) {g : Gh} (h : Rel B g s w a N) {r : ResultVar} {q : Pos × MC} (ho : Out1 TI r q) (hd : ∀ T, q.2 = .val T → ∃ x, decV s T (q.1.get s) = some x) {f : ResultVar → Sem Value} (hf : ∀ t, f (.tmp t) = pure (a.tmps.getD t undef))
    (hf2 : ∀ b t, f (.cell b t) = (do loadVar t (← asAddr (a.tmps.getD b undef)))) : ∃ u, (f r).run P w = .ok u w ∧ VR w g (q.1.get s) u := by
  cases ho with
  | val t T => exact ⟨_, by rw [hf]; rfl, h.tm t⟩
  | row t T => exact ⟨_, by rw [hf]; rfl, h.tm t⟩
  | res b t T i hi hs hz =>
    obtain ⟨x, hx⟩ := hd T rfl
    obtain ⟨ti, d, z, Ty⟩ := hT.get hi
    simp only [Pos.get] at hx ⊢
    have hb := h.tm b
    split at hx
    · rename_i k hk
      rw [hk] at hb
      split at hx
      · rename_i cs hcs
        cases hpl : (cs.map (derefC s)).all isPlainCell with
        | false =>
          have : aggOf (cs.map (derefC s)) = .undef := by unfold aggOf; rw [hpl]
          rw [this] at hx
          unfold decV at hx
          split at hx <;> simp [isPlainCell] at hx
        | true =>
          have e : aggOf (cs.map (derefC s)) = .agg (cs.map (derefC s)) := by unfold aggOf; rw [hpl]
          rw [e] at hx
          obtain ⟨kb, f1, ok⟩ := h.bx k cs hcs
          obtain ⟨us, el, fr, r1, r2, r3⟩ := ok.row
          have hpr := deref_PR h r3 hpl
          have hlen : us.size = i.size := by
            unfold decV at hx
            split at hx
            · have := (ofCells_TR hx hpr).len
              rw [hz, ← this]; simp
            · cases hx
          obtain ⟨k', f2, hu⟩ := hb
          rw [f1] at f2; cases f2
          have hlv := (run_loadVar Ty (row_at r1)).1 hs (by simp [hlen])
          refine ⟨.agg us, ?_, ?_⟩
          · rw [hf2, hu]
            simp only [asAddr, Sem.run_bind, Sem.run_pure, Result.andThen_ok]
            rw [hlv]
          · simp only [hk, hcs, e]
            exact ⟨us.toList, by simp, hpr⟩
      · unfold decV at hx
        split at hx <;> simp [isPlainCell] at hx
    · unfold decV at hx
      split at hx <;> simp [isPlainCell] at hx

theorem run_resultsL {f : ResultVar → Sem Value} : ∀ {rs : List ResultVar} {l : List (Pos × MC)} {V : Pos × MC → Value → Prop}, rs.length = l.length →
    (∀ (i : Nat) (r : ResultVar) (q : Pos × MC), rs[i]? = some r → l[i]? = some q → ∃ u, (f r).run P w = .ok u w ∧ V q u) →
    ∃ vals, (rs.mapM f).run P w = .ok vals w ∧ vals.length = l.length ∧ ∀ (i : Nat) (u : Value) (q : Pos × MC), vals[i]? = some u → l[i]? = some q → V q u := by
  intro rs
  induction rs with
  | nil =>
    intro l V hl _
    have : l = [] := List.eq_nil_of_length_eq_zero (by simpa using hl.symm)
    subst this
    exact ⟨[], rfl, rfl, fun i u q h => by simp at h⟩
  | cons r rs ih =>
    intro l V hl h
    cases l with
    | nil => simp at hl
    | cons q l =>
      obtain ⟨u, h1, h2⟩ := h 0 r q rfl rfl
      obtain ⟨vals, h3, h4, h5⟩ := ih (l := l) (V := V) (by simpa using hl) (fun i r' q' e1 e2 => h (i + 1) r' q' (by simpa using e1) (by simpa using e2))
      refine ⟨u :: vals, ?_, by simp [h4], fun i u' q' e1 e2 => ?_⟩
      · simp only [List.mapM_cons, Sem.run_bind, h1, Sem.run_pure, Result.andThen_ok, h3]
      · cases i with
        | zero => simp at e1 e2; subst e1; subst e2; exact h2
        | succ i => simp at e1 e2; exact h5 i u' q' e1 e2

end
end Go.Proofs.YtjgnpmdbkgeakaaDoor.Th
