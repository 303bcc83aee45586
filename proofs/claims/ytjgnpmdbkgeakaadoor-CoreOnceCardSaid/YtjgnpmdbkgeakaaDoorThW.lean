/- THEORY, part W: functions that get a box for the time of a call. No condition. -/
import Derived.Test.YtjgnpmdbkgeakaaDoorThS
import Derived.Test.YtjgnpmdbkgeakaaDoorThV
set_option linter.unusedVariables false
set_option linter.unusedSimpArgs false
namespace Go.Proofs.YtjgnpmdbkgeakaaDoor.Th
open Go Go.RowKit

section
variable {P : Program} {TI : TEnv} {O : Orc} {L : LOrc} {B : Bd} {N : Nat} {g : Gh} {s : S} {w : World} {a : Act}

/-- own rows in a lent box's cells get tokens -/
theorem newToks {B0 : Bd} : ∀ {cs : List AV} {us : List Value} {own : List (Option Nat)} {j : Nat} {s : S} {g : Gh}, Rel B g s w a N → (∀ i, j ≤ i → s.toks (lentName i) = .abs) →
    cs.length = us.length → own.length = us.length → (∀ k, some k ∈ own → Fresh g s k ∧ ∀ o, ¬ g.pr k o) → (∀ k, B0.mine k → B.mine k) →
    (∀ (i : Nat) (x : AV) (u : Value) (b : Option Nat), cs[i]? = some x → us[i]? = some u → own[i]? = some b → OwnC B0 w g.pr x u b) → (∀ (i i' k : Nat), own[i]? = some (some k) → own[i']? = some (some k) → i = i') →
    ∃ g', Rel B g' (s.puts (lentWrs cs j)) w a N ∧ Keeps w g w g' ∧ g'.β = g.β ∧ All2 (LR w g') (lentCells cs j) us ∧ (s.puts (lentWrs cs j)).boxes = s.boxes := by
  intro cs
  induction cs with
  | nil =>
    intro us own j s g h ht hl hb hf hB ho hi
    have hu : us = [] := List.eq_nil_of_length_eq_zero (by simpa using hl.symm)
    subst hu
    exact ⟨g, h, Keeps.refl _ _, rfl, trivial, rfl⟩
  | cons v cs ih =>
    intro us own j s g h ht hl hb hf hB ho hi
    cases us with
    | nil => simp at hl
    | cons u us =>
      cases own with
      | nil => simp at hb
      | cons b own =>
        have h0 := ho 0 v u b rfl rfl rfl
        have hi' : ∀ (i i' k : Nat), own[i]? = some (some k) → own[i']? = some (some k) → i = i' := fun i i' k e e' => by
          have := hi (i + 1) (i' + 1) k (by simpa using e) (by simpa using e'); omega
        by_cases hown : ∃ T l, v = .own T l
        · obtain ⟨T, l, rfl⟩ := hown
          obtain ⟨tg, ok, rfl, hblk, hlt⟩ := h0
          have hfb : ∀ k, tg.blk = some k → Fresh g s k ∧ ∀ o, ¬ g.pr k o := by
            intro k hk
            exact hf k (by rw [← hblk, hk]; simp)
          obtain ⟨h2, k2⟩ := h.newTok (sh := false) (T := T) (l := l) (tg := tg) (ht j (Nat.le_refl _)) (fun k hk => (hfb k hk).1) (tokOK_keeps ok hB (fun _ _ p => ⟨p, rfl⟩) fun k hk => (hfb k hk).2)
          obtain ⟨q1, _, q2, _⟩ := ok.reads.out
          have hone : tg.val.oneCell' = true := by rw [q2]; rfl
          obtain ⟨g', r1, r2, r3, r4, r5⟩ := ih (g := { g with τ := upd g.τ (lentName j) (some tg) }) (us := us) (own := own) (j := j + 1) h2 (by
              intro i hi
              have e : lentName i ≠ lentName j := by unfold lentName Pos.name; simp only []; omega
              simp only [S.put, upd_ne _ _ _ _ e]
              exact ht i (by omega)) (by simpa using hl) (by simpa using hb) (by
              intro k hk
              obtain ⟨f1, f2⟩ := hf k (List.mem_cons_of_mem _ hk)
              refine ⟨⟨f1.β, fun t tg' hl' e' hb' => ?_⟩, f2⟩
              by_cases e : t = lentName j
              · subst e
                simp only [upd_same] at e'; cases e'
                obtain ⟨i, hi0⟩ := List.getElem?_of_mem hk
                have := hi 0 (i + 1) k (by simp [← hblk, hb']) (by simpa using hi0)
                omega
              · simp only [S.put, upd_ne _ _ _ _ e] at hl' e'
                exact f1.τ t tg' hl' e' hb') hB
            (fun i x u' b' hx hu' hb' => ho (i + 1) x u' b' (by simpa using hx) (by simpa using hu') (by simpa using hb')) hi'
          exact ⟨g', r1, k2.trans r2, r3, ⟨⟨tg, r2.τ _ _ (upd_same _ _ _), rfl, hone⟩, r4⟩, r5⟩
        · have hpv : PV w g.pr v u ∧ b = none := by
            cases v <;> first | exact h0 | exact absurd ⟨_, _, rfl⟩ hown
          obtain ⟨g', r1, r2, r3, r4, r5⟩ := ih (us := us) (own := own) (j := j + 1) h (fun i hi => ht i (by omega)) (by simpa using hl) (by simpa using hb)
            (fun k hk => hf k (List.mem_cons_of_mem _ hk)) hB
            (fun i x u' b' hx hu' hb' => ho (i + 1) x u' b' (by simpa using hx) (by simpa using hu') (by simpa using hb')) hi'
          have e1 : lentWrs (v :: cs) j = lentWrs cs (j + 1) := by cases v <;> first | rfl | exact absurd ⟨_, _, rfl⟩ hown
          have e2 : lentCells (v :: cs) j = v :: lentCells cs (j + 1) := by cases v <;> first | rfl | exact absurd ⟨_, _, rfl⟩ hown
          rw [e1, e2]
          exact ⟨g', r1, r2, r3, ⟨(hpv.1.keeps r2.pr).LR, r4⟩, r5⟩

/-- where a call with a lent box starts -/
theorem startL_rel {pr : Nat → Nat → Prop} {vs cs : List AV} {us : List Value} {n kb : Nat} {own : List (Option Nat)} (hp : ∀ k o, pr k o → k < w.heap.size) (hgl : GlobOK w pr)
    (hbox : BoxC (bdL w.heap.size pr kb own) w pr kb cs own) (ha : All2 (ARg w pr kb) vs us) (hn : vs.length ≤ n) (hN : n ≤ lentBox) :
    ∃ g, Rel (bdL w.heap.size pr kb own) g (startL vs cs) w { tmps := us.toArray ++ Array.replicate (n - us.toArray.size) undef, defers := [] } n := by
  obtain ⟨⟨cus, el, fr, r1, r2, r3, r4⟩, f1, f2, f3, f4⟩ := hbox
  have hlen := ha.len
  let g0 : Gh := ⟨pr, fun b => if b = lentBox then some kb else none, fun _ => none⟩
  have hkb : (bdL w.heap.size pr kb own).mine kb := .inr (.inl rfl)
  have h0 : Rel (bdL w.heap.size pr kb own) g0 (lentBase vs cs) w { tmps := us.toArray ++ Array.replicate (n - us.toArray.size) undef, defers := [] } n := by
    refine ⟨rfl, by simp; omega, Nat.le_refl _, ?_, hp, ?_, ?_, ?_, fun _ _ => rfl, (fun t sh T l h => by simp [lentBase] at h), (fun t t' tg tg' k h => by simp [lentBase, Tok.isLive] at h), (fun t tg k b h => by simp [lentBase, Tok.isLive] at h), fun _ _ _ => Iff.rfl, ⟨fun b k e => ?_, hgl⟩⟩
    · intro t
      show VR w _ (vs.getD t .undef) _
      rcases Nat.lt_or_ge t vs.length with hlt | hge
      · obtain ⟨u, hu, hr⟩ := ha.get t vs[t] (by simp [hlt])
        have e1 : vs.getD t .undef = vs[t] := by simp [hlt]
        have e2 : (us.toArray ++ Array.replicate (n - us.toArray.size) undef).getD t undef = u := by
          have hlt2 : t < us.length := by omega
          rw [Array.getD_eq_getD_getElem?, Array.getElem?_append_left (by simpa using hlt2)]
          simp [hu]
        rw [e1, e2]
        rcases hr with ⟨off, e, rfl⟩ | hr
        · rw [e]; exact ⟨kb, by simp [g0], rfl⟩
        · exact VR_of_LR hr.LR
      · have e1 : vs.getD t .undef = .undef := by simp [List.getD, List.getElem?_eq_none hge]
        rw [e1]
        exact VR_of_LR (show LR w _ .undef _ from trivial)
    · intro b e
      show (if b = lentBox then some kb else none) = none
      split
      · rename_i eb; subst eb; simp [lentBase] at e
      · rfl
    · intro b cs' e
      by_cases eb : b = lentBox
      · subst eb
        simp only [lentBase, beq_self, cond_true, Option.some.injEq] at e
        subst e
        exact ⟨kb, by simp [g0], hkb, fun o p => absurd p (f1 o), cus, el, fr, r1, r2, blanks_LR (g := g0) r3 (by rw [f2, r3]) r4⟩
      · have : Nat.beq b lentBox = false := by
          cases hq : Nat.beq b lentBox with
          | false => rfl
          | true => exact absurd (Nat.eq_of_beq_eq_true hq) eb
        simp only [lentBase, this, cond_false] at e; cases e
    · intro b b' k e e'
      have : ∀ b, g0.β b = some k → b = lentBox := by
        intro b e
        simp only [g0] at e
        split at e
        · assumption
        · cases e
      rw [this b e, this b' e']
    · simp only [bdL] at e
      split at e
      · rename_i eb; subst eb
        refine ⟨hN, fun _ => ?_⟩
        simp only [g0, if_true]; exact e
      · cases e
  have hfresh : ∀ k, some k ∈ own → Fresh g0 (lentBase vs cs) k ∧ ∀ o, ¬ g0.pr k o := by
    intro k hk
    refine ⟨⟨fun b e => ?_, fun t tg hl => by simp [lentBase, Tok.isLive] at hl⟩, ?_⟩
    · simp only [g0] at e
      split at e
      · cases e; exact f4 kb hk rfl
      · cases e
    · obtain ⟨i, hi⟩ := List.getElem?_of_mem hk
      have hlt : i < own.length := (List.getElem?_eq_some_iff.1 hi).1
      have hlt2 : i < cs.length := by omega
      have hlt3 : i < cus.toList.length := by omega
      exact (ownC_block (r4 i cs[i] cus.toList[i] (some k) (by simp [hlt2]) (by simp [hlt3]) hi) rfl).2
  obtain ⟨g1, q1, q2, q3, q4, q5⟩ := newToks (B0 := bdL w.heap.size pr kb own) (j := 0) h0 (fun _ _ => rfl) r3 (by rw [f2, r3]) hfresh (fun _ h => h) r4 f3
  have hbx : ((lentBase vs cs).puts (lentWrs cs 0)).boxes lentBox = some (blanks cs) := by rw [q5]; simp [lentBase, beq_self]
  have hβ : g1.β lentBox = some kb := by rw [q3]; simp [g0]
  obtain ⟨q6, _⟩ := q1.setBox (w' := w) hbx hβ ⟨rfl, fun _ _ => rfl⟩ r1 r2 q4 (fun _ _ => rfl) (fun o p => by
    obtain ⟨k5, e5, ok5⟩ := q1.bx _ _ hbx
    rw [hβ] at e5; cases e5
    obtain ⟨v, hv⟩ := ok5.free o p
    exact absurd hv (blanks_nofz r3 (by rw [f2, r3]) r4 o v))
  exact ⟨g1, q6⟩

/-- what lies at a mask's places -/
def OutP (B : Bd) (w : World) (g : Gh) (x : AV) (u : Value) (b : Option Nat) : Prop := OwnC B w g.pr x u b ∨ (∃ b' o, x = .ptr b' o ∧ b = none ∧ LR w g (.ptr b' o) u)

structure OutsM (B : Bd) (w : World) (g : Gh) (s : S) (l : List (Pos × MC)) (v : denL l) (used used' : List Nat) (bs : List (Option Nat)) : Prop where
  len : (outM l v).length = l.length
  blen : bs.length = l.length
  own : ∀ (i : Nat) (x : AV) (q : Pos × MC) (b : Option Nat), (outM l v)[i]? = some x → l[i]? = some q → bs[i]? = some b → ∀ u, VR w g (q.1.get s) u → OutP B w g x u b
  src : ∀ (i k : Nat), bs[i]? = some (some k) → ∃ h tg0, h ∈ used' ∧ h ∉ used ∧ (s.toks h).isLive = true ∧ g.τ h = some tg0 ∧ tg0.blk = some k
  inj : ∀ (i j k : Nat), bs[i]? = some (some k) → bs[j]? = some (some k) → i = j
  mono : ∀ t ∈ used, t ∈ used'

/-- a mask's items of which no row is shared -/
def ownItems : List (Pos × MC) → Bool
  | [] => true
  | (_, .row sh _) :: l => !sh && ownItems l
  | _ :: l => ownItems l

theorem decL_outM (h : Rel B g s w a N) (bs0 : List Nat) : ∀ (l : List (Pos × MC)) {used used' : List Nat} {v : denL l}, ownItems l = true → decL s bs0 l used = some (v, used') → ∃ bs, OutsM B w g s l v used used' bs := by
  intro l
  induction l with
  | nil =>
    intro used used' v _ hd
    simp only [decL] at hd
    cases hd
    exact ⟨[], rfl, rfl, fun i x q b h => by simp [outM] at h, fun i k h => by simp at h, fun i j k h => by simp at h, fun _ h => h⟩
  | cons q l ih =>
    intro used used' v ho hd
    obtain ⟨p, m⟩ := q
    cases m with
    | ptr b0 o0 =>
      simp only [ownItems] at ho
      simp only [decL] at hd
      cases h1 : decP bs0 b0 o0 (p.get s) with
      | false => rw [h1] at hd; cases hd
      | true =>
        rw [h1] at hd
        simp only [] at hd
        obtain ⟨bs, K⟩ := ih ho hd
        have hpos : p.get s = .ptr b0 o0 := by
          unfold decP at h1
          split at h1
          · rename_i b' o' e
            cases hb : Nat.beq b' b0 with
            | false => rw [hb] at h1; cases h1
            | true =>
              rw [hb] at h1
              simp only [cond_true] at h1
              cases hoo : Nat.beq o' o0 with
              | false => rw [hoo] at h1; cases h1
              | true => rw [e, Nat.eq_of_beq_eq_true hb, Nat.eq_of_beq_eq_true hoo]
          · cases h1
        refine ⟨none :: bs, by simp [outM, K.len], by simp [K.blen], ?_, ?_, ?_, K.mono⟩
        · intro i x' q b e1 e2 e3 u hu
          cases i with
          | zero =>
            simp [outM] at e1 e2 e3; subst e1; subst e2; subst e3
            simp only [hpos] at hu
            exact .inr ⟨b0, o0, rfl, rfl, hu⟩
          | succ i => simp [outM] at e1 e2 e3; exact K.own i x' q b e1 e2 e3 u hu
        · intro i k e
          cases i with
          | zero => simp at e
          | succ i => simp at e; exact K.src i k e
        · intro i j k e e'
          cases i with
          | zero => simp at e
          | succ i =>
            cases j with
            | zero => simp at e'
            | succ j => simp at e e'; rw [K.inj i j k e e']
    | val T =>
      simp only [ownItems] at ho
      simp only [decL] at hd
      cases h1 : decV s T (p.get s) with
      | none => rw [h1] at hd; cases hd
      | some x =>
        rw [h1] at hd
        simp only [] at hd
        cases h2 : decL s bs0 l used with
        | none => rw [h2] at hd; cases hd
        | some y =>
          obtain ⟨y1, y2⟩ := y
          rw [h2] at hd; cases hd
          obtain ⟨bs, K⟩ := ih ho h2
          refine ⟨none :: bs, by simp [outM, K.len], by simp [K.blen], ?_, ?_, ?_, K.mono⟩
          · intro i x' q b e1 e2 e3 u hu
            cases i with
            | zero => simp [outM] at e1 e2 e3; subst e1; subst e2; subst e3; exact .inl (ownC_of_PV (decV_PV h h1 hu))
            | succ i => simp [outM] at e1 e2 e3; exact K.own i x' q b e1 e2 e3 u hu
          · intro i k e
            cases i with
            | zero => simp at e
            | succ i => simp at e; exact K.src i k e
          · intro i j k e e'
            cases i with
            | zero => simp at e
            | succ i =>
              cases j with
              | zero => simp at e'
              | succ j => simp at e e'; rw [K.inj i j k e e']
    | row sh T =>
      simp only [ownItems, Bool.and_eq_true] at ho
      obtain ⟨hsh, ho⟩ := ho
      have hsh : sh = false := by simpa using hsh
      subst hsh
      simp only [decL] at hd
      cases h1 : decR s false T (p.get s) used with
      | none => rw [h1] at hd; cases hd
      | some x =>
        obtain ⟨x1, x2⟩ := x
        rw [h1] at hd
        simp only [] at hd
        cases h2 : decL s bs0 l x2 with
        | none => rw [h2] at hd; cases hd
        | some y =>
          obtain ⟨y1, y2⟩ := y
          rw [h2] at hd; cases hd
          obtain ⟨bs, K⟩ := ih ho h2
          obtain ⟨tg, R1, R2, R3⟩ := decR_ok h h1
          have key : ∀ (j k : Nat), bs[j]? = some (some k) → tg.blk = some k → False := by
            intro j k e1 e2
            obtain ⟨t, tg0, a1, a2, a3, a4, a5⟩ := R1.src k e2
            obtain ⟨t', tg0', b1, b2, b3, b4, b5⟩ := K.src j k e1
            have := h.tinj t t' tg0 tg0' k a3 b3 a4 b4 a5 b5
            subst this
            exact b2 a1
          refine ⟨tg.blk :: bs, by simp [outM, K.len], by simp [K.blen], ?_, ?_, ?_, fun t ht => K.mono t (R2 t ht)⟩
          · intro i x' q b e1 e2 e3 u hu
            cases i with
            | zero =>
              simp [outM] at e1 e2 e3; subst e1; subst e2; subst e3
              obtain ⟨r1, _⟩ := R3 u hu
              obtain ⟨sh, T', l', e, ok⟩ := R1.live
              cases e
              refine .inl ⟨tg, ok, r1, rfl, fun k hk => ?_⟩
              obtain ⟨_, ok2⟩ := ok
              rcases ok2 with ⟨_, e, _⟩ | ⟨k', cap, _, e, r⟩
              · rw [hk] at e; cases e
              · rw [hk] at e; cases e
                obtain ⟨us, el, fr, r1, _⟩ := r.row
                exact (Array.getElem?_eq_some_iff.1 r1).1
            | succ i => simp [outM] at e1 e2 e3; exact K.own i x' q b e1 e2 e3 u hu
          · intro i k e
            cases i with
            | zero =>
              simp at e
              obtain ⟨t, tg0, a1, a2, a3⟩ := R1.src k e
              exact ⟨t, tg0, K.mono t a1, a2, a3⟩
            | succ i =>
              simp at e
              obtain ⟨t, tg0, a1, a2, a3⟩ := K.src i k e
              exact ⟨t, tg0, a1, fun hm => a2 (R2 t hm), a3⟩
          · intro i j k e e'
            cases i with
            | zero =>
              simp at e
              cases j with
              | zero => rfl
              | succ j => simp at e'; exact (key j k e' e).elim
            | succ i =>
              cases j with
              | zero => simp at e'; simp at e; exact (key i k e e').elim
              | succ j => simp at e e'; rw [K.inj i j k e e']

/-- a mask's places: results (plain, or pointers into the lent box), then all cells of the lent box -/
def cellsOKB : Nat → List (Pos × MC) → Bool
  | _, [] => true
  | j, (.cell b j', .val _) :: l => Nat.beq b lentBox && Nat.beq j' j && cellsOKB (j + 1) l
  | j, (.cell b j', .row false _) :: l => Nat.beq b lentBox && Nat.beq j' j && cellsOKB (j + 1) l
  | _, _ => false
def outOKB (TI : TEnv) : List ResultVar → List (Pos × MC) → Bool
  | [], l => cellsOKB 0 l
  | .tmp t :: rs, (.tmp t', .val _) :: l => Nat.beq t t' && outOKB TI rs l
  | .tmp t :: rs, (.tmp t', .ptr b _) :: l => Nat.beq t t' && Nat.beq b lentBox && outOKB TI rs l
  | .cell a t :: rs, (.res a', .val T) :: l => Nat.beq a a' && (match TI t with
    | some i => i.kn.isSt && Nat.beq i.size T.size
    | none => false) && outOKB TI rs l
  | _, _ => false

def boxesOKB (n : Nat) : List (Nat × Nat) → Bool
  | [(b, m)] => Nat.beq b lentBox && Nat.beq m n
  | _ => false

def mskOKB (TI : TEnv) (rs : List ResultVar) (m : Msk) : Bool := outOKB TI rs m.items && boxesOKB (m.items.length - rs.length) m.boxes && ownItems m.items

theorem cellsOKB_get : ∀ {l : List (Pos × MC)} {j : Nat}, cellsOKB j l = true → ∀ (i : Nat) (q : Pos × MC), l[i]? = some q → q.1 = .cell lentBox (j + i) ∧ ((∃ T, q.2 = .val T) ∨ ∃ T, q.2 = .row false T) := by
  intro l
  induction l with
  | nil => intro j _ i q h; simp at h
  | cons x l ih =>
    intro j h i q hi
    have key : ∃ T, (x = (.cell lentBox j, .val T) ∨ x = (.cell lentBox j, .row false T)) ∧ cellsOKB (j + 1) l = true := by
      obtain ⟨p, m⟩ := x
      unfold cellsOKB at h
      split at h
      · rename_i e; cases e
      · rename_i e
        cases e
        simp only [Bool.and_eq_true] at h
        obtain ⟨⟨h1, h2⟩, h3⟩ := h
        rw [Nat.eq_of_beq_eq_true h1, Nat.eq_of_beq_eq_true h2]
        exact ⟨_, .inl rfl, h3⟩
      · rename_i e
        cases e
        simp only [Bool.and_eq_true] at h
        obtain ⟨⟨h1, h2⟩, h3⟩ := h
        rw [Nat.eq_of_beq_eq_true h1, Nat.eq_of_beq_eq_true h2]
        exact ⟨_, .inr rfl, h3⟩
      · cases h
    obtain ⟨T, hx, hl⟩ := key
    cases i with
    | zero =>
      simp only [List.getElem?_cons_zero, Option.some.injEq] at hi
      subst hi
      rcases hx with rfl | rfl
      · exact ⟨rfl, .inl ⟨_, rfl⟩⟩
      · exact ⟨rfl, .inr ⟨_, rfl⟩⟩
    | succ i =>
      simp only [List.getElem?_cons_succ] at hi
      have := ih hl i q hi
      rw [show j + (i + 1) = j + 1 + i by omega]
      exact this

/-- a result and its place, where pointers may be -/
inductive Out2 (TI : TEnv) : ResultVar → Pos × MC → Prop
  | one {r : ResultVar} {q : Pos × MC} (h : Out1 TI r q) (hv : ∃ T, q.2 = .val T) : Out2 TI r q
  | ptr (t o : Nat) : Out2 TI (.tmp t) (.tmp t, .ptr lentBox o)

theorem outOKB_get : ∀ {rs : List ResultVar} {l : List (Pos × MC)}, outOKB TI rs l = true → rs.length ≤ l.length ∧ cellsOKB 0 (l.drop rs.length) = true ∧ ∀ (i : Nat) (r : ResultVar) (q : Pos × MC), rs[i]? = some r → l[i]? = some q → Out2 TI r q := by
  intro rs
  induction rs with
  | nil => intro l h; exact ⟨Nat.zero_le _, h, fun i r q h => by simp at h⟩
  | cons r rs ih =>
    intro l h
    have key : ∃ q l', l = q :: l' ∧ Out2 TI r q ∧ outOKB TI rs l' = true := by
      unfold outOKB at h
      split at h
      · rename_i e; cases e
      · rename_i e
        cases e
        simp only [Bool.and_eq_true] at h
        rw [Nat.eq_of_beq_eq_true h.1]
        exact ⟨_, _, rfl, .one (.val _ _) ⟨_, rfl⟩, h.2⟩
      · rename_i e
        cases e
        simp only [Bool.and_eq_true] at h
        rw [Nat.eq_of_beq_eq_true h.1.1, Nat.eq_of_beq_eq_true h.1.2]
        exact ⟨_, _, rfl, .ptr _ _, h.2⟩
      · rename_i e
        cases e
        simp only [Bool.and_eq_true] at h
        obtain ⟨⟨h1, h2⟩, h3⟩ := h
        have := Nat.eq_of_beq_eq_true h1
        subst this
        split at h2
        · rename_i i hi
          simp only [Bool.and_eq_true] at h2
          exact ⟨_, _, rfl, .one (.res _ _ _ i hi h2.1 (Nat.eq_of_beq_eq_true h2.2)) ⟨_, rfl⟩, h3⟩
        · cases h2
      · cases h
    obtain ⟨q, l', rfl, h1, h2⟩ := key
    obtain ⟨a, b, c⟩ := ih h2
    refine ⟨by simp; omega, by simpa using b, fun i r' q' hr hq => ?_⟩
    cases i with
    | zero => simp at hr hq; subst hr hq; exact h1
    | succ i => exact c i r' q' (by simpa using hr) (by simpa using hq)

theorem cells_kind {T : Ty} : ∀ {x : T.den} {v : AV}, v ∈ T.cells x → (∀ T' m, v ≠ .own T' m) ∧ (∀ b o, v ≠ .ptr b o) := by
  induction T with
  | st f ih => intro x v h; exact ih h
  | cons a b iha ihb => intro x v h; rcases List.mem_append.1 h with h | h <;> first | exact iha h | exact ihb h
  | nil => intro x v h; cases h
  | _ => intro x v h; (have := List.mem_singleton.1 h); subst this; exact ⟨(fun _ _ e => by cases e), (fun _ _ e => by cases e)⟩

theorem av_kind {T : Ty} (x : T.den) : (∀ T' m, T.av x ≠ .own T' m) ∧ (∀ b o, T.av x ≠ .ptr b o) := by
  unfold Ty.av
  split
  · exact ⟨(fun _ _ e => by cases e), (fun _ _ e => by cases e)⟩
  · cases h : T.cells x with
    | nil => exact ⟨(fun _ _ e => by cases e), (fun _ _ e => by cases e)⟩
    | cons v l => exact cells_kind (T := T) (x := x) (by rw [h]; exact .head _)
theorem av_noown {T : Ty} (x : T.den) {T' : Ty} {m : List T'.den} : T.av x ≠ .own T' m := (av_kind x).1 _ _
theorem av_noptr {T : Ty} (x : T.den) {b o : Nat} : T.av x ≠ .ptr b o := (av_kind x).2 _ _

theorem outM_own : ∀ {l : List (Pos × MC)} {v : denL l} {i : Nat} {q : Pos × MC} {T : Ty} {m : List T.den}, (outM l v)[i]? = some (.own T m) → l[i]? = some q → ∃ sh T', q.2 = .row sh T'
  | [], _, _, _, _, _, h, _ => by simp [outM] at h
  | (p, .val T0) :: l, v, i, q, T, m, h, hq => by
    cases i with
    | zero =>
      simp only [outM, List.getElem?_cons_zero, Option.some.injEq] at h
      exact absurd h (av_noown _)
    | succ i => exact outM_own (l := l) (by simpa [outM] using h) (by simpa using hq)
  | (p, .row sh T0) :: l, v, i, q, T, m, h, hq => by
    cases i with
    | zero => simp at hq; subst hq; exact ⟨_, _, rfl⟩
    | succ i => exact outM_own (l := l) (by simpa [outM] using h) (by simpa using hq)
  | (p, .ptr b o) :: l, v, i, q, T, m, h, hq => by
    cases i with
    | zero => simp [outM] at h
    | succ i => exact outM_own (l := l) (by simpa [outM] using h) (by simpa using hq)

theorem outM_ptr : ∀ {l : List (Pos × MC)} {v : denL l} {i : Nat} {q : Pos × MC} {b o : Nat}, (outM l v)[i]? = some (.ptr b o) → l[i]? = some q → q.2 = .ptr b o
  | [], _, _, _, _, _, h, _ => by simp [outM] at h
  | (p, .val T0) :: l, v, i, q, b, o, h, hq => by
    cases i with
    | zero =>
      simp only [outM, List.getElem?_cons_zero, Option.some.injEq] at h
      exact absurd h (av_noptr _)
    | succ i => exact outM_ptr (l := l) (by simpa [outM] using h) (by simpa using hq)
  | (p, .row sh T0) :: l, v, i, q, b, o, h, hq => by
    cases i with
    | zero => simp [outM] at h
    | succ i => exact outM_ptr (l := l) (by simpa [outM] using h) (by simpa using hq)
  | (p, .ptr b' o') :: l, v, i, q, b, o, h, hq => by
    cases i with
    | zero => simp [outM] at h hq; subst hq; simp [h]
    | succ i => exact outM_ptr (l := l) (by simpa [outM] using h) (by simpa using hq)


theorem inA_getB {nr : Nat} {l : List Msk} {s : S} {r : denA l} (h : inA l s = some r) : ∃ (mo : Msk) (y : mo.den), mo ∈ l ∧ mo.dec s = some y ∧ valB nr l r = backOf nr (outM mo.items y) := by
  induction l with
  | nil => cases h
  | cons m l ih =>
    cases l with
    | nil => exact ⟨m, r, .head _, h, rfl⟩
    | cons m' l =>
      unfold inA at h
      cases hd : m.dec s with
      | some v => rw [hd] at h; cases h; exact ⟨m, v, .head _, hd, rfl⟩
      | none =>
        rw [hd] at h
        simp only [] at h
        cases hi : inA (m' :: l) s with
        | none => rw [hi] at h; cases h
        | some e =>
          rw [hi] at h; cases h
          obtain ⟨mo, y, a, b, c⟩ := ih hi
          exact ⟨mo, y, .tail _ a, b, c⟩

theorem outB_val {R : Type} {nr : Nat} {l : List Msk} {r : denA l} {K : AV → Option R} {z : R} (h : outB nr l r K = some z) : K (valB nr l r) = some z := by
  induction l with
  | nil => cases h
  | cons m l ih =>
    cases l with
    | nil => exact h
    | cons m' l =>
      cases r with
      | inl v => exact h
      | inr e => exact ih h

theorem OwnC.VRplain {B : Bd} {pr : Nat → Nat → Prop} {v : AV} {u : Value} (h : OwnC B w pr v u none) (hn : ∀ T l, v ≠ .own T l) : PV w pr v u := by
  cases v <;> first | exact h.1 | exact absurd rfl (hn _ _)

/-- a function that gets a box is what its run tells -/
theorem call_coreL (hm : P.follows .mixedOrders = true) (hT : TIok P TI) (hO : OrcOK O (CallOK P)) {f : FuncId} {fn : Func} {c : Code} (hf : P.funcs[f]? = some fn) (hb : fn.body = some c)
    (hc : codeOK fn.ntmps c = true) (hl : LinksOK P fn.ntmps L c) {R : Type} {K : X → S → Option R} {r0 : R} {s0 : S} (hr : run TI O L c s0 K = some r0) {v : AV}
    (hK : ∀ x s, K x s = some r0 → (x = .ret ∨ x = .norm) ∧ ∃ (mo : Msk) (r : mo.den), mskOKB TI fn.results.toList mo = true ∧ mo.dec s = some r ∧ v = backOf fn.results.toList.length (outM mo.items r))
    {w : World} {pr : Nat → Nat → Prop} {us : List Value} {kb : Nat} {own : List (Option Nat)} (hJ0 : J (bdL w.heap.size pr kb own) w fn.ntmps s0 { tmps := us.toArray ++ Array.replicate (fn.ntmps - us.toArray.size) undef, defers := [] } w) :
    ∃ r cs', v = .back r cs' ∧ Calls P f us.toArray w fun e w' => ∃ ru pr' own', e = .returned ru ∧ BelowB (bdL w.heap.size pr kb own) w w' ∧ (∀ k o, ¬ (bdL w.heap.size pr kb own).mine k → (pr' k o ↔ pr k o)) ∧ (∀ k o, pr' k o → k < w'.heap.size) ∧
      BoxC (bdL w.heap.size pr kb own) w' pr' kb cs' own' ∧ RetL w' pr' kb r ru := by
  obtain ⟨x1, s1, h1, w1⟩ := run_wp hm hT hO (fun _ _ _ h => h) c hc hl _ _ _ _ hr
  obtain ⟨hx1, mo, r, ho, hd0, rfl⟩ := hK x1 s1 h1
  refine ⟨_, _, rfl, ?_⟩
  refine calls_of_wp hf hb (wp_mono (w1 _ _ _ _ hJ0) ?_)
  rintro e a w' ⟨rfl, g0, hrel0, hbel⟩
  have hend : a.defers = [] ∧ ∃ v, (results fn a.tmps).run P w' = .ok v w' ∧ (∃ ru pr' own', Ending.returned v = .returned ru ∧ BelowB (bdL w.heap.size pr kb own) w w' ∧ (∀ k o, ¬ (bdL w.heap.size pr kb own).mine k → (pr' k o ↔ pr k o)) ∧ (∀ k o, pr' k o → k < w'.heap.size) ∧
      BoxC (bdL w.heap.size pr kb own) w' pr' kb ((outM mo.items r).drop fn.results.toList.length) own' ∧ RetL w' pr' kb (ansOf ((outM mo.items r).take fn.results.toList.length)) ru) := by
    refine ⟨hrel0.df, ?_⟩
    unfold mskOKB at ho
    simp only [Bool.and_eq_true] at ho
    obtain ⟨⟨ho, hbo⟩, hown⟩ := ho
    have hd := hd0
    unfold Msk.dec at hd
    cases hbx : boxesOK s1 mo.boxes with
    | false => rw [hbx] at hd; cases hd
    | true =>
      rw [hbx] at hd
      simp only [] at hd
      cases hdl : decL (snapL mo.items s1) (mo.boxes.map (·.1)) mo.items [] with
      | none => rw [hdl] at hd; cases hd
      | some y =>
        obtain ⟨v', used'⟩ := y
        rw [hdl] at hd
        have hvv : r = v' := by simpa using hd.symm
        subst hvv
        clear hd
        obtain ⟨g, hrel⟩ := snapL_rel mo.items hrel0
        obtain ⟨bs, U⟩ := decL_outM hrel _ mo.items hown hdl
        obtain ⟨len1, hcells, hpos⟩ := outOKB_get ho
        obtain ⟨nr, hnr⟩ : ∃ nr, nr = fn.results.toList.length := ⟨_, rfl⟩
        rw [← hnr] at len1 hcells hbo ⊢
        -- the lent box at the end
        obtain ⟨bcs, hbcs, hblen, hnfz⟩ : ∃ bcs, s1.boxes lentBox = some bcs ∧ bcs.length = mo.items.length - nr ∧ bcs.any isFz = false := by
          refine boxesOK_get hbx lentBox _ ?_
          revert hbo
          cases hmb : mo.boxes with
          | nil => intro h; simp [boxesOKB] at h
          | cons p l =>
            cases l with
            | cons _ _ => intro h; obtain ⟨_, _⟩ := p; simp [boxesOKB] at h
            | nil =>
              obtain ⟨b, m⟩ := p
              intro hbo
              simp only [boxesOKB, Bool.and_eq_true] at hbo
              rw [Nat.eq_of_beq_eq_true hbo.1, Nat.eq_of_beq_eq_true hbo.2]
              simp
        have hsb : (snapL mo.items s1).boxes = s1.boxes := (snapL_same mo.items s1).2
        have hbcs2 : (snapL mo.items s1).boxes lentBox = some bcs := by rw [hsb]; exact hbcs
        obtain ⟨k0, hβ, ok⟩ := hrel.bx _ _ hbcs2
        have hk0 : k0 = kb := by
          have := (hrel.ex.lb lentBox kb (by simp [bdL])).2 (by rw [hbcs2]; simp)
          rw [hβ] at this; cases this; rfl
        subst hk0
        obtain ⟨cus, el, fr, r1, r2, r3⟩ := ok.row
        have hcl := r3.len
        -- results
        have hmapM : ∀ f : ResultVar → Sem Value, (∀ t, f (.tmp t) = pure (a.tmps.getD t undef)) → (∀ b t, f (.cell b t) = (do loadVar t (← asAddr (a.tmps.getD b undef)))) →
            ∃ vals : List Value, (fn.results.mapM f).run P w' = .ok vals.toArray w' ∧ vals.length = nr ∧ ∀ (i : Nat) (u : Value) (q : Pos × MC), vals[i]? = some u → (mo.items.take nr)[i]? = some q → VR w' g (q.1.get (snapL mo.items s1)) u := by
          intro f hf hf2
          obtain ⟨vals, v1, v2, v3⟩ := run_resultsL (P := P) (w := w') (f := f) (rs := fn.results.toList) (l := mo.items.take nr) (V := fun q u => VR w' g (q.1.get (snapL mo.items s1)) u) (by rw [List.length_take]; omega) (fun i r q e1 e2 => by
            have hi : i < nr := by have := (List.getElem?_eq_some_iff.1 e2).1; simp at this; omega
            have e2' : mo.items[i]? = some q := by rw [List.getElem?_take_of_lt hi] at e2; exact e2
            rcases hpos i r q e1 e2' with ⟨h1, _⟩ | ⟨t, o⟩
            · exact run_res hT hrel h1 (fun T e => decL_item hdl i q.1 T (by rw [e2', ← e])) hf hf2
            · exact ⟨_, by rw [hf]; rfl, hrel.tm t⟩)
          refine ⟨vals, ?_, by rw [v2]; simp; omega, v3⟩
          rw [Array.mapM_eq_mapM_toList]
          show ((List.mapM f fn.results.toList) >>= fun x => pure x.toArray).run P w' = _
          rw [Sem.run_bind, v1]
          rfl
        obtain ⟨vals, hmapM, hvals, hval⟩ := hmapM (fun
          | .tmp t => pure (a.tmps.getD t undef)
          | .cell b t => do loadVar t (← asAddr (a.tmps.getD b undef))) (fun _ => rfl) (fun _ _ => rfl)
        have hlenO := U.len
        have hlenB := U.blen
        have hkbmine : ∀ o, ¬ g.pr k0 o := fun o p => by
          obtain ⟨v, hv⟩ := ok.free o p
          exact absurd rfl (List.any_eq_false.1 hnfz _ (List.mem_of_getElem? hv))
        have hres : ∀ (i : Nat) (x : AV) (u : Value), i < nr → (outM mo.items r)[i]? = some x → vals[i]? = some u → ARg w' g.pr k0 x u := by
          intro i x u hi e1 e2
          have hil : i < mo.items.length := by omega
          have hq : mo.items[i]? = some mo.items[i] := by simp [hil]
          have hbi : bs[i]? = some bs[i] := by simp [show i < bs.length by omega]
          have hv := hval i u mo.items[i] e2 (by rw [List.getElem?_take_of_lt hi]; exact hq)
          have hir : i < fn.results.toList.length := by omega
          have hO2 := hpos i fn.results.toList[i] mo.items[i] (by simp [hir]) hq
          rcases U.own i x mo.items[i] bs[i] e1 hq hbi u hv with h | ⟨b', o, rfl, _, hlr⟩
          · by_cases hx : ∃ T l, x = .own T l
            · obtain ⟨T, l, rfl⟩ := hx
              exfalso
              have hrow : ∃ sh T', mo.items[i].2 = .row sh T' := outM_own e1 hq
              obtain ⟨sh, T', hrow⟩ := hrow
              revert hrow hO2
              generalize mo.items[i] = q
              generalize fn.results.toList[i] = rr
              intro hO2 hrow
              cases hO2 with
              | one _ hv => obtain ⟨T2, e⟩ := hv; rw [e] at hrow; cases hrow
              | ptr t o => cases hrow
            · right
              cases x <;> first | exact h.1 | exact absurd ⟨_, _, rfl⟩ hx
          · obtain ⟨k, e, e'⟩ := hlr
            have hpt : mo.items[i].2 = .ptr b' o := outM_ptr e1 hq
            have hb' : b' = lentBox := by
              revert hpt hO2
              generalize mo.items[i] = q
              generalize fn.results.toList[i] = rr
              intro hO2 hpt
              cases hO2 with
              | one _ hv => obtain ⟨T2, e⟩ := hv; rw [e] at hpt; cases hpt
              | ptr t o' => cases hpt; rfl
            subst hb'
            rw [hβ] at e; cases e
            exact .inl ⟨o, rfl, e'⟩
        refine ⟨if h : vals.toArray.size = 1 then vals.toArray[0] else .tuple vals.toArray, ?_, ?_⟩
        · unfold results
          rw [Sem.run_bind]
          exact congrArg (fun r => Result.andThen r (fun (vs : Array Value) w' => (pure (if h : vs.size = 1 then vs[0] else .tuple vs) : Sem Value).run P w')) hmapM
        · refine ⟨_, g.pr, bs.drop nr, rfl, hbel, hrel.prB, hrel.prlt, ?_, ?_⟩
          · refine ⟨⟨cus, el, fr, r1, r2, by rw [List.length_drop, hlenO, ← hcl, hblen], fun i x u b e1 e2 e3 => ?_⟩, hkbmine, by rw [List.length_drop, List.length_drop, hlenO, hlenB], ?_, ?_⟩
            · rw [List.getElem?_drop] at e1 e3
              have hil : nr + i < mo.items.length := by rw [← hlenO]; exact (List.getElem?_eq_some_iff.1 e1).1
              have hq : mo.items[nr + i]? = some mo.items[nr + i] := by simp [hil]
              have hcg := cellsOKB_get hcells i mo.items[nr + i] (by rw [List.getElem?_drop]; exact hq)
              obtain ⟨hpos1, hval1⟩ := hcg
              rw [Nat.zero_add] at hpos1
              have hv : VR w' g (mo.items[nr + i].1.get (snapL mo.items s1)) u := by
                rw [hpos1]
                show VR w' g (match (snapL mo.items s1).boxes lentBox with
                  | some cs => cs.getD i .undef
                  | none => .undef) u
                rw [hbcs2]
                have hib : i < bcs.length := by omega
                obtain ⟨u', hu', hlr⟩ := r3.get i bcs[i] (by simp [hib])
                rw [e2] at hu'; cases hu'
                have : bcs.getD i .undef = bcs[i] := by simp [hib]
                simp only [this]
                exact VR_of_LR hlr
              rcases U.own (nr + i) x _ b e1 hq e3 u hv with h | ⟨b', o, rfl, _, _⟩
              · exact h
              · exfalso
                have hpt := outM_ptr e1 hq
                rcases hval1 with ⟨T, e⟩ | ⟨T, e⟩ <;> rw [e] at hpt <;> cases hpt
            · intro i j k e1 e2
              rw [List.getElem?_drop] at e1 e2
              have := U.inj _ _ _ e1 e2
              omega
            · intro k hk e
              obtain ⟨i, hi⟩ := List.getElem?_of_mem hk
              rw [List.getElem?_drop] at hi
              obtain ⟨h, tg0, _, _, q3, q4, q5⟩ := U.src _ _ hi
              exact hrel.tbx h tg0 k lentBox q3 q4 q5 (by rw [hβ, e])
          · have hlt : ((outM mo.items r).take nr).length = nr := by rw [List.length_take, hlenO]; omega
            by_cases h1 : vals.length = 1
            · obtain ⟨u, rfl⟩ := List.length_eq_one_iff.1 h1
              have hnr1 : nr = 1 := by rw [← hvals]; rfl
              cases hol : (outM mo.items r).take nr with
              | nil => rw [hol] at hlt; simp at hlt; omega
              | cons x xs =>
                cases xs with
                | cons _ _ => rw [hol] at hlt; simp at hlt; omega
                | nil =>
                  have hx0 : (outM mo.items r)[0]? = some x := by
                    have : ((outM mo.items r).take nr)[0]? = some x := by rw [hol]; rfl
                    rw [List.getElem?_take_of_lt (by omega)] at this; exact this
                  have := hres 0 x u (by omega) hx0 rfl
                  show RetL w' g.pr k0 x u
                  unfold RetL
                  split
                  · rename_i vs
                    rcases this with ⟨_, e, _⟩ | h | ⟨_, _, e, _⟩
                    · cases e
                    · exact h.elim
                    · cases e
                  · exact this
            · rw [dif_neg (by simpa using h1)]
              have hne : ((outM mo.items r).take nr).length ≠ 1 := by rw [hlt, ← hvals]; exact h1
              have : ansOf ((outM mo.items r).take nr) = .tup ((outM mo.items r).take nr) := by
                unfold ansOf
                split
                · rename_i e; rw [e] at hne; simp at hne
                · rfl
              rw [this]
              refine ⟨vals, rfl, All2.of_get (by rw [hlt, hvals]) fun i x u e1 e2 => ?_⟩
              have hi : i < nr := by rw [← hlt]; exact (List.getElem?_eq_some_iff.1 e1).1
              rw [List.getElem?_take_of_lt hi] at e1
              exact hres i x u hi e1 e2
  rcases hx1 with rfl | rfl
  · exact hend
  · exact hend

theorem call_ofL (hm : P.follows .mixedOrders = true) (hT : TIok P TI) (hO : OrcOK O (CallOK P)) {f : FuncId} {fn : Func} {c : Code} (hf : P.funcs[f]? = some fn) (hb : fn.body = some c) (hname : (fn.name == "runtime.NumGoroutine") = false)
    (hc : codeOK fn.ntmps c = true) (hl : LinksOK P fn.ntmps L c) {mi : Msk} {ms : List Msk} (hi : mi.ok = true) {na : Nat} (hn : na ≤ fn.ntmps) (hN : fn.ntmps ≤ lentBox) (ho : ms.all (mskOKB TI fn.results.toList) = true)
    {vs cs : List AV} {x : mi.den} {r : denA ms} (hlen : vs.length = na) (hx : mi.dec (startL vs cs) = some x) (hr : runA TI O L c mi ms x = some r) : CallOK P f (vs ++ [.lent cs]) (valB fn.results.toList.length ms r) := by
  have hK : ∀ (x : X) (s : S), endA ms x s = some r → (x = .ret ∨ x = .norm) ∧ ∃ (mo : Msk) (y : mo.den), mskOKB TI fn.results.toList mo = true ∧ mo.dec s = some y ∧ valB fn.results.toList.length ms r = backOf fn.results.toList.length (outM mo.items y) := by
    intro x s h
    have key : ∀ h : inA ms s = some r, ∃ (mo : Msk) (y : mo.den), mskOKB TI fn.results.toList mo = true ∧ mo.dec s = some y ∧ valB fn.results.toList.length ms r = backOf fn.results.toList.length (outM mo.items y) := fun h => by
      obtain ⟨mo, y, a, b, c⟩ := inA_getB h
      exact ⟨mo, y, List.all_eq_true.1 ho mo a, b, c⟩
    cases x with
    | ret => exact ⟨.inl rfl, key h⟩
    | norm => exact ⟨.inr rfl, key h⟩
    | exit i => cases h
    | goto l => cases h
  obtain ⟨x1, s1, h1, _⟩ := run_wp hm hT hO (fun _ _ _ h => h) c hc hl _ _ _ _ hr
  obtain ⟨_, mo, y, _, _, e⟩ := hK x1 s1 h1
  refine .inr (.inl ⟨vs, cs, _, _, rfl, e, ⟨fn, hf, hname, by rw [hb]; rfl⟩, fun w pr us kb own hp hgl hbox ha => ?_⟩)
  obtain ⟨g, h0⟩ := startL_rel (n := fn.ntmps) hp hgl hbox ha (by omega) hN
  obtain ⟨r', cs', e', hcall⟩ := call_coreL hm hT hO hf hb hc hl hr hK (Msk.dec_J hi hx ⟨_, h0, BelowB.refl _ _⟩)
  rw [e] at e'
  unfold backOf at e'
  cases e'
  exact hcall

theorem splitLent_eq : ∀ {args vs cs : List AV}, splitLent args = some (vs, cs) → args = vs ++ [.lent cs] := by
  intro args
  induction args with
  | nil => intro vs cs h; cases h
  | cons a args ih =>
    intro vs cs h
    by_cases ha : args = [] ∧ ∃ c, a = .lent c
    · obtain ⟨rfl, c, rfl⟩ := ha
      simp only [splitLent, Option.some.injEq, Prod.mk.injEq] at h
      obtain ⟨rfl, rfl⟩ := h
      rfl
    · have h' : (match splitLent args with
        | some (x, cs) => some (a :: x, cs)
        | none => none) = some (vs, cs) := by
        cases args with
        | nil => cases a <;> first | exact h | exact absurd ⟨rfl, _, rfl⟩ ha
        | cons b l => cases a <;> exact h
      cases hs : splitLent args with
      | none => rw [hs] at h'; cases h'
      | some y =>
        obtain ⟨x, c⟩ := y
        rw [hs] at h'
        simp only [Option.some.injEq, Prod.mk.injEq] at h'
        obtain ⟨rfl, rfl⟩ := h'
        rw [ih hs]; rfl

theorem orc_addL {k na nr : Nat} {mi : Msk} {ms : List Msk} {F : mi.den → Option (denA ms)} (hF : ∀ (vs cs : List AV) (x : mi.den) (r : denA ms), vs.length = na → mi.dec (startL vs cs) = some x → F x = some r → CallOK P k (vs ++ [.lent cs]) (valB nr ms r)) (hO : OrcOK O (CallOK P)) :
    OrcOK (fun R f args K => bif Nat.beq f k then callB mi na nr ms F args K else O R f args K) (CallOK P) := by
  intro R f args K r h
  cases hk : Nat.beq f k with
  | false => simp only [hk, cond_false] at h; exact hO R f args K r h
  | true =>
    simp only [hk, cond_true] at h
    have := Nat.eq_of_beq_eq_true hk
    subst this
    unfold callB at h
    cases hsp : splitLent args with
    | none => rw [hsp] at h; cases h
    | some y =>
      obtain ⟨vs, cs⟩ := y
      rw [hsp] at h
      simp only [] at h
      cases hlen : Nat.beq vs.length na with
      | false => rw [hlen] at h; cases h
      | true =>
        rw [hlen] at h
        simp only [cond_true] at h
        obtain ⟨x, hx, h⟩ := obind_some h
        obtain ⟨r', hr, h⟩ := obind_some h
        rw [splitLent_eq hsp]
        exact ⟨_, hF vs cs x r' (Nat.eq_of_beq_eq_true hlen) hx hr, outB_val h⟩

end
end Go.Proofs.YtjgnpmdbkgeakaaDoor.Th
