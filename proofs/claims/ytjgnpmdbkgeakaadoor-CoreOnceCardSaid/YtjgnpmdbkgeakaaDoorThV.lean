/- THEORY, part V: calls that lend a box. No condition. -/
import Derived.Test.YtjgnpmdbkgeakaaDoorThN
set_option linter.unusedVariables false
set_option linter.unusedSimpArgs false
namespace Go.Proofs.YtjgnpmdbkgeakaaDoor.Th
open Go Go.RowKit

section
variable {P : Program} {TI : TEnv} {C : FuncId → List AV → AV → Prop} {Rd : Rs → Prop} {B : Bd} {N : Nat} {g g' : Gh} {s : S} {w w' : World} {a : Act} {o : Oper} {ws : List Wr}

/-- a lent block comes back -/
theorem Rel.lendBack (h : Rel B g s w a N) {b kb : Nat} {cs cs' : List AV} (hb : s.boxes b = some cs) (hβ : g.β b = some kb) (hno : ∀ o, ¬ g.pr kb o) {own : List (Option Nat)} (hf : ∀ k, some k ∈ own → Fresh g s k ∧ B.mine k ∧ ∀ o, ¬ g.pr k o)
    (hbel : BelowB (bdL w.heap.size g.pr kb own) w w') {pr' : Nat → Nat → Prop} (hp : ∀ k o, ¬ (bdL w.heap.size g.pr kb own).mine k → (pr' k o ↔ g.pr k o)) (hlt : ∀ k o, pr' k o → k < w'.heap.size) (hkb : ∀ o, ¬ pr' kb o)
    {us : Array Value} {e : TypeId} {fr : Nat × Nat} (hr : w'.heap[kb]? = some (.cells us e fr)) (ht : Thawed fr us.size) (hc : All2 (LR w' { g with pr := pr' }) cs' us.toList) :
    Rel B { g with pr := pr' } (s.put (.box b cs')) w' a N ∧ Keeps w g w' { g with pr := pr' } := by
  obtain ⟨k0, e0, ok⟩ := h.bx b cs hb
  rw [hβ] at e0; cases e0
  have hnm : ∀ k, k < w.heap.size → k ≠ kb → (∀ q, some q ∈ own → q ≠ k) → ¬ (bdL w.heap.size g.pr kb own).mine k := by
    rintro k h1 h2 h3 (h4 | h4 | h4)
    · have : w.heap.size ≤ k := h4; omega
    · exact h2 h4
    · exact h3 k h4 rfl
  have hnp : ∀ k o, g.pr k o → ¬ (bdL w.heap.size g.pr kb own).mine k := fun k o p =>
    hnm k (h.prlt k o p) (fun e => hno o (e ▸ p)) (fun q hq e => (hf q hq).2.2 o (e ▸ p))
  have hk : Keeps w g w' { g with pr := pr' } :=
    ⟨fun k o p => ⟨(hp k o (hnp k o p)).2 p, cell_heap (hbel.block k (hnp k o p)) o⟩, fun _ _ x => x, fun _ _ x => x⟩
  have lt_of : ∀ {k : Nat} {o : Obj}, w.heap[k]? = some o → k < w.heap.size := fun e => (Array.getElem?_eq_some_iff.1 e).1
  refine ⟨⟨h.df, h.nt, Nat.le_trans h.hB hbel.size, fun t => (h.tm t).keeps hk, hlt, ?_, ?_, h.binj, h.tk0, ?_, h.tinj, h.tbx, ?_, h.ex.keep hk (fun b' hb' => ?_)⟩, hk⟩
  · intro b' e'
    by_cases eb : b' = b
    · subst eb; simp [S.put, upd_same] at e'
    · simp only [S.put, upd_ne _ _ _ _ eb] at e'; exact h.bx0 b' e'
  · intro b' cs2 hb'
    by_cases eb : b' = b
    · subst eb
      simp only [S.put, upd_same] at hb'; cases hb'
      exact ⟨kb, hβ, ok.above, fun o p => absurd p (hkb o), us, e, fr, hr, ht, hc⟩
    · simp only [S.put, upd_ne _ _ _ _ eb] at hb'
      obtain ⟨i, ei, ab, free, us2, el, f, r1, r2, r3⟩ := h.bx b' cs2 hb'
      have hn := hnm i (lt_of r1) (fun e' => eb (h.binj b' b kb (by rw [ei, e']) hβ)) (fun q hq e' => (hf q hq).1.β b' (by rw [ei, e']))
      exact ⟨i, ei, ab, fun o p => free o ((hp i o hn).1 p), us2, el, f, (hbel.block i hn).trans r1, r2, r3.imp fun _ _ => LR.keeps hk⟩
  · intro t sh T l hts
    have hts' : s.toks t = .live sh T l := hts
    obtain ⟨tg, et, ez, r⟩ := h.tk t sh T l hts'
    refine ⟨tg, et, ez, r.imp id ?_⟩
    rintro ⟨i, cap, a1, a2, a3⟩
    have hl : (s.toks t).isLive = true := by rw [hts']; rfl
    obtain ⟨us2, el, f, r1, r2, r3, r4⟩ := a3.row
    have hn := hnm i (lt_of r1) (fun e' => h.tbx t tg kb b hl et (by rw [a2, e']) hβ) (fun q hq e' => (hf q hq).1.τ t tg hl et (by rw [a2, e']))
    exact ⟨i, cap, a1, a2, a3.above, a3.len, ⟨us2, el, f, (hbel.block i hn).trans r1, r2, r3, r4.keeps hk.pr⟩, fun o p => a3.prlt o ((hp i o hn).1 p), fun e o p => (hp i o hn).2 (a3.prsh e o p), fun e o p => a3.prno e o ((hp i o hn).1 p)⟩
  · intro k o hm
    have hn := hnm k (Nat.lt_of_lt_of_le (Bd.mine_lt hm) h.hB) (fun e => hm (e ▸ ok.above)) (fun q hq e => hm (e ▸ (hf q hq).2.1))
    exact (hp k o hn).trans (h.prB k o hm)
  · by_cases eb : b' = b
    · rw [eb, hb]; simp
    · simpa [S.put, upd_ne _ _ _ _ eb] using hb'

/-! ### what goes out -/
theorem lendArgs_ev {b : Nat} : ∀ {vs : List AV} {us : List Value} {ws W : List Wr} {k : List AV → List Wr → Pg} {g : Gh}, Promo s (s.puts ws) → Rel B g (s.puts ws) w a N → All2 (VR w g) vs us →
    (lendArgs b vs ws k).Ev C Rd s W → ∃ vs' ws' g', (k vs' ws').Ev C Rd s W ∧ Promo s (s.puts ws') ∧ Rel B g' (s.puts ws') w a N ∧ Keeps w g w g' ∧ All2 (fun v u => (∃ off kb, v = .ptr lentBox off ∧ g'.β b = some kb ∧ u = .pointer (some ⟨kb, off, none⟩)) ∨ PV w g'.pr v u) vs' us
  | [], [], ws, W, k, g, hp, h, _, he => ⟨[], ws, g, he, hp, h, Keeps.refl _ _, trivial⟩
  | v :: vs, u :: us, ws, W, k, g, hp, h, hv, he => by
    by_cases hptr : ∃ b' off, v = .ptr b' off
    · obtain ⟨b', off, rfl⟩ := hptr
      simp only [lendArgs] at he
      obtain ⟨hbb, he⟩ := he
      have := Nat.eq_of_beq_eq_true hbb
      subst this
      obtain ⟨kb, hβ, hu⟩ := hv.1
      obtain ⟨vs', ws2, g2, he, hp2, h2, hk2, hv2⟩ := lendArgs_ev hp h hv.2 he
      exact ⟨_, ws2, g2, he, hp2, h2, hk2, .inl ⟨off, kb, rfl, hk2.β _ _ hβ, hu⟩, hv2⟩
    · have he' : (snap1 v ws fun v' ws' => lendArgs b vs ws' fun vs' ws'' => k (v' :: vs') ws'').Ev C Rd s W := by
        cases v <;> first | exact he | exact absurd ⟨_, _, rfl⟩ hptr
      obtain ⟨v', ws1, g1, he, hp1, h1, hk1, hv1⟩ := snap1_ev hp h hv.1 he'
      obtain ⟨vs', ws2, g2, he, hp2, h2, hk2, hv2⟩ := lendArgs_ev hp1 h1 (hv.2.imp fun _ _ => VR.keeps hk1) he
      exact ⟨v' :: vs', ws2, g2, he, hp2, h2, hk1.trans hk2, .inr (hv1.keeps hk2.pr), hv2⟩
  | [], _ :: _, _, _, _, _, _, _, hv, _ => hv.elim
  | _ :: _, [], _, _, _, _, _, _, hv, _ => hv.elim

theorem ownC_plain {B0 : Bd} {pr : Nat → Nat → Prop} {v : AV} {u : Value} (h : PR w pr v u) : OwnC B0 w pr v u none := by
  cases v <;> first | exact ⟨.inl h, rfl⟩ | exact h.elim

theorem LR_plain {v : AV} {u : Value} (hp : isPlainCell v = true) (h : LR w g v u) : PR w g.pr v u := by
  cases v <;> first | exact h | (simp [isPlainCell] at hp)

/-- the cells of a box that is lent: own rows leave -/
theorem lendCells_ev : ∀ {cs : List AV} {us : List Value} {ws W : List Wr} {k : List AV → List Wr → Pg}, Rel B g (s.puts ws) w a N → All2 (LR w g) cs us →
    (lendCells cs ws k).Ev C Rd s W → ∃ (cs' : List AV) (ws' : List Wr) (own : List (Option Nat)), (k cs' ws').Ev C Rd s W ∧ Rel B g (s.puts ws') w a N ∧ (s.puts ws').boxes = (s.puts ws).boxes ∧ cs'.length = us.length ∧ own.length = us.length ∧
      (∀ (i : Nat) (x : AV) (u : Value) (q : Option Nat), cs'[i]? = some x → us[i]? = some u → own[i]? = some q → OwnC B w g.pr x u q) ∧
      (∀ (i j k : Nat), own[i]? = some (some k) → own[j]? = some (some k) → i = j) ∧ (∀ k, some k ∈ own → Fresh g (s.puts ws') k ∧ B.mine k ∧ (∀ o, ¬ g.pr k o) ∧ ∃ t tg, ((s.puts ws).toks t).isLive = true ∧ g.τ t = some tg ∧ tg.blk = some k) ∧
      (∀ t, (s.puts ws').toks t = (s.puts ws).toks t ∨ ((s.puts ws).toks t ≠ .abs ∧ (s.puts ws').toks t = .dead)) ∧
      (∀ (i t : Nat), cs[i]? = some (.ref t) → ∀ (T : Ty) (l : List T.den), s.toks t = .live false T l → (s.puts ws').toks t = .dead ∧ ∀ tg, g.τ t = some tg → own[i]? = some tg.blk) ∧ (∀ (i : Nat) (v : AV), cs[i]? ≠ some (.fz v))
  | [], [], ws, W, k, h, _, he => ⟨[], ws, [], he, h, rfl, rfl, rfl, (fun i x u q h => by simp at h), (fun i j k h => by simp at h), (fun k h => by simp at h), (fun _ => .inl rfl), (fun i t h => by simp at h), fun i v h => by simp at h⟩
  | v :: cs, u :: us, ws, W, k, h, hv, he => by
    by_cases href : ∃ t, v = .ref t
    · obtain ⟨t, rfl⟩ := href
      simp only [lendCells] at he
      obtain ⟨_, he⟩ := he
      cases ht : s.toks t with
      | abs => rw [ht] at he; exact he.elim
      | dead => rw [ht] at he; exact he.elim
      | live sh T l =>
        rw [ht] at he
        obtain ⟨htc, he⟩ := he
        have htc : touches t ws = false := by simpa using htc
        have hlive : (s.puts ws).toks t = .live sh T l := by rw [touches_toks htc, ht]
        obtain ⟨tg, hτ, hu, hone⟩ := hv.1
        cases sh with
        | true =>
          simp only [] at he
          obtain ⟨tg', e1, e2⟩ := h.shared hlive
          rw [hτ] at e1; cases e1
          obtain ⟨cs', ws', own, he, h2, hbx, l1, l2, p1, p2, p3, p4, p5, p6⟩ := lendCells_ev h hv.2 he
          refine ⟨.sl T l :: cs', ws', none :: own, he, h2, hbx, by simp [l1], by simp [l2], ?_, ?_, ?_, p4, fun i t' hi T' l' ht' => ?_, fun i v' hv' => ?_⟩
          · intro i x u' q hx hu' hq
            cases i with
            | zero => simp at hx hu' hq; subst hx hu' hq; exact ⟨.inl (by rw [hu]; exact e2), rfl⟩
            | succ i => exact p1 i x u' q (by simpa using hx) (by simpa using hu') (by simpa using hq)
          · intro i j k' hi hj
            cases i with
            | zero => simp at hi
            | succ i => cases j with
              | zero => simp at hj
              | succ j => rw [p2 i j k' (by simpa using hi) (by simpa using hj)]
          · intro k' hk'
            exact p3 k' (by simpa using hk')
          · cases i with
            | zero =>
              simp only [List.getElem?_cons_zero, Option.some.injEq, AV.ref.injEq] at hi
              subst hi
              rw [ht] at ht'; cases ht'
            | succ i => exact p5 i t' (by simpa using hi) T' l' ht'
          · cases i with
            | zero => simp at hv'
            | succ i => exact p6 i v' (by simpa using hv')
        | false =>
          simp only [] at he
          obtain ⟨tg', e1, hok⟩ := h.tk t false T l hlive
          rw [hτ] at e1; cases e1
          have hkill := h.kill t (by rw [hlive]; simp)
          obtain ⟨cs', ws', own, he, h2, hbx, l1, l2, p1, p2, p3, p4, p5, p6⟩ := lendCells_ev (ws := ws ++ [.tok t .dead]) (by rw [S.puts_one]; exact hkill) hv.2 he
          have hdead : ∀ i, ((s.puts (ws ++ [.tok t .dead])).toks i).isLive = true → i ≠ t ∧ ((s.puts ws).toks i).isLive = true := by
            intro i hi
            rw [S.puts_one] at hi
            by_cases e : i = t
            · subst e; simp [S.put, upd_same, Tok.isLive] at hi
            · simp only [S.put, upd_ne _ _ _ _ e] at hi; exact ⟨e, hi⟩
          have hlv : ((s.puts ws).toks t).isLive = true := by rw [hlive]; rfl
          have hf0 : ∀ k', tg.blk = some k' → Fresh g (s.puts (ws ++ [.tok t .dead])) k' := by
            intro k' hk'
            refine ⟨fun b' e' => h.tbx t tg k' b' hlv hτ hk' e', fun i tgi hi ei hbi => ?_⟩
            obtain ⟨hne, hi'⟩ := hdead i hi
            exact hne (h.tinj i t tgi tg k' hi' hlv ei hτ hbi hk')
          have hmine : ∀ k', tg.blk = some k' → B.mine k' ∧ (∀ o, ¬ g.pr k' o) ∧ k' < w.heap.size := by
            intro k' hk'
            obtain ⟨_, r⟩ := hok
            rcases r with ⟨_, e, _⟩ | ⟨k2, cap, _, e, r⟩
            · rw [hk'] at e; cases e
            · rw [hk'] at e; cases e
              obtain ⟨us2, el, fr, r1, _⟩ := r.row
              exact ⟨r.above, r.prno rfl, (Array.getElem?_eq_some_iff.1 r1).1⟩
          refine ⟨.own T l :: cs', ws', tg.blk :: own, he, h2, hbx.trans (by rw [S.puts_one]; rfl), by simp [l1], by simp [l2], ?_, ?_, ?_, ?_, fun i t' hi T' l' ht' => ?_, fun i v' hv' => ?_⟩
          · intro i x u' q hx hu' hq
            cases i with
            | zero =>
              simp at hx hu' hq; subst hx hu' hq
              exact ⟨tg, hok, hu, rfl, fun k' hk' => (hmine k' hk').2.2⟩
            | succ i => exact p1 i x u' q (by simpa using hx) (by simpa using hu') (by simpa using hq)
          · intro i j k' hi hj
            have hno : ∀ j : Nat, tg.blk = some k' → own[j]? = some (some k') → False := by
              intro j h1 h2
              obtain ⟨_, _, _, t2, tg2, q1, q2, q3⟩ := p3 k' (List.mem_of_getElem? h2)
              exact (hf0 k' h1).τ t2 tg2 q1 q2 q3
            cases i with
            | zero => cases j with
              | zero => rfl
              | succ j => exact (hno j (by simpa using hi) (by simpa using hj)).elim
            | succ i => cases j with
              | zero => exact (hno i (by simpa using hj) (by simpa using hi)).elim
              | succ j => rw [p2 i j k' (by simpa using hi) (by simpa using hj)]
          · intro k' hk'
            rcases List.mem_cons.1 hk' with e | e
            · have hblk : tg.blk = some k' := e.symm
              obtain ⟨m1, m2, m3⟩ := hmine k' hblk
              refine ⟨⟨(hf0 k' hblk).β, fun i tgi hi ei hbi => ?_⟩, m1, m2, t, tg, hlv, hτ, hblk⟩
              rcases p4 i with e5 | ⟨_, e5⟩
              · rw [e5] at hi; exact (hf0 k' hblk).τ i tgi hi ei hbi
              · rw [e5] at hi; cases hi
            · obtain ⟨q1, q2, q3, t2, tg2, q4, q5, q6⟩ := p3 k' e
              exact ⟨q1, q2, q3, t2, tg2, (hdead t2 q4).2, q5, q6⟩
          · intro i
            by_cases e : i = t
            · subst e
              right
              refine ⟨by rw [hlive]; simp, ?_⟩
              rcases p4 i with e5 | ⟨_, e5⟩
              · rw [e5, S.puts_one]; simp [S.put, upd_same]
              · exact e5
            · have e6 : (s.puts (ws ++ [.tok t .dead])).toks i = (s.puts ws).toks i := by rw [S.puts_one]; simp only [S.put, upd_ne _ _ _ _ e]
              have := p4 i
              rw [e6] at this; exact this
          · cases i with
            | zero =>
              simp only [List.getElem?_cons_zero, Option.some.injEq, AV.ref.injEq] at hi
              subst hi
              refine ⟨?_, fun tg' e' => ?_⟩
              · rcases p4 t with e5 | ⟨_, e5⟩
                · rw [e5, S.puts_one]; simp [S.put, upd_same]
                · exact e5
              · rw [hτ] at e'; cases e'; rfl
            | succ i => exact p5 i t' (by simpa using hi) T' l' ht'
          · cases i with
            | zero => simp at hv'
            | succ i => exact p6 i v' (by simpa using hv')
    · have he' : (match isPlainCell v with
        | true => lendCells cs ws fun cs' ws' => k (v :: cs') ws'
        | false => .fail).Ev C Rd s W := by
        cases v <;> first | exact he | exact absurd ⟨_, rfl⟩ href
      cases hpl : isPlainCell v with
      | false => rw [hpl] at he'; exact he'.elim
      | true =>
        rw [hpl] at he'
        obtain ⟨cs', ws', own, he, h2, hbx, l1, l2, p1, p2, p3, p4, p5, p6⟩ := lendCells_ev h hv.2 he'
        refine ⟨v :: cs', ws', none :: own, he, h2, hbx, by simp [l1], by simp [l2], ?_, ?_, ?_, p4, fun i t' hi T' l' ht' => ?_, fun i v' hv' => ?_⟩
        · intro i x u' q hx hu' hq
          cases i with
          | zero => simp at hx hu' hq; subst hx hu' hq; exact ownC_plain (LR_plain hpl hv.1)
          | succ i => exact p1 i x u' q (by simpa using hx) (by simpa using hu') (by simpa using hq)
        · intro i j k' hi hj
          cases i with
          | zero => simp at hi
          | succ i => cases j with
            | zero => simp at hj
            | succ j => rw [p2 i j k' (by simpa using hi) (by simpa using hj)]
        · intro k' hk'
          exact p3 k' (by simpa using hk')
        · cases i with
          | zero =>
            simp only [List.getElem?_cons_zero, Option.some.injEq] at hi
            exact absurd ⟨_, hi⟩ href
          | succ i => exact p5 i t' (by simpa using hi) T' l' ht'
        · cases i with
          | zero =>
            simp only [List.getElem?_cons_zero, Option.some.injEq] at hv'
            rw [hv'] at hpl; cases hpl
          | succ i => exact p6 i v' (by simpa using hv')
  | [], _ :: _, _, _, _, _, hv, _ => hv.elim
  | _ :: _, [], _, _, _, _, hv, _ => hv.elim

/-! ### what comes back -/
theorem backCells_ev {d : Nat} {B0 : Bd} : ∀ {cs : List AV} {us : List Value} {own : List (Option Nat)} {j : Nat} {ws0 W : List Wr} {k : List AV → List Wr → Pg} {g : Gh}, Rel B g (s.puts ws0) w a N → (∀ i, j ≤ i → s.toks (tokL d i) = .abs → (s.puts ws0).toks (tokL d i) = .abs) →
    cs.length = us.length → own.length = us.length → (∀ k, some k ∈ own → Fresh g (s.puts ws0) k ∧ ∀ o, ¬ g.pr k o) → (∀ k, B0.mine k → B.mine k) →
    (∀ (i : Nat) (x : AV) (u : Value) (b : Option Nat), cs[i]? = some x → us[i]? = some u → own[i]? = some b → OwnC B0 w g.pr x u b) → (∀ (i i' k : Nat), own[i]? = some (some k) → own[i']? = some (some k) → i = i') →
    (backCells d cs j ws0 k).Ev C Rd s W → ∃ g' ws' cs', (k cs' ws').Ev C Rd s W ∧ Rel B g' (s.puts ws') w a N ∧ Keeps w g w g' ∧ All2 (LR w g') cs' us ∧ (s.puts ws').boxes = (s.puts ws0).boxes := by
  intro cs
  induction cs with
  | nil =>
    intro us own j ws0 W k g h ht hl hb hf hB ho hi he
    have hu : us = [] := List.eq_nil_of_length_eq_zero (by simpa using hl.symm)
    subst hu
    exact ⟨g, ws0, [], he, h, Keeps.refl _ _, trivial, rfl⟩
  | cons v cs ih =>
    intro us own j ws0 W k g h ht hl hb hf hB ho hi he
    cases us with
    | nil => simp at hl
    | cons u us =>
      cases own with
      | nil => simp at hb
      | cons b own =>
        have h0 := ho 0 v u b rfl rfl rfl
        have hi' : ∀ (i i' k : Nat), own[i]? = some (some k) → own[i']? = some (some k) → i = i' := fun i i' k e e' => by
          have := hi (i + 1) (i' + 1) k (by simpa using e) (by simpa using e'); omega
        by_cases hown : ∃ T l, v = .own T l
        · obtain ⟨T, l, rfl⟩ := hown
          simp only [backCells] at he
          obtain ⟨_, he⟩ := he
          obtain ⟨tg, ok, rfl, hblk, hlt⟩ := h0
          cases htk : s.toks (tokL d j) with
          | dead => rw [htk] at he; exact he.elim
          | live _ _ _ => rw [htk] at he; exact he.elim
          | abs =>
            rw [htk] at he
            have habs : (s.puts ws0).toks (tokL d j) = .abs := ht j (Nat.le_refl _) htk
            have hfb : ∀ k, tg.blk = some k → Fresh g (s.puts ws0) k ∧ ∀ o, ¬ g.pr k o := by
              intro k hk
              exact hf k (by rw [← hblk, hk]; simp)
            obtain ⟨h2, k2⟩ := h.newTok (sh := false) (T := T) (l := l) (tg := tg) habs (fun k hk => (hfb k hk).1) (tokOK_keeps ok hB (fun _ _ p => ⟨p, rfl⟩) fun k hk => (hfb k hk).2)
            obtain ⟨q1, _, q2, _⟩ := ok.reads.out
            have hone : tg.val.oneCell' = true := by rw [q2]; rfl
            obtain ⟨g', ws', cs', r1, r2, r3, r4, r5⟩ := ih (g := { g with τ := upd g.τ (tokL d j) (some tg) }) (us := us) (own := own) (j := j + 1) (ws0 := ws0 ++ [.tok (tokL d j) (.live false T l)]) (by rw [S.puts_one]; exact h2) (by
                intro i hi hti
                rw [S.puts_one]
                have e : tokL d i ≠ tokL d j := by unfold tokL; omega
                simp only [S.put, upd_ne _ _ _ _ e]
                exact ht i (by omega) hti) (by simpa using hl) (by simpa using hb) (by
                intro k hk
                obtain ⟨f1, f2⟩ := hf k (List.mem_cons_of_mem _ hk)
                refine ⟨⟨f1.β, fun t tg' hl' e' hb' => ?_⟩, f2⟩
                rw [S.puts_one] at hl'
                by_cases e : t = tokL d j
                · subst e
                  simp only [upd_same] at e'; cases e'
                  obtain ⟨i, hi0⟩ := List.getElem?_of_mem hk
                  have := hi 0 (i + 1) k (by simp [← hblk, hb']) (by simpa using hi0)
                  omega
                · simp only [S.put, upd_ne _ _ _ _ e] at hl' e'
                  exact f1.τ t tg' hl' e' hb') hB
              (fun i x u' b' hx hu' hb' => ho (i + 1) x u' b' (by simpa using hx) (by simpa using hu') (by simpa using hb')) hi' he
            exact ⟨g', ws', _, r1, r2, k2.trans r3, ⟨⟨tg, r3.τ _ _ (upd_same _ _ _), rfl, hone⟩, r4⟩, by rw [r5, S.puts_one]; rfl⟩
        · have hpv : PV w g.pr v u ∧ b = none := by
            cases v <;> first | exact h0 | exact absurd ⟨_, _, rfl⟩ hown
          have he2 : (match isPlainCell v with
            | true => backCells d cs (j + 1) ws0 fun cs' ws' => k (v :: cs') ws'
            | false => .fail).Ev C Rd s W := by
            cases v <;> first | exact he | exact absurd ⟨_, _, rfl⟩ hown
          cases hpl : isPlainCell v with
          | false => rw [hpl] at he2; exact he2.elim
          | true =>
            rw [hpl] at he2
            obtain ⟨g', ws', cs', r1, r2, r3, r4, r5⟩ := ih (us := us) (own := own) (j := j + 1) (ws0 := ws0) h (fun i hi => ht i (by omega)) (by simpa using hl) (by simpa using hb)
              (fun k hk => hf k (List.mem_cons_of_mem _ hk)) hB
              (fun i x u' b' hx hu' hb' => ho (i + 1) x u' b' (by simpa using hx) (by simpa using hu') (by simpa using hb')) hi' he2
            exact ⟨g', ws', _, r1, r2, r3, ⟨(hpv.1.keeps r3.pr).LR, r4⟩, r5⟩

theorem backV1_LR {b kb : Nat} {v r : AV} {u : Value} (h : backV1 b v = some r) (hβ : g.β b = some kb) (hv : ARg w g.pr kb v u) : LR w g r u := by
  by_cases hptr : ∃ b' off, v = .ptr b' off
  · obtain ⟨b', off, rfl⟩ := hptr
    rcases hv with ⟨off', e, rfl⟩ | hv
    · cases e
      simp only [backV1, beq_self, cond_true, Option.some.injEq] at h
      subst h
      exact ⟨kb, hβ, rfl⟩
    · rcases hv with hv | ⟨_, _, e, _⟩
      · exact hv.elim
      · cases e
  · have hpv : PV w g.pr v u := by
      rcases hv with ⟨off', e, _⟩ | hv
      · exact absurd ⟨_, _, e⟩ hptr
      · exact hv
    have : r = v := by
      cases v with
      | agg cs =>
        simp only [backV1] at h
        cases hc : cs.all isPlainCell <;> rw [hc] at h <;> cases h; rfl
      | ptr b' off => exact absurd ⟨_, _, rfl⟩ hptr
      | _ => simp [backV1, isPlainCell] at h <;> exact h.symm
    rw [this]; exact hpv.LR

theorem backVs_LR {b kb : Nat} (hβ : g.β b = some kb) : ∀ {vs rs : List AV} {us : List Value}, backVs b vs = some rs → All2 (ARg w g.pr kb) vs us → All2 (LR w g) rs us
  | [], rs, [], h, _ => by simp [backVs] at h; subst h; trivial
  | v :: vs, rs, u :: us, h, hv => by
    unfold backVs at h
    cases h1 : backV1 b v with
    | none => rw [h1] at h; simp at h
    | some r =>
      cases h2 : backVs b vs with
      | none => rw [h1, h2] at h; simp at h
      | some rs' =>
        rw [h1, h2] at h
        simp only [Option.some.injEq] at h
        subst h
        exact ⟨backV1_LR h1 hβ hv.1, backVs_LR hβ h2 hv.2⟩
  | [], _, _ :: _, _, hv => hv.elim
  | _ :: _, _, [], _, hv => hv.elim

theorem backV_VR {b kb : Nat} {v r : AV} {u : Value} (h : backV b v = some r) (hβ : g.β b = some kb) (hv : RetL w g.pr kb v u) : VR w g r u := by
  by_cases htup : ∃ vs, v = .tup vs
  · obtain ⟨vs, rfl⟩ := htup
    obtain ⟨us, rfl, hv⟩ := hv
    have h : (match backVs b vs with
      | some vs' => some (AV.tup vs')
      | none => none) = some r := h
    cases h1 : backVs b vs with
    | none => rw [h1] at h; simp at h
    | some rs =>
      rw [h1] at h
      simp only [Option.some.injEq] at h
      subst h
      exact ⟨us, rfl, backVs_LR hβ h1 hv⟩
  · have h' : backV1 b v = some r := by
      cases v <;> first | exact h | exact absurd ⟨_, rfl⟩ htup
    have hv' : ARg w g.pr kb v u := by
      cases v <;> first | exact hv | exact absurd ⟨_, rfl⟩ htup
    exact VR_of_LR (backV1_LR h' hβ hv')

theorem blanks_LR {B0 : Bd} {cs : List AV} {us : List Value} {own : List (Option Nat)} (hl : cs.length = us.length) (hb : own.length = us.length)
    (ho : ∀ (i : Nat) (x : AV) (u : Value) (b : Option Nat), cs[i]? = some x → us[i]? = some u → own[i]? = some b → OwnC B0 w g.pr x u b) : All2 (LR w g) (blanks cs) us := by
  refine All2.of_get (by simp [blanks, hl]) fun i x u hx hu => ?_
  simp only [blanks, List.getElem?_map] at hx
  cases hc : cs[i]? with
  | none => rw [hc] at hx; cases hx
  | some v =>
    rw [hc] at hx
    simp only [Option.map_some, Option.some.injEq] at hx
    subst hx
    have hi : i < own.length := by rw [hb]; exact (List.getElem?_eq_some_iff.1 hu).1
    have h0 := ho i v u own[i] hc hu (by simp [hi])
    by_cases hown : ∃ T l, v = .own T l
    · obtain ⟨T, l, rfl⟩ := hown; trivial
    · have hpv : PV w g.pr v u := by
        cases v <;> first | exact h0.1 | exact absurd ⟨_, _, rfl⟩ hown
      have : blank v = v := by cases v <;> first | rfl | exact absurd ⟨_, _, rfl⟩ hown
      rw [this]; exact hpv.LR

theorem blanks_nofz {B0 : Bd} {pr : Nat → Nat → Prop} {cs : List AV} {us : List Value} {own : List (Option Nat)} (hl : cs.length = us.length) (hb : own.length = us.length)
    (ho : ∀ (i : Nat) (x : AV) (u : Value) (b : Option Nat), cs[i]? = some x → us[i]? = some u → own[i]? = some b → OwnC B0 w pr x u b) : ∀ (i : Nat) (v : AV), (blanks cs)[i]? ≠ some (.fz v) := by
  intro i v hx
  simp only [blanks, List.getElem?_map] at hx
  cases hc : cs[i]? with
  | none => rw [hc] at hx; cases hx
  | some x =>
    rw [hc] at hx
    simp only [Option.map_some, Option.some.injEq] at hx
    have hi : i < cs.length := (List.getElem?_eq_some_iff.1 hc).1
    have h0 := ho i x us[i] own[i] hc (by simp [show i < us.length by omega]) (by simp [show i < own.length by omega])
    cases x with
    | fz c => rcases h0.1 with h | ⟨_, _, e, _⟩ <;> first | exact h.elim | cases e
    | _ => cases hx

theorem goes_lend (hC : ∀ f args v, C f args v → CallOK P f args v) (h : Rel B g s w a N) (hd : ∀ t, o.dst = some t → t < N) {n : FuncId} {b : Nat} {vs cap : List AV} {us cu : List Value} (hv : All2 (VR w g) vs us) (hcap : All2 (PR w g.pr) cap cu)
    (hex : HasBody P n → (execOp a.eval o).run P w = .ok (.enter n (us ++ cu).toArray) w)
    (he0 : (lendArgs b vs [] fun vs ws => .box b fun
      | some cs => lendCells cs ws fun cs' ws' => .call n (vs ++ cap ++ [.lent cs']) fun v => lendTo o.dst b ws' v
      | none => .fail).Ev C Rd s ws) : Goes P B N o s w a ws := by
  obtain ⟨vs', ws1, g1, he, hpm, h1, hk1, hv1⟩ := lendArgs_ev (Promo.refl s) (by simpa [S.puts] using h) hv he0
  clear he0
  obtain ⟨_, he⟩ := he
  cases hbx : s.boxes b with
  | none => rw [hbx] at he; exact he.elim
  | some cs =>
    rw [hbx] at he
    have hbx1 : (s.puts ws1).boxes b = some cs := by rw [hpm.boxes]; exact hbx
    obtain ⟨kb, hβ, ok⟩ := h1.bx b cs hbx1
    obtain ⟨cus, el, fr, r1, r2, r3⟩ := ok.row
    obtain ⟨cs1, ws2, own, he, h2, hbx2, l1, l2, p1, p2, p3, p4, p5, p6⟩ := lendCells_ev h1 r3 he
    obtain ⟨v, hc, he⟩ := he
    -- the call's answer
    rcases hC _ _ _ hc with ⟨hnb, _⟩ | ⟨vs0, cs0, r, cs2, e1, rfl, hfn, hcall⟩ | ⟨_, _, r, bk, _, rfl, _⟩
    · have : ∀ v : AV, v.isBack = false → (lendTo o.dst b ws2 v).Ev C Rd s ws → False := by
        intro v hv hh
        unfold lendTo at hh
        split at hh
        · simp [AV.isBack] at hv
        · exact hh
      exact (this _ hnb he).elim
    rotate_left
    · unfold lendTo at he
      cases hdst : o.dst with
      | none => rw [hdst] at he; exact he.elim
      | some tt =>
        rw [hdst] at he
        simp only [] at he
        cases hbv : backV b r with
        | none => rw [hbv] at he; exact he.elim
        | some r' => rw [hbv] at he; exact he.elim
    obtain ⟨e2, e3⟩ := List.append_inj' e1 rfl
    have e3 : cs1 = cs0 := by simpa using e3
    subst e2 e3
    have hno : ∀ o, ¬ g1.pr kb o := fun o p => by obtain ⟨v, hv⟩ := ok.free o p; exact p6 o v hv
    have hbm : B.mine kb := ok.above
    have hkb : kb < w.heap.size := (Array.getElem?_eq_some_iff.1 r1).1
    have hsub : ∀ k, (bdL w.heap.size g1.pr kb own).mine k → B.mine k := by
      rintro k (hk | hk | hk)
      · exact .inl (Nat.le_trans h2.hB hk)
      · rw [hk]; exact hbm
      · exact (p3 k hk).2.1
    have hbox : BoxC (bdL w.heap.size g1.pr kb own) w g1.pr kb cs1 own := by
      refine ⟨⟨cus, el, fr, r1, r2, l1, fun i x u q hx hu hq => ?_⟩, hno, by rw [l2, l1], p2, fun k hk e => (p3 k hk).1.β b (by rw [hβ, e])⟩
      have h0 := p1 i x u q hx hu hq
      by_cases hown : ∃ T l, x = .own T l
      · obtain ⟨T, l, rfl⟩ := hown
        obtain ⟨tg, q1, q2, q3, q4⟩ := h0
        refine ⟨tg, ?_, q2, q3, q4⟩
        obtain ⟨ez, q1⟩ := q1
        refine ⟨ez, q1.imp id ?_⟩
        rintro ⟨k, cap', a1, a2, a3⟩
        refine ⟨k, cap', a1, a2, .inr (.inr ?_), a3.len, a3.row, a3.prlt, a3.prsh, a3.prno⟩
        have : q = some k := by rw [← q3, a2]
        subst this
        exact List.mem_of_getElem? hq
      · cases x <;> first | exact h0 | exact absurd ⟨_, _, rfl⟩ hown
    have hargs : All2 (ARg w g1.pr kb) (vs' ++ cap) (us ++ cu) := by
      refine (hv1.imp fun v u hh => ?_).append ((hcap.imp fun _ _ hh => PR.keeps hk1.pr hh).imp fun _ _ hh => .inr (.inl hh))
      rcases hh with ⟨off, kb', e, hβ', e'⟩ | hh
      · rw [hβ] at hβ'; cases hβ'
        exact .inl ⟨off, e, e'⟩
      · exact .inr hh
    intro K Q hK
    unfold Oper.wp
    rw [hex hfn, Oper.upon_enter]
    refine (hcall w g1.pr _ kb own h2.prlt h2.ex.gl hbox hargs).mono ?_
    rintro e w' ⟨ru, pr', own', rfl, hbel, hp1, hp2, hbox', hret⟩
    show K (a.put o.dst ru) w'
    unfold lendTo at he
    cases hdst : o.dst with
    | none => rw [hdst] at he; exact he.elim
    | some tt =>
    rw [hdst] at he
    simp only [] at he
    cases hbv : backV b r with
    | none => rw [hbv] at he; exact he.elim
    | some r' =>
    rw [hbv] at he
    simp only [] at he
    obtain ⟨⟨us2, e2, fr2, x1, x2, x3, x4⟩, f1, f2, f3, f4⟩ := hbox'
    have hbx3 : (s.puts ws2).boxes b = some cs := by rw [hbx2]; exact hbx1
    obtain ⟨h3, k3⟩ := h2.lendBack (own := own) hbx3 hβ hno (fun k hk => ⟨(p3 k hk).1, (p3 k hk).2.1, (p3 k hk).2.2.1⟩) hbel hp1 hp2 f1 x1 x2
      (blanks_LR (g := { g1 with pr := pr' }) x3 (by rw [f2, x3]) x4)
    have hfresh : ∀ k, some k ∈ own' → Fresh { g1 with pr := pr' } ((s.puts ws2).put (.box b (blanks cs2))) k ∧ ∀ o, ¬ pr' k o := by
      intro k hk
      obtain ⟨i, hi⟩ := List.getElem?_of_mem hk
      have hlt : i < own'.length := (List.getElem?_eq_some_iff.1 hi).1
      have := ownC_block (x4 i cs2[i] us2.toList[i] (some k) (by simp [show i < cs2.length by omega]) (by
        have : i < us2.toList.length := by omega
        simp [this]) hi) rfl
      refine ⟨?_, this.2⟩
      have hF : Fresh g1 (s.puts ws2) k := by
        rcases this.1 with hm | hm | hm
        · exact h2.fresh hm
        · exact absurd hm (f4 k hk)
        · exact (p3 k hm).1
      exact ⟨hF.β, hF.τ⟩
    obtain ⟨g4, ws4, cs4, he, h4, k4, hcs4, hbx4⟩ := backCells_ev (B0 := bdL w.heap.size g1.pr kb own) (ws0 := ws2 ++ [.box b (blanks cs2)]) (by rw [S.puts_one]; exact h3) (by
        intro i _ hti
        rw [S.puts_one]
        show (s.puts ws2).toks (tokL tt i) = .abs
        have h5 : (s.puts ws1).toks (tokL tt i) = .abs := by
          rcases hpm.toks (tokL tt i) with e | ⟨_, _, e, _⟩
          · rw [e, hti]
          · rw [hti] at e; cases e
        rcases p4 (tokL tt i) with e | ⟨e, _⟩
        · rw [e, h5]
        · exact absurd h5 e) (us := us2.toList) x3 (by rw [f2, x3]) (by rw [S.puts_one]; exact hfresh) hsub x4 f3 he
    have hw : ws = ws4 ++ [.box b cs4, .tmp tt r'] := he
    subst hw
    have hβ4 : g4.β b = some kb := k4.β b kb hβ
    have hbx5 : (s.puts ws4).boxes b = some (blanks cs2) := by
      rw [hbx4, S.puts_one]; simp [S.put, upd_same]
    obtain ⟨h5, k5⟩ := h4.setBox (w' := w') hbx5 hβ4 ⟨rfl, fun _ _ => rfl⟩ x1 x2 hcs4 (fun _ _ => rfl) (fun o p => by
      obtain ⟨k5, e5, ok5⟩ := h4.bx b _ hbx5
      rw [hβ4] at e5; cases e5
      obtain ⟨v, hv⟩ := ok5.free o p
      exact absurd hv (blanks_nofz x3 (by rw [f2, x3]) x4 o v))
    have h6 := h5.tmp (t := tt) (v := r') (u := ru) (backV_VR (g := g4) (kb := kb) hbv hβ4 (by
      have hkp : PrKeeps w' pr' w' g4.pr := k4.pr
      revert hret
      have hA : ∀ v u, ARg w' pr' kb v u → ARg w' g4.pr kb v u := fun v u hh => hh.imp id fun q => q.keeps hkp
      cases r <;> first | exact hA _ _ | (rintro ⟨us', q1, q2⟩; exact ⟨us', q1, q2.imp hA⟩))) (hd tt hdst)
    refine hK g4 _ _ ?_ ⟨hbel.os, hbel.tape, hbel.output, hbel.size, fun k hk => hbel.block k fun hm => hk (hsub k hm)⟩
    rw [S.puts_append]
    exact h6

/-- a block that was given away turns -/
theorem Rel.eatBack (h : Rel B g s w a N) {b0 : Option Nat} (hf : ∀ k, b0 = some k → Fresh g s k ∧ B.mine k ∧ ∀ o, ¬ g.pr k o)
    (hbel : BelowB (bdE w.heap.size g.pr b0) w w') {pr' : Nat → Nat → Prop} (hp : ∀ k o, ¬ (bdE w.heap.size g.pr b0).mine k → (pr' k o ↔ g.pr k o)) (hlt : ∀ k o, pr' k o → k < w'.heap.size) :
    Rel B { g with pr := pr' } s w' a N ∧ Keeps w g w' { g with pr := pr' } := by
  have hnm : ∀ k, k < w.heap.size → (∀ q, b0 = some q → q ≠ k) → ¬ (bdE w.heap.size g.pr b0).mine k := by
    rintro k h1 h3 (h4 | h4)
    · have : w.heap.size ≤ k := h4; omega
    · exact h3 k h4 rfl
  have hnp : ∀ k o, g.pr k o → ¬ (bdE w.heap.size g.pr b0).mine k := fun k o p => hnm k (h.prlt k o p) (fun q hq e => (hf q hq).2.2 o (e ▸ p))
  have hk : Keeps w g w' { g with pr := pr' } :=
    ⟨fun k o p => ⟨(hp k o (hnp k o p)).2 p, cell_heap (hbel.block k (hnp k o p)) o⟩, fun _ _ x => x, fun _ _ x => x⟩
  have lt_of : ∀ {k : Nat} {o : Obj}, w.heap[k]? = some o → k < w.heap.size := fun e => (Array.getElem?_eq_some_iff.1 e).1
  refine ⟨⟨h.df, h.nt, Nat.le_trans h.hB hbel.size, fun t => (h.tm t).keeps hk, hlt, h.bx0, ?_, h.binj, h.tk0, ?_, h.tinj, h.tbx, ?_, h.ex.keep hk (fun _ h => h)⟩, hk⟩
  · intro b' cs2 hb'
    obtain ⟨i, ei, ab, free, us2, el, f, r1, r2, r3⟩ := h.bx b' cs2 hb'
    have hn := hnm i (lt_of r1) (fun q hq e' => (hf q hq).1.β b' (by rw [ei, e']))
    exact ⟨i, ei, ab, fun o p => free o ((hp i o hn).1 p), us2, el, f, (hbel.block i hn).trans r1, r2, r3.imp fun _ _ => LR.keeps hk⟩
  · intro t sh T l hts
    obtain ⟨tg, et, ez, r⟩ := h.tk t sh T l hts
    refine ⟨tg, et, ez, r.imp id ?_⟩
    rintro ⟨i, cap, a1, a2, a3⟩
    have hl : (s.toks t).isLive = true := by rw [hts]; rfl
    obtain ⟨us2, el, f, r1, r2, r3, r4⟩ := a3.row
    have hn := hnm i (lt_of r1) (fun q hq e' => (hf q hq).1.τ t tg hl et (by rw [a2, e']))
    exact ⟨i, cap, a1, a2, a3.above, a3.len, ⟨us2, el, f, (hbel.block i hn).trans r1, r2, r3, r4.keeps hk.pr⟩, fun o p => a3.prlt o ((hp i o hn).1 p), fun e o p => (hp i o hn).2 (a3.prsh e o p), fun e o p => a3.prno e o ((hp i o hn).1 p)⟩
  · intro k o hm
    have hn := hnm k (Nat.lt_of_lt_of_le (Bd.mine_lt hm) h.hB) (fun q hq e => hm (e ▸ (hf q hq).2.1))
    exact (hp k o hn).trans (h.prB k o hm)

/-- a dead token lives again -/
theorem Rel.revive (h : Rel B g s w a N) {t : Nat} {T : Ty} {l : List T.den} {tg : TG} (ht : s.toks t = .dead) (hτ : g.τ t = some tg) (hf : ∀ k, tg.blk = some k → Fresh g s k) (hok : TokOK B w g.pr false T l tg) :
    Rel B g (s.put (.tok t (.live false T l))) w a N := by
  refine ⟨h.df, h.nt, h.hB, h.tm, h.prlt, h.bx0, h.bx, h.binj, ?_, ?_, ?_, ?_, h.prB, h.ex.keep (Keeps.refl _ _) (fun _ h => h)⟩
  · intro b e
    by_cases eb : b = t
    · subst eb; simp [S.put, upd_same] at e
    · simp only [S.put, upd_ne _ _ _ _ eb] at e ⊢; exact h.tk0 b e
  · intro i sh' T' l' e
    by_cases eb : i = t
    · subst eb; simp only [S.put, upd_same] at e ⊢; cases e; exact ⟨tg, hτ, hok⟩
    · simp only [S.put, upd_ne _ _ _ _ eb] at e ⊢; exact h.tk i sh' T' l' e
  · intro i i' x x' k l1 l2 e1 e2 e3 e4
    by_cases eb : i = t <;> by_cases eb' : i' = t
    · rw [eb, eb']
    · subst eb; simp only [S.put, upd_ne _ _ _ _ eb'] at l2; rw [hτ] at e1; cases e1; exact absurd e4 ((hf k e3).τ i' x' l2 e2)
    · subst eb'; simp only [S.put, upd_ne _ _ _ _ eb] at l1; rw [hτ] at e2; cases e2; exact absurd e3 ((hf k e4).τ i x l1 e1)
    · simp only [S.put, upd_ne _ _ _ _ eb, upd_ne _ _ _ _ eb'] at l1 l2; exact h.tinj i i' x x' k l1 l2 e1 e2 e3 e4
  · intro i x k b hl e1 e2 e3
    by_cases eb : i = t
    · subst eb; rw [hτ] at e1; cases e1; exact (hf k e2).β b e3
    · simp only [S.put, upd_ne _ _ _ _ eb] at hl; exact h.tbx i x k b hl e1 e2 e3

theorem PV_notLent {pr : Nat → Nat → Prop} {cs : List AV} {u : Value} (h : PV w pr (.lent cs) u) : False := by
  rcases h with h | ⟨_, _, e, _⟩
  · exact h.elim
  · cases e

theorem goes_eat (hC : ∀ f args v, C f args v → CallOK P f args v) (h : Rel B g s w a N) (hd : ∀ t, o.dst = some t → t < N) {n : FuncId} {vs cap : List AV} {us cu : List Value} (hv : All2 (VR w g) vs us) (hcap : All2 (PR w g.pr) cap cu)
    (hex : HasBody P n → (execOp a.eval o).run P w = .ok (.enter n (us ++ cu).toArray) w)
    (he0 : (eatCall o.dst n cap vs).Ev C Rd s ws) : Goes P B N o s w a ws := by
  cases vs with
  | nil => exact he0.elim
  | cons a0 rest =>
  cases us with
  | nil => exact hv.elim
  | cons u0 us =>
  obtain ⟨hv0, hvr⟩ := hv
  unfold eatCall at he0
  obtain ⟨vs', ws1, g1, he, hpm, h1, hk1, hv1⟩ := snaps_ev (Promo.refl s) (by simpa [S.puts] using h) hvr he0
  clear he0
  have hl0 : LR w g1 a0 u0 := by
    rcases VR_or (hv0.keeps hk1) with ⟨vs2, rfl, _⟩ | hh
    · simp [lendCells, isPlainCell] at he
      exact he.elim
    · exact hh
  obtain ⟨cs1, ws2, own, he, h2, hbx2, l1, l2, p1, p2, p3, p4, p5, p6⟩ := lendCells_ev h1 (cs := [a0]) (us := [u0]) ⟨hl0, trivial⟩ he
  obtain ⟨c0, rfl⟩ : ∃ c0, cs1 = [c0] := List.length_eq_one_iff.1 (by simpa using l1)
  obtain ⟨b0, rfl⟩ : ∃ b0, own = [b0] := List.length_eq_one_iff.1 (by simpa using l2)
  obtain ⟨v, hc, he⟩ := he
  have h0 := p1 0 c0 u0 b0 rfl rfl rfl
  have hcap1 : All2 (PV w g1.pr) cap cu := (hcap.imp fun _ _ hh => PR.keeps hk1.pr hh).imp fun _ _ => Or.inl
  have hargs : All2 (PV w g1.pr) (vs' ++ cap) (us ++ cu) := hv1.append hcap1
  have hnl : ∀ vs0 cs0, [c0] ++ vs' ++ cap ≠ vs0 ++ [.lent cs0] := by
    intro vs0 cs0 e
    have hm : AV.lent cs0 ∈ c0 :: (vs' ++ cap) := by
      have : AV.lent cs0 ∈ vs0 ++ [AV.lent cs0] := by simp
      rw [← e] at this
      simpa using this
    rcases List.mem_cons.1 hm with e2 | e2
    · rw [← e2] at h0; exact PV_notLent h0.1
    · obtain ⟨i, hi⟩ := List.getElem?_of_mem e2
      obtain ⟨u, _, hu⟩ := hargs.get i _ hi
      exact PV_notLent hu
  rcases hC _ _ _ hc with ⟨hnb, _⟩ | ⟨vs0, cs0, r, cs2, e1, rfl, _⟩ | ⟨c0', rest', r, bk, e1, rfl, hfn, hcall⟩
  · exfalso
    have : ∀ v : AV, v.isBack = false → (ateTo o.dst a0 ws2 v).Ev C Rd s ws → False := by
      intro v hv hh
      unfold ateTo at hh
      split at hh
      · simp [AV.isBack] at hv
      · simp [AV.isBack] at hv
      · exact hh
    exact this _ hnb he
  · exact absurd e1 (hnl _ _)
  simp only [List.singleton_append, List.cons_append, List.cons.injEq] at e1
  obtain ⟨rfl, rfl⟩ := e1
  have hpo : ∀ k, b0 = some k → Fresh g1 (s.puts ws2) k ∧ B.mine k ∧ ∀ o, ¬ g1.pr k o := fun k hk => by
    obtain ⟨q1, q2, q3, _⟩ := p3 k (by rw [hk]; simp)
    exact ⟨q1, q2, q3⟩
  have hsub : ∀ k, (bdE w.heap.size g1.pr b0).mine k → B.mine k := by
    rintro k (hk | hk)
    · exact .inl (Nat.le_trans h2.hB hk)
    · exact (hpo k hk).2.1
  have h0E : OwnC (bdE w.heap.size g1.pr b0) w g1.pr c0 u0 b0 := by
    by_cases hown : ∃ T l, c0 = .own T l
    · obtain ⟨T, l, rfl⟩ := hown
      obtain ⟨tg, q1, q2, q3, q4⟩ := h0
      refine ⟨tg, ?_, q2, q3, q4⟩
      obtain ⟨ez, q1⟩ := q1
      refine ⟨ez, q1.imp id ?_⟩
      rintro ⟨k, cap', a1, a2, a3⟩
      exact ⟨k, cap', a1, a2, .inr (by show b0 = some k; rw [← q3, a2]), a3.len, a3.row, a3.prlt, a3.prsh, a3.prno⟩
    · cases c0 <;> first | exact h0 | exact absurd ⟨_, _, rfl⟩ hown
  intro K Q hK
  unfold Oper.wp
  rw [hex hfn, show (u0 :: us) ++ cu = u0 :: (us ++ cu) from rfl, Oper.upon_enter]
  refine (hcall w g1.pr u0 (us ++ cu) b0 h2.prlt h2.ex.gl h0E hargs).mono ?_
  rintro e w' ⟨ru, pr', rfl, hbel, hp1, hp2, hret⟩
  show K (a.put o.dst ru) w'
  obtain ⟨h3, k3⟩ := h2.eatBack hpo hbel hp1 hp2
  have hB : BelowB B w w' := ⟨hbel.os, hbel.tape, hbel.output, hbel.size, fun k hk => hbel.block k fun hm => hk (hsub k hm)⟩
  have hfr : ∀ k, (bdE w.heap.size g1.pr b0).mine k → Fresh { g1 with pr := pr' } (s.puts ws2) k := by
    rintro k (hk | hk)
    · exact ⟨(h2.fresh hk).β, (h2.fresh hk).τ⟩
    · exact ⟨(hpo k hk).1.β, (hpo k hk).1.τ⟩
  have habs : ∀ i, s.toks i = .abs → (s.puts ws2).toks i = .abs := by
    intro i hi
    have h5 : (s.puts ws1).toks i = .abs := by
      rcases hpm.toks i with e | ⟨_, _, e, _⟩
      · rw [e, hi]
      · rw [hi] at e; cases e
    rcases p4 i with e | ⟨e, _⟩
    · rw [e, h5]
    · exact absurd h5 e
  cases bk with
  | nil => exact goes_answer (B0 := bdE w.heap.size g1.pr b0) h3 habs hd hB hsub hfr hret (by
      revert he
      unfold ateTo
      exact id) hK
  | cons c bk =>
    cases bk with
    | cons _ _ => exact hret.elim
    | nil =>
    obtain ⟨hret, rfl, rfl⟩ := hret
    by_cases hcown : ∃ T l, c = .own T l
    · obtain ⟨T, l, rfl⟩ := hcown
      cases a0 with
      | ref t =>
        obtain ⟨_, he⟩ := (show (Pg.tok t fun
          | .live false T0 _ => match T.dec T0 with
            | some _ => .ret (ws2 ++ ([.tok t (.live false T l)] ++ wrd o.dst (.tup [])))
            | none => .fail
          | _ => .fail).Ev C Rd s ws from he)
        cases htk : s.toks t with
        | abs => rw [htk] at he; exact he.elim
        | dead => rw [htk] at he; exact he.elim
        | live sh T0 l0 =>
          rw [htk] at he
          cases sh with
          | true => exact he.elim
          | false =>
            simp only [] at he
            cases hdec : T.dec T0 with
            | none => rw [hdec] at he; exact he.elim
            | some hh =>
            rw [hdec] at he
            obtain ⟨rfl⟩ := hh
            have : ws = _ := he
            subst this
            obtain ⟨tg0, hτ0, hu0, _⟩ := hl0
            obtain ⟨hdead, htg⟩ := p5 0 t rfl T l0 htk
            have hb0 : tg0.blk = b0 := by have := htg tg0 hτ0; simpa using this.symm
            obtain ⟨tg1, hok, hv1', hb1, _⟩ := hret
            have hz : tg0.esz = T.size := by
              have hs : ∃ T2 l2, (s.puts ws1).toks t = .live false T2 l2 ∨ (s.puts ws1).toks t = .live true T2 l2 := by
                rcases hpm.toks t with e | ⟨T2, l2, _, e⟩
                · exact ⟨T, l0, .inl (by rw [e, htk])⟩
                · exact ⟨T2, l2, .inr e⟩
              have hT2 : ∀ sh T2 l2, (s.puts ws1).toks t = .live sh T2 l2 → T2 = T := by
                intro sh T2 l2 e
                rcases hpm.toks t with e' | ⟨T3, l3, e3, e'⟩
                · rw [e', htk] at e; cases e; rfl
                · rw [htk] at e3; cases e3
                  rw [e'] at e; cases e; rfl
              obtain ⟨T2, l2, e | e⟩ := hs
              · have := hT2 _ _ _ e; subst this
                obtain ⟨tg2, e1, e2, _⟩ := h1.tk t _ _ _ e
                rw [hτ0] at e1; cases e1; exact e2
              · have := hT2 _ _ _ e; subst this
                obtain ⟨tg2, e1, e2, _⟩ := h1.tk t _ _ _ e
                rw [hτ0] at e1; cases e1; exact e2
            have htgs : tg1 = tg0 := by
              obtain ⟨v1, b1, z1⟩ := tg1
              obtain ⟨v0, b0', z0⟩ := tg0
              simp only at hb1 hb0 hz hv1' hu0
              have hz1 : z1 = T.size := hok.1
              subst hb1 hb0 hz hz1
              rw [← hv1', ← hu0]
            subst htgs
            have hno : ∀ k, tg1.blk = some k → ∀ o, ¬ pr' k o := by
              intro k hk o ho
              obtain ⟨_, r⟩ := hok
              rcases r with ⟨_, e, _⟩ | ⟨k', cap', _, e, r⟩
              · rw [hk] at e; cases e
              · rw [hk] at e; cases e; exact r.prno rfl o ho
            have h4 := h3.revive (t := t) (T := T) (l := l) hdead hτ0 (fun k hk => hfr k (.inr (by rw [← hb1]; exact hk))) (tokOK_keeps hok hsub (fun _ _ p => ⟨p, rfl⟩) hno)
            refine hK { g1 with pr := pr' } _ _ ?_ hB
            rw [S.puts_append]
            exact Rel.wrd (s := (s.puts ws2).put (.tok t (.live false T l))) h4 (v := .tup []) (show VR w' _ (.tup []) (.tuple #[]) from ⟨[], rfl, trivial⟩) hd
      | _ => exact he.elim
    · exfalso
      revert he
      unfold ateTo
      cases c <;> first | exact fun h => h.elim | exact absurd ⟨_, _, rfl⟩ hcown

theorem goes_call (hC : ∀ f args v, C f args v → CallOK P f args v) (h : Rel B g s w a N) (hd : ∀ t, o.dst = some t → t < N) {f : Operand} {args : Array Operand} {ts : Array TypeId}
    (ho : o.op = .call { callee := .value f, args := args, argTypes := ts }) {vs : List AV} (hv : All2 (VR w g) vs (args.toList.map a.eval))
    (he0 : (rdv f fun
      | .fn n cap => snaps vs [] fun vs ws => .call n (vs ++ cap) fun v => answer o.dst ws v
      | .fnv n T x => lendCall o.dst n vs (T.cells x)
      | _ => .fail).Ev C Rd s ws) : Goes P B N o s w a ws := by
  obtain ⟨p, hp, he⟩ := rdv_ev h he0
  clear he0
  cases p with
  | fn n cap =>
    simp only [] at he
    obtain ⟨cu, hcu, hcap⟩ := hp
    obtain ⟨vs', ws', g1, he, hpm, h2, hk, hv2⟩ := snaps_ev (Promo.refl s) (by simpa [S.puts] using h) hv he
    obtain ⟨v, hc, he⟩ := he
    have hargs : All2 (PV w g1.pr) (vs' ++ cap) ((args.toList.map a.eval) ++ cu) := hv2.append ((hcap.imp fun _ _ => PR.keeps hk.pr).imp fun _ _ => Or.inl)
    exact goes_enter (hC _ _ _ hc) h2 hpm hd hargs (fun ⟨fn, f1, f2, f3⟩ => by rw [execOp_call ho hcu f1 f2 f3]) he
  | fnv n T x =>
    simp only [] at he
    obtain ⟨cu, e1, e2⟩ := id hp
    have hcu : a.eval f = .func (.func n) #[] cu.toArray := by simpa using e1
    have hcap := cells_PR e2
    unfold lendCall at he
    cases hfp : findPtr vs with
    | none =>
      rw [hfp] at he
      simp only [] at he
      cases hea : eats n with
      | true =>
        rw [hea] at he
        exact goes_eat hC h hd hv hcap (fun ⟨fn, f1, f2, f3⟩ => by rw [execOp_call ho hcu f1 f2 f3]) he
      | false =>
      rw [hea] at he
      simp only [cond_false] at he
      obtain ⟨vs', ws', g1, he, hpm, h2, hk, hv2⟩ := snaps_ev (Promo.refl s) (by simpa [S.puts] using h) hv he
      obtain ⟨v, hc, he⟩ := he
      have hargs : All2 (PV w g1.pr) (vs' ++ T.cells x) ((args.toList.map a.eval) ++ cu) := hv2.append ((hcap.imp fun _ _ => PR.keeps hk.pr).imp fun _ _ => Or.inl)
      exact goes_enter (hC _ _ _ hc) h2 hpm hd hargs (fun ⟨fn, f1, f2, f3⟩ => by rw [execOp_call ho hcu f1 f2 f3]) he
    | some b =>
      rw [hfp] at he
      simp only [] at he
      exact goes_lend hC h hd hv hcap (fun ⟨fn, f1, f2, f3⟩ => by rw [execOp_call ho hcu f1 f2 f3]) he
  | _ => exact he.elim


end
end Go.Proofs.YtjgnpmdbkgeakaaDoor.Th
