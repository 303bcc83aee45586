/- THEORY, part F: what the relation between abstract states and memory survives. No condition. -/
import Derived.Test.YtjgnpmdbkgeakaaDoorThE
set_option linter.unusedVariables false
set_option linter.unusedSimpArgs false
namespace Go.Proofs.YtjgnpmdbkgeakaaDoor.Th
open Go Go.RowKit

theorem cell_heap {w w' : World} {k : Nat} (h : w'.heap[k]? = w.heap[k]?) (o : Nat) : w'.cell? ⟨k, o, none⟩ = w.cell? ⟨k, o, none⟩ := by
  simp [World.cell?, h]

theorem cell_of {w : World} {k : Nat} {us : Array Value} {e : TypeId} {fr : Nat × Nat} (h : w.heap[k]? = some (.cells us e fr)) (o : Nat) : w.cell? ⟨k, o, none⟩ = us[o]? := by
  simp [World.cell?, h]

theorem frozen_of {w : World} {k : Nat} {us : Array Value} {e : TypeId} {fr : Nat × Nat} (h : w.heap[k]? = some (.cells us e fr)) (ht : Thawed fr us.size) {o : Nat} (ho : o < us.size) : w.frozen? ⟨k, o, none⟩ = false := by
  simp only [World.frozen?, h]; exact ht.2 o ho

theorem RowOf.keeps {w w' : World} {pr pr' : Nat → Nat → Prop} (hk : PrKeeps w pr w' pr') {T : Ty} {l : List T.den} {us : Array Value} (h : RowOf w pr T l us) : RowOf w' pr' T l us :=
  fun j x hx => let ⟨vs, a, b, c⟩ := h j x hx; ⟨vs, a, b, c.keeps hk⟩

section
variable {B : Bd} {N : Nat} {g g' : Gh} {s : S} {w w' : World} {a : Act}

theorem Rel.tmp (h : Rel B g s w a N) {t : Nat} {v : AV} {u : Value} (hv : VR w g v u) (ht : t < N) : Rel B g (s.put (.tmp t v)) w (a.put (some t) u) N where
  df := h.df
  nt := by simp [Act.put, h.nt]
  hB := h.hB
  tm i := by
    by_cases e : i = t
    · subst e
      have : i < a.tmps.size := by rw [h.nt]; exact ht
      simpa [S.put, upd_same, Act.put, Array.getD, this] using hv
    · have := h.tm i
      simpa [S.put, upd_ne _ _ _ _ e, Act.put, Array.getD_eq_getD_getElem?, Array.getElem?_setIfInBounds_ne (Ne.symm e)] using this
  prlt := h.prlt
  bx0 := h.bx0
  bx := h.bx
  binj := h.binj
  tk0 := h.tk0
  tk := h.tk
  tinj := h.tinj
  tbx := h.tbx
  prB := h.prB
  ex := h.ex.keep (Keeps.refl _ _) (fun _ h => h)

theorem Rel.noput (h : Rel B g s w a N) (u : Value) : Rel B g s w (a.put none u) N := h

/-- G1: new blocks, of which some may be protected -/
theorem Rel.grow (h : Rel B g s w a N) (hs : w.heap.size ≤ w'.heap.size) (hh : ∀ k, k < w.heap.size → w'.heap[k]? = w.heap[k]?) {pr' : Nat → Nat → Prop}
    (hp : ∀ k o, k < w.heap.size → (pr' k o ↔ g.pr k o)) (hl : ∀ k o, pr' k o → k < w'.heap.size) :
    Rel B { g with pr := pr' } s w' a N ∧ Keeps w g w' { g with pr := pr' } := by
  have hk : Keeps w g w' { g with pr := pr' } :=
    ⟨fun k o p => ⟨(hp k o (h.prlt k o p)).2 p, cell_heap (hh k (h.prlt k o p)) o⟩, fun _ _ x => x, fun _ _ x => x⟩
  have lt_of : ∀ {k : Nat} {o : Obj}, w.heap[k]? = some o → k < w.heap.size := fun e => (Array.getElem?_eq_some_iff.1 e).1
  refine ⟨⟨h.df, h.nt, Nat.le_trans h.hB hs, fun t => (h.tm t).keeps hk, hl, h.bx0, ?_, h.binj, h.tk0, ?_, h.tinj, h.tbx, fun k o hb => (hp k o (Nat.lt_of_lt_of_le (Bd.mine_lt hb) h.hB)).trans (h.prB k o hb), h.ex.keep hk (fun _ h => h)⟩, hk⟩
  · intro b cs hb
    obtain ⟨k, e, ab, fr, us, el, f, r1, r2, r3⟩ := h.bx b cs hb
    have hlt := lt_of r1
    exact ⟨k, e, ab, fun o p => fr o ((hp k o hlt).1 p), us, el, f, (hh k hlt).trans r1, r2, r3.imp fun _ _ => LR.keeps hk⟩
  · intro t sh T l ht
    obtain ⟨tg, e, ez, r⟩ := h.tk t sh T l ht
    refine ⟨tg, e, ez, r.imp id ?_⟩
    rintro ⟨k, cap, a1, a2, a3⟩
    obtain ⟨us, el, f, r1, r2, r3, r4⟩ := a3.row
    have hlt := lt_of r1
    exact ⟨k, cap, a1, a2, a3.above, a3.len, ⟨us, el, f, (hh k hlt).trans r1, r2, r3, r4.keeps hk.pr⟩,
      fun o p => a3.prlt o ((hp k o hlt).1 p), fun e o p => (hp k o hlt).2 (a3.prsh e o p), fun e o p => a3.prno e o ((hp k o hlt).1 p)⟩

/-- a block's mark of frozen cells may change, if none of its own cells are frozen by it -/
def Remark (w w' : World) : Prop := w'.heap.size = w.heap.size ∧ ∀ k : Nat, w'.heap[k]? = w.heap[k]? ∨ ∃ us e fr fr', w.heap[k]? = some (.cells us e fr) ∧ w'.heap[k]? = some (.cells us e fr') ∧ (Thawed fr us.size → Thawed fr' us.size)

theorem Remark.row (h : Remark w w') {k : Nat} {us : Array Value} {e : TypeId} {fr : Nat × Nat} (hr : w.heap[k]? = some (.cells us e fr)) (ht : Thawed fr us.size) : ∃ fr', w'.heap[k]? = some (.cells us e fr') ∧ Thawed fr' us.size := by
  rcases h.2 k with e1 | ⟨us', e', fr1, fr2, a1, a2, a3⟩
  · exact ⟨fr, e1.trans hr, ht⟩
  · rw [hr] at a1; cases a1
    exact ⟨fr2, a2, a3 ht⟩

theorem Remark.cell (h : Remark w w') (k o : Nat) : w'.cell? ⟨k, o, none⟩ = w.cell? ⟨k, o, none⟩ := by
  rcases h.2 k with e1 | ⟨us', e', fr1, fr2, a1, a2, _⟩
  · exact cell_heap e1 o
  · rw [cell_of a1, cell_of a2]

theorem Rel.remark (h : Rel B g s w a N) (hm : Remark w w') : Rel B g s w' a N ∧ Keeps w g w' g := by
  have hk : Keeps w g w' g := ⟨fun k o p => ⟨p, hm.cell k o⟩, fun _ _ x => x, fun _ _ x => x⟩
  refine ⟨⟨h.df, h.nt, by rw [hm.1]; exact h.hB, fun t => (h.tm t).keeps hk, fun k o p => by rw [hm.1]; exact h.prlt k o p, h.bx0, ?_, h.binj, h.tk0, ?_, h.tinj, h.tbx, h.prB, h.ex.keep hk (fun _ h => h)⟩, hk⟩
  · intro b cs hb
    obtain ⟨k, e, ab, fr, us, el, f, r1, r2, r3⟩ := h.bx b cs hb
    obtain ⟨f', q1, q2⟩ := hm.row r1 r2
    exact ⟨k, e, ab, fr, us, el, f', q1, q2, r3.imp fun _ _ => LR.keeps hk⟩
  · intro t sh T l ht
    obtain ⟨tg, e, ez, r⟩ := h.tk t sh T l ht
    refine ⟨tg, e, ez, r.imp id ?_⟩
    rintro ⟨k, cap, a1, a2, a3⟩
    obtain ⟨us, el, f, r1, r2, r3, r4⟩ := a3.row
    obtain ⟨f', q1, q2⟩ := hm.row r1 r2
    exact ⟨k, cap, a1, a2, a3.above, a3.len, ⟨us, el, f', q1, q2, r3, r4.keeps hk.pr⟩, a3.prlt, a3.prsh, a3.prno⟩

theorem Rel.heap (h : Rel B g s w a N) (hh : w'.heap = w.heap) : Rel B g s w' a N ∧ Keeps w g w' g := by
  have := h.grow (w' := w') (pr' := g.pr) (by rw [hh]; exact Nat.le_refl _) (fun k _ => by rw [hh]) (fun _ _ _ => Iff.rfl) (fun k o p => by rw [hh]; exact h.prlt k o p)
  exact this

theorem Rel.alloc (h : Rel B g s w a N) (o : Obj) : Rel B g s (w.alloc o) a N ∧ Keeps w g (w.alloc o) g :=
  have hs : (w.alloc o).heap.size = w.heap.size + 1 := by show (w.heap.push o).size = _; exact Array.size_push o
  h.grow (pr' := g.pr) (by omega) (fun k hk => Below.heap_alloc w o k hk) (fun _ _ _ => Iff.rfl) (fun k o' p => by have := h.prlt k o' p; omega)

/-- a block that is nobody's -/
structure Fresh (g : Gh) (s : S) (k : Nat) : Prop where
  β : ∀ b, g.β b ≠ some k
  τ : ∀ t tg, (s.toks t).isLive = true → g.τ t = some tg → tg.blk ≠ some k

theorem Rel.fresh (h : Rel B g s w a N) {k : Nat} (hk : w.heap.size ≤ k) : Fresh g s k where
  β b e := by
    cases hb : s.boxes b with
    | none => rw [h.bx0 b hb] at e; cases e
    | some cs =>
      obtain ⟨k', e', r⟩ := h.bx b cs hb
      rw [e] at e'; cases e'
      obtain ⟨us, el, f, r1, _⟩ := r.row
      have := (Array.getElem?_eq_some_iff.1 r1).1; omega
  τ t tg hl ht hb := by
    cases hs : s.toks t with
    | abs => rw [hs] at hl; cases hl
    | dead => rw [hs] at hl; cases hl
    | live sh T l =>
      obtain ⟨tg', e, _, r⟩ := h.tk t sh T l hs
      rw [ht] at e; cases e
      rcases r with ⟨_, e, _⟩ | ⟨k', cap, _, e, r⟩
      · rw [hb] at e; cases e
      · rw [hb] at e; cases e
        obtain ⟨us, el, f, r1, _⟩ := r.row
        have := (Array.getElem?_eq_some_iff.1 r1).1; omega

/-- G2: a box of its own -/
theorem Rel.newBox (h : Rel B g s w a N) {t k : Nat} {cs : List AV} (htN : t < N) (ht : s.boxes t = none) (hf : Fresh g s k) (hb : BoxOK B w g cs k) :
    Rel B { g with β := upd g.β t (some k) } (s.put (.box t cs)) w a N ∧ Keeps w g w { g with β := upd g.β t (some k) } := by
  have hβ := h.bx0 t ht
  have hk : Keeps w g w { g with β := upd g.β t (some k) } :=
    ⟨fun _ _ p => ⟨p, rfl⟩, fun b x e => by by_cases eb : b = t
                                            · subst eb; rw [hβ] at e; cases e
                                            · simpa [upd_ne _ _ _ _ eb] using e, fun _ _ x => x⟩
  refine ⟨⟨h.df, h.nt, h.hB, fun i => (h.tm i).keeps hk, h.prlt, ?_, ?_, ?_, h.tk0, ?_, h.tinj, ?_, h.prB, ⟨fun b x e => ⟨(h.ex.lb b x e).1, fun hb => ?_⟩, h.ex.gl.keeps hk.pr⟩⟩, hk⟩
  · intro b e
    by_cases eb : b = t
    · subst eb; simp [S.put, upd_same] at e
    · simp only [S.put, upd_ne _ _ _ _ eb] at e ⊢; exact h.bx0 b e
  · intro b cs' e
    by_cases eb : b = t
    · subst eb
      simp only [S.put, upd_same] at e ⊢; cases e
      obtain ⟨x1, x2, us, el, f, r1, r2, r3⟩ := hb
      exact ⟨k, rfl, x1, x2, us, el, f, r1, r2, r3.imp fun _ _ => LR.keeps hk⟩
    · simp only [S.put, upd_ne _ _ _ _ eb] at e ⊢
      obtain ⟨k', e', x1, x2, us, el, f, r1, r2, r3⟩ := h.bx b cs' e
      exact ⟨k', e', x1, x2, us, el, f, r1, r2, r3.imp fun _ _ => LR.keeps hk⟩
  · intro b b' x e e'
    by_cases eb : b = t <;> by_cases eb' : b' = t
    · rw [eb, eb']
    · subst eb; simp only [upd_same, upd_ne _ _ _ _ eb'] at e e'; cases e; exact absurd e' (hf.β b')
    · subst eb'; simp only [upd_same, upd_ne _ _ _ _ eb] at e e'; cases e'; exact absurd e (hf.β b)
    · simp only [upd_ne _ _ _ _ eb, upd_ne _ _ _ _ eb'] at e e'; exact h.binj b b' x e e'
  · intro i sh T l e
    obtain ⟨tg, e1, e2, r⟩ := h.tk i sh T l e
    exact ⟨tg, e1, e2, r⟩
  · intro i tg x b hl e1 e2 e3
    by_cases eb : b = t
    · subst eb; simp only [upd_same] at e3; cases e3; exact hf.τ i tg hl e1 e2
    · simp only [upd_ne _ _ _ _ eb] at e3; exact h.tbx i tg x b hl e1 e2 e3
  · have hne : b ≠ t := by have := (h.ex.lb b x e).1; omega
    have hb' : s.boxes b ≠ none := by simpa [S.put, upd_ne _ _ _ _ hne] using hb
    show upd g.β t (some k) b = some x
    rw [upd_ne _ _ _ _ hne]; exact (h.ex.lb b x e).2 hb'

/-- G3: a token of its own -/
theorem Rel.newTok (h : Rel B g s w a N) {t : Nat} {sh : Bool} {T : Ty} {l : List T.den} {tg : TG} (ht : s.toks t = .abs) (hf : ∀ k, tg.blk = some k → Fresh g s k) (hok : TokOK B w g.pr sh T l tg) :
    Rel B { g with τ := upd g.τ t (some tg) } (s.put (.tok t (.live sh T l))) w a N ∧ Keeps w g w { g with τ := upd g.τ t (some tg) } := by
  have hτ := h.tk0 t ht
  have hk : Keeps w g w { g with τ := upd g.τ t (some tg) } :=
    ⟨fun _ _ p => ⟨p, rfl⟩, fun _ _ x => x, fun b x e => by by_cases eb : b = t
                                                            · subst eb; rw [hτ] at e; cases e
                                                            · simpa [upd_ne _ _ _ _ eb] using e⟩
  refine ⟨⟨h.df, h.nt, h.hB, fun i => (h.tm i).keeps hk, h.prlt, h.bx0, ?_, h.binj, ?_, ?_, ?_, ?_, h.prB, h.ex.keep hk (fun _ h => h)⟩, hk⟩
  · intro b cs' e
    obtain ⟨k', e', x1, x2, us, el, f, r1, r2, r3⟩ := h.bx b cs' e
    exact ⟨k', e', x1, x2, us, el, f, r1, r2, r3.imp fun _ _ => LR.keeps hk⟩
  · intro b e
    by_cases eb : b = t
    · subst eb; simp [S.put, upd_same] at e
    · simp only [S.put, upd_ne _ _ _ _ eb] at e ⊢; exact h.tk0 b e
  · intro i sh' T' l' e
    by_cases eb : i = t
    · subst eb; simp only [S.put, upd_same] at e ⊢; cases e; exact ⟨tg, rfl, hok⟩
    · simp only [S.put, upd_ne _ _ _ _ eb] at e ⊢; exact h.tk i sh' T' l' e
  · intro i i' x x' k l1 l2 e1 e2 e3 e4
    by_cases eb : i = t <;> by_cases eb' : i' = t
    · rw [eb, eb']
    · subst eb; simp only [S.put, upd_same, upd_ne _ _ _ _ eb'] at l1 l2 e1 e2; cases e1; exact absurd e4 ((hf k e3).τ i' x' l2 e2)
    · subst eb'; simp only [S.put, upd_same, upd_ne _ _ _ _ eb] at l1 l2 e1 e2; cases e2; exact absurd e3 ((hf k e4).τ i x l1 e1)
    · simp only [S.put, upd_ne _ _ _ _ eb, upd_ne _ _ _ _ eb'] at l1 l2 e1 e2; exact h.tinj i i' x x' k l1 l2 e1 e2 e3 e4
  · intro i x k b hl e1 e2 e3
    by_cases eb : i = t
    · subst eb; simp only [upd_same] at e1; cases e1; exact (hf k e2).β b e3
    · simp only [S.put, upd_ne _ _ _ _ eb] at hl e1; exact h.tbx i x k b hl e1 e2 e3

/-- G5: a token dies -/
theorem Rel.kill (h : Rel B g s w a N) (t : Nat) (ht : s.toks t ≠ .abs) : Rel B g (s.put (.tok t .dead)) w a N := by
  refine ⟨h.df, h.nt, h.hB, h.tm, h.prlt, h.bx0, h.bx, h.binj, ?_, ?_, ?_, ?_, h.prB, h.ex.keep (Keeps.refl _ _) (fun _ h => h)⟩
  · intro b e
    by_cases eb : b = t
    · subst eb; simp [S.put, upd_same] at e
    · simp only [S.put, upd_ne _ _ _ _ eb] at e; exact h.tk0 b e
  · intro i sh' T' l' e
    by_cases eb : i = t
    · subst eb; simp only [S.put, upd_same] at e; cases e
    · simp only [S.put, upd_ne _ _ _ _ eb] at e; exact h.tk i sh' T' l' e
  · intro i i' x x' k l1 l2 e1 e2 e3 e4
    by_cases eb : i = t
    · subst eb; simp only [S.put, upd_same] at l1; cases l1
    · by_cases eb' : i' = t
      · subst eb'; simp only [S.put, upd_same] at l2; cases l2
      · simp only [S.put, upd_ne _ _ _ _ eb, upd_ne _ _ _ _ eb'] at l1 l2; exact h.tinj i i' x x' k l1 l2 e1 e2 e3 e4
  · intro i x k b hl e1 e2 e3
    by_cases eb : i = t
    · subst eb; simp only [S.put, upd_same] at hl; cases hl
    · simp only [S.put, upd_ne _ _ _ _ eb] at hl; exact h.tbx i x k b hl e1 e2 e3

/-- G4: a token's row is shared from now on: its cells are protected -/
theorem Rel.share (h : Rel B g s w a N) {t : Nat} {T : Ty} {l : List T.den} (ht : s.toks t = .live false T l) :
    ∃ g' tg, Rel B g' (s.put (.tok t (.live true T l))) w a N ∧ Keeps w g w g' ∧ g.τ t = some tg ∧ TR w g'.pr (.slice T) l [tg.val] := by
  obtain ⟨tg, e, ez, r⟩ := h.tk t false T l ht
  let blk : Nat → Prop := fun k => tg.blk = some k
  let pr' : Nat → Nat → Prop := fun k o => g.pr k o ∨ (blk k ∧ o < l.length * T.size)
  have hk : Keeps w g w { g with pr := pr' } := ⟨fun _ _ p => ⟨.inl p, rfl⟩, fun _ _ x => x, fun _ _ x => x⟩
  have hlive : (s.toks t).isLive = true := by rw [ht]; rfl
  have hprB : ∀ k o, ¬ B.mine k → (pr' k o ↔ B.pr k o) := by
    intro k o hb
    rw [← h.prB k o hb]
    refine ⟨?_, .inl⟩
    rintro (p | ⟨p, _⟩)
    · exact p
    · rcases r with ⟨_, e', _⟩ | ⟨k', cap, _, e', r⟩
      · rw [show tg.blk = some k from p] at e'; cases e'
      · rw [show tg.blk = some k from p] at e'; cases e'
        exact absurd r.above hb
  refine ⟨{ g with pr := pr' }, tg, ⟨h.df, h.nt, h.hB, fun i => (h.tm i).keeps hk, ?_, h.bx0, ?_, h.binj, ?_, ?_, ?_, ?_, hprB, h.ex.keep hk (fun _ h => h)⟩, hk, e, ?_⟩
  · rintro k o (p | ⟨p, _⟩)
    · exact h.prlt k o p
    · rcases r with ⟨_, e', _⟩ | ⟨k', cap, _, e', r⟩
      · rw [show tg.blk = some k from p] at e'; cases e'
      · rw [show tg.blk = some k from p] at e'; cases e'
        obtain ⟨us, el, f, r1, _⟩ := r.row
        exact (Array.getElem?_eq_some_iff.1 r1).1
  · intro b cs' eb
    obtain ⟨k', e', x1, x2, us, el, f, r1, r2, r3⟩ := h.bx b cs' eb
    refine ⟨k', e', x1, ?_, us, el, f, r1, r2, r3.imp fun _ _ => LR.keeps hk⟩
    rintro o (p | ⟨p, _⟩)
    · exact x2 o p
    · exact (h.tbx t tg k' b hlive e p e').elim
  · intro b eb
    by_cases hb : b = t
    · subst hb; simp [S.put, upd_same] at eb
    · simp only [S.put, upd_ne _ _ _ _ hb] at eb; exact h.tk0 b eb
  · intro i sh' T' l' ei
    by_cases hb : i = t
    · subst hb
      simp only [S.put, upd_same] at ei; cases ei
      refine ⟨tg, e, ez, r.imp id ?_⟩
      rintro ⟨k, cap, a1, a2, a3⟩
      obtain ⟨us, el, f, r1, r2, r3, r4⟩ := a3.row
      refine ⟨k, cap, a1, a2, a3.above, a3.len, ⟨us, el, f, r1, r2, r3, r4.keeps hk.pr⟩, ?_, fun _ o p => .inr ⟨a2, p⟩, fun e => by cases e⟩
      rintro o (p | ⟨_, p⟩)
      · exact absurd p (a3.prno rfl o)
      · exact p
    · simp only [S.put, upd_ne _ _ _ _ hb] at ei
      obtain ⟨tg', e1, e2, r'⟩ := h.tk i sh' T' l' ei
      refine ⟨tg', e1, e2, r'.imp id ?_⟩
      rintro ⟨k, cap, a1, a2, a3⟩
      obtain ⟨us, el, f, r1, r2, r3, r4⟩ := a3.row
      have hne : ∀ o, pr' k o → g.pr k o := by
        rintro o (p | ⟨p, _⟩)
        · exact p
        · exact absurd (h.tinj i t tg' tg k (by rw [ei]; rfl) hlive e1 e a2 p) hb
      exact ⟨k, cap, a1, a2, a3.above, a3.len, ⟨us, el, f, r1, r2, r3, r4.keeps hk.pr⟩, fun o p => a3.prlt o (hne o p), fun e o p => .inl (a3.prsh e o p), fun e o p => a3.prno e o (hne o p)⟩
  · intro i i' x x' k l1 l2 e1 e2 e3 e4
    refine h.tinj i i' x x' k ?_ ?_ e1 e2 e3 e4
    · by_cases hb : i = t
      · rw [hb]; exact hlive
      · simpa [S.put, upd_ne _ _ _ _ hb] using l1
    · by_cases hb : i' = t
      · rw [hb]; exact hlive
      · simpa [S.put, upd_ne _ _ _ _ hb] using l2
  · intro i x k b hl e1 e2 e3
    refine h.tbx i x k b ?_ e1 e2 e3
    by_cases hb : i = t
    · rw [hb]; exact hlive
    · simpa [S.put, upd_ne _ _ _ _ hb] using hl
  · rcases r with ⟨a1, a2, rfl⟩ | ⟨k, cap, a1, a2, a3⟩
    · rw [a1]; exact TR_nilsl _ _ _
    · obtain ⟨us, el, f, r1, r2, r3, r4⟩ := a3.row
      refine ⟨some ⟨k, 0, none⟩, cap, by rw [a1], ⟨a3.len, fun e => by cases e⟩, fun j x hx => ?_⟩
      obtain ⟨vs, b1, b2, b3⟩ := r4 j x hx
      refine ⟨⟨k, 0, none⟩, vs, rfl, b1, fun i v hv => ?_, b3.keeps hk.pr⟩
      have hadd : (⟨k, 0, none⟩ : Addr).add (j * T.size + i) = ⟨k, j * T.size + i, none⟩ := by unfold Addr.add; split <;> simp_all
      rw [hadd]
      refine ⟨by rw [cell_of r1]; exact b2 i v hv, .inr ⟨a2, ?_⟩⟩
      have hj : j < l.length := (List.getElem?_eq_some_iff.1 hx).1
      have hi : i < T.size := by rw [← b1]; exact (List.getElem?_eq_some_iff.1 hv).1
      calc j * T.size + i < j * T.size + T.size := by omega
        _ = (j + 1) * T.size := by rw [Nat.add_mul]; omega
        _ ≤ l.length * T.size := Nat.mul_le_mul_right _ (by omega)

/-- what a shared token tells -/
theorem Rel.shared (h : Rel B g s w a N) {t : Nat} {T : Ty} {l : List T.den} (ht : s.toks t = .live true T l) : ∃ tg, g.τ t = some tg ∧ TR w g.pr (.slice T) l [tg.val] := by
  obtain ⟨tg, e, ez, r⟩ := h.tk t true T l ht
  refine ⟨tg, e, ?_⟩
  rcases r with ⟨a1, a2, rfl⟩ | ⟨k, cap, a1, a2, a3⟩
  · rw [a1]; exact TR_nilsl _ _ _
  · obtain ⟨us, el, f, r1, r2, r3, r4⟩ := a3.row
    refine ⟨some ⟨k, 0, none⟩, cap, by rw [a1], ⟨a3.len, fun e => by cases e⟩, fun j x hx => ?_⟩
    obtain ⟨vs, b1, b2, b3⟩ := r4 j x hx
    refine ⟨⟨k, 0, none⟩, vs, rfl, b1, fun i v hv => ?_, b3⟩
    have hadd : (⟨k, 0, none⟩ : Addr).add (j * T.size + i) = ⟨k, j * T.size + i, none⟩ := by unfold Addr.add; split <;> simp_all
    rw [hadd]
    refine ⟨by rw [cell_of r1]; exact b2 i v hv, a3.prsh rfl _ ?_⟩
    have hj : j < l.length := (List.getElem?_eq_some_iff.1 hx).1
    have hi : i < T.size := by rw [← b1]; exact (List.getElem?_eq_some_iff.1 hv).1
    calc j * T.size + i < j * T.size + T.size := by omega
      _ = (j + 1) * T.size := by rw [Nat.add_mul]; omega
      _ ≤ l.length * T.size := Nat.mul_le_mul_right _ (by omega)

/-- another content of one block, the rest as it is -/
def Only (k : Nat) (w w' : World) : Prop := w'.heap.size = w.heap.size ∧ ∀ i, i ≠ k → w'.heap[i]? = w.heap[i]?

/-- G9: a block that is nobody's turns, but for what is protected in it -/
theorem Rel.other (h : Rel B g s w a N) {k : Nat} (hf : Fresh g s k) (ho : Only k w w') (hp : ∀ o, g.pr k o → w'.cell? ⟨k, o, none⟩ = w.cell? ⟨k, o, none⟩) :
    Rel B g s w' a N ∧ Keeps w g w' g := by
  have hk : Keeps w g w' g := by
    refine ⟨fun i o p => ⟨p, ?_⟩, fun _ _ x => x, fun _ _ x => x⟩
    by_cases e : i = k
    · subst e; exact hp o p
    · exact cell_heap (ho.2 i e) o
  refine ⟨⟨h.df, h.nt, by rw [ho.1]; exact h.hB, fun t => (h.tm t).keeps hk, fun i o p => by rw [ho.1]; exact h.prlt i o p, h.bx0, ?_, h.binj, h.tk0, ?_, h.tinj, h.tbx, h.prB, h.ex.keep hk (fun _ h => h)⟩, hk⟩
  · intro b cs hb
    obtain ⟨i, e, ab, fr, us, el, f, r1, r2, r3⟩ := h.bx b cs hb
    have hne : i ≠ k := fun e' => hf.β b (by rw [e, e'])
    exact ⟨i, e, ab, fr, us, el, f, (ho.2 i hne).trans r1, r2, r3.imp fun _ _ => LR.keeps hk⟩
  · intro t sh T l ht
    obtain ⟨tg, e, ez, r⟩ := h.tk t sh T l ht
    refine ⟨tg, e, ez, r.imp id ?_⟩
    rintro ⟨i, cap, a1, a2, a3⟩
    have hne : i ≠ k := fun e' => hf.τ t tg (by rw [ht]; rfl) e (by rw [a2, e'])
    obtain ⟨us, el, f, r1, r2, r3, r4⟩ := a3.row
    exact ⟨i, cap, a1, a2, a3.above, a3.len, ⟨us, el, f, (ho.2 i hne).trans r1, r2, r3, r4.keeps hk.pr⟩, a3.prlt, a3.prsh, a3.prno⟩

/-- G6: a box turns -/
theorem Rel.setBox (h : Rel B g s w a N) {b k : Nat} {cs cs' : List AV} (hb : s.boxes b = some cs) (hβ : g.β b = some k) (ho : Only k w w')
    {us : Array Value} {e : TypeId} {fr : Nat × Nat} (hr : w'.heap[k]? = some (.cells us e fr)) (ht : Thawed fr us.size) (hc : All2 (LR w g) cs' us.toList)
    (hp : ∀ o, g.pr k o → w'.cell? ⟨k, o, none⟩ = w.cell? ⟨k, o, none⟩) (hfz : ∀ o, g.pr k o → ∃ v, cs'[o]? = some (.fz v)) :
    Rel B g (s.put (.box b cs')) w' a N ∧ Keeps w g w' g := by
  obtain ⟨k', e', ok⟩ := h.bx b cs hb
  rw [hβ] at e'; cases e'
  have hk : Keeps w g w' g := by
    refine ⟨fun i o p => ⟨p, ?_⟩, fun _ _ x => x, fun _ _ x => x⟩
    by_cases e : i = k
    · subst e; exact hp o p
    · exact cell_heap (ho.2 i e) o
  refine ⟨⟨h.df, h.nt, by rw [ho.1]; exact h.hB, fun t => (h.tm t).keeps hk, fun i o p => by rw [ho.1]; exact h.prlt i o p, ?_, ?_, h.binj, h.tk0, ?_, h.tinj, h.tbx, h.prB, h.ex.keep hk (fun b' hb' => ?_)⟩, hk⟩
  · intro b' e'
    by_cases eb : b' = b
    · subst eb; simp [S.put, upd_same] at e'
    · simp only [S.put, upd_ne _ _ _ _ eb] at e'; exact h.bx0 b' e'
  · intro b' cs2 hb'
    by_cases eb : b' = b
    · subst eb
      simp only [S.put, upd_same] at hb'; cases hb'
      exact ⟨k, hβ, ok.above, hfz, us, e, fr, hr, ht, hc.imp fun _ _ => LR.keeps hk⟩
    · simp only [S.put, upd_ne _ _ _ _ eb] at hb'
      obtain ⟨i, e, ab, fr, us, el, f, r1, r2, r3⟩ := h.bx b' cs2 hb'
      have hne : i ≠ k := fun e' => eb (h.binj b' b k (by rw [e, e']) hβ)
      exact ⟨i, e, ab, fr, us, el, f, (ho.2 i hne).trans r1, r2, r3.imp fun _ _ => LR.keeps hk⟩
  · intro t sh T l ht
    obtain ⟨tg, e, ez, r⟩ := h.tk t sh T l ht
    refine ⟨tg, e, ez, r.imp id ?_⟩
    rintro ⟨i, cap, a1, a2, a3⟩
    have hl : (s.toks t).isLive = true := by rw [show s.toks t = _ from ht]; rfl
    have hne : i ≠ k := fun e' => h.tbx t tg k b hl e (by rw [a2, e']) hβ
    obtain ⟨us, el, f, r1, r2, r3, r4⟩ := a3.row
    exact ⟨i, cap, a1, a2, a3.above, a3.len, ⟨us, el, f, (ho.2 i hne).trans r1, r2, r3, r4.keeps hk.pr⟩, a3.prlt, a3.prsh, a3.prno⟩
  · by_cases eb : b' = b
    · rw [eb, hb]; simp
    · simpa [S.put, upd_ne _ _ _ _ eb] using hb'

/-- G7: an own row turns -/
theorem Rel.setTok (h : Rel B g s w a N) {t : Nat} {T : Ty} {l l' : List T.den} (hs : s.toks t = .live false T l) {tg : TG} {k cap : Nat} (hτ : g.τ t = some tg)
    (hv : tg.val = .slice (some ⟨k, 0, none⟩) l.length cap) (hb : tg.blk = some k) (hlen : l'.length = l.length) (ho : Only k w w')
    {us : Array Value} {e : TypeId} {fr : Nat × Nat} (hr : w'.heap[k]? = some (.cells us e fr)) (ht : Thawed fr us.size) (hsz : cap * T.size ≤ us.size) (hrow : RowOf w g.pr T l' us) :
    Rel B g (s.put (.tok t (.live false T l'))) w' a N ∧ Keeps w g w' g := by
  obtain ⟨tg', e', ez, r⟩ := h.tk t false T l hs
  rw [hτ] at e'; cases e'
  have ok : TokRow B w g.pr false T l k cap := by
    rcases r with ⟨_, x, _⟩ | ⟨k', cap', x1, x2, x3⟩
    · rw [hb] at x; cases x
    · rw [hv] at x1; cases x1; exact x3
  have hlive : (s.toks t).isLive = true := by rw [hs]; rfl
  have hk : Keeps w g w' g := by
    refine ⟨fun i o p => ⟨p, ?_⟩, fun _ _ x => x, fun _ _ x => x⟩
    by_cases e : i = k
    · subst e; exact absurd p (ok.prno rfl o)
    · exact cell_heap (ho.2 i e) o
  refine ⟨⟨h.df, h.nt, by rw [ho.1]; exact h.hB, fun t => (h.tm t).keeps hk, fun i o p => by rw [ho.1]; exact h.prlt i o p, h.bx0, ?_, h.binj, ?_, ?_, ?_, ?_, h.prB, h.ex.keep hk (fun _ h => h)⟩, hk⟩
  · intro b' cs2 hb'
    obtain ⟨i, e, ab, fr, us, el, f, r1, r2, r3⟩ := h.bx b' cs2 hb'
    have hne : i ≠ k := fun e' => h.tbx t tg k b' hlive hτ hb (by rw [e, e'])
    exact ⟨i, e, ab, fr, us, el, f, (ho.2 i hne).trans r1, r2, r3.imp fun _ _ => LR.keeps hk⟩
  · intro b eb
    by_cases hb' : b = t
    · subst hb'; simp [S.put, upd_same] at eb
    · simp only [S.put, upd_ne _ _ _ _ hb'] at eb; exact h.tk0 b eb
  · intro i sh' T' l2 ei
    by_cases hb' : i = t
    · subst hb'
      simp only [S.put, upd_same] at ei; cases ei
      refine ⟨tg, hτ, ez, .inr ⟨k, cap, by rw [hv, hlen], hb, ok.above, by rw [hlen]; exact ok.len, ⟨us, e, fr, hr, ht, hsz, hrow.keeps hk.pr⟩, fun o p => absurd p (ok.prno rfl o), (fun x => by cases x), ok.prno⟩⟩
    · simp only [S.put, upd_ne _ _ _ _ hb'] at ei
      obtain ⟨tg', e1, e2, r'⟩ := h.tk i sh' T' l2 ei
      refine ⟨tg', e1, e2, r'.imp id ?_⟩
      rintro ⟨j, cap', a1, a2, a3⟩
      have hne : j ≠ k := fun e' => hb' (h.tinj i t tg' tg k (by rw [ei]; rfl) hlive e1 hτ (by rw [a2, e']) hb)
      obtain ⟨us, el, f, r1, r2, r3, r4⟩ := a3.row
      exact ⟨j, cap', a1, a2, a3.above, a3.len, ⟨us, el, f, (ho.2 j hne).trans r1, r2, r3, r4.keeps hk.pr⟩, a3.prlt, a3.prsh, a3.prno⟩
  · intro i i' x x' k l1 l2 e1 e2 e3 e4
    refine h.tinj i i' x x' k ?_ ?_ e1 e2 e3 e4
    · by_cases hb : i = t
      · rw [hb]; exact hlive
      · simpa [S.put, upd_ne _ _ _ _ hb] using l1
    · by_cases hb : i' = t
      · rw [hb]; exact hlive
      · simpa [S.put, upd_ne _ _ _ _ hb] using l2
  · intro i x k b hl e1 e2 e3
    refine h.tbx i x k b ?_ e1 e2 e3
    by_cases hb : i = t
    · rw [hb]; exact hlive
    · simpa [S.put, upd_ne _ _ _ _ hb] using hl
end

end Go.Proofs.YtjgnpmdbkgeakaaDoor.Th
