/- THEORY, part Q: forgetting; loops and jumps by functions of plain values. No condition. -/
import Derived.Test.YtjgnpmdbkgeakaaDoorThP
set_option linter.unusedVariables false
set_option linter.unusedSimpArgs false
namespace Go.Proofs.YtjgnpmdbkgeakaaDoor.Th
open Go Go.RowKit

theorem Pos.beq_iff {p q : Pos} : p.beq q = true ↔ p = q := by
  cases p <;> cases q <;> simp [Pos.beq]

section
variable {B : Bd} {N : Nat} {g : Gh} {s : S} {w w0 : World} {a : Act}

theorem shareT_rel (h : Rel B g s w a N) (t : Nat) : ∃ g', Rel B g' (shareT t s) w a N := by
  unfold shareT
  split
  · rename_i T l ht
    obtain ⟨g', _, h', _⟩ := h.share ht
    exact ⟨g', h'⟩
  · exact ⟨g, h⟩

theorem shareT_same (t : Nat) (s : S) : (shareT t s).tmps = s.tmps ∧ (shareT t s).boxes = s.boxes := by
  unfold shareT; split <;> exact ⟨rfl, rfl⟩

theorem snapT_rel (h : Rel B g s w a N) (m : MC) (v : AV) : ∃ g', Rel B g' (snapT m v s) w a N := by
  unfold snapT
  split
  · split
    · exact shareT_rel h _
    · exact ⟨g, h⟩
  · split
    · exact shareT_rel h _
    · exact ⟨g, h⟩
  · exact ⟨g, h⟩

theorem snapT_same (m : MC) (v : AV) (s : S) : (snapT m v s).tmps = s.tmps ∧ (snapT m v s).boxes = s.boxes := by
  unfold snapT
  split
  · split
    · exact shareT_same _ _
    · exact ⟨rfl, rfl⟩
  · split
    · exact shareT_same _ _
    · exact ⟨rfl, rfl⟩
  · exact ⟨rfl, rfl⟩

theorem shareAll_rel : ∀ (cs : List AV) {s : S} {g : Gh}, Rel B g s w a N → ∃ g', Rel B g' (shareAll cs s) w a N := by
  intro cs
  induction cs with
  | nil => intro s g h; exact ⟨g, h⟩
  | cons v cs ih =>
    intro s g h
    unfold shareAll
    split
    · obtain ⟨g', h'⟩ := shareT_rel h _
      exact ih h'
    · exact ih h

theorem shareAll_same : ∀ (cs : List AV) (s : S), (shareAll cs s).tmps = s.tmps ∧ (shareAll cs s).boxes = s.boxes := by
  intro cs
  induction cs with
  | nil => intro s; exact ⟨rfl, rfl⟩
  | cons v cs ih =>
    intro s
    unfold shareAll
    split
    · obtain ⟨e1, e2⟩ := ih (shareT _ s)
      obtain ⟨e3, e4⟩ := shareT_same _ s
      exact ⟨e1.trans e3, e2.trans e4⟩
    · exact ih s

theorem snapP_rel (h : Rel B g s w a N) (p : Pos) (m : MC) : ∃ g', Rel B g' (snapP p m s) w a N := by
  unfold snapP
  split
  · split
    · split
      · exact shareAll_rel _ h
      · exact ⟨g, h⟩
    · exact ⟨g, h⟩
  · exact snapT_rel h _ _
  · exact snapT_rel h _ _

theorem snapP_same (p : Pos) (m : MC) (s : S) : (snapP p m s).tmps = s.tmps ∧ (snapP p m s).boxes = s.boxes := by
  unfold snapP
  split
  · split
    · split
      · exact shareAll_same _ _
      · exact ⟨rfl, rfl⟩
    · exact ⟨rfl, rfl⟩
  · exact snapT_same _ _ _
  · exact snapT_same _ _ _

theorem snapL_rel : ∀ (l : List (Pos × MC)) {s : S} {g : Gh}, Rel B g s w a N → ∃ g', Rel B g' (snapL l s) w a N := by
  intro l
  induction l with
  | nil => intro s g h; exact ⟨g, h⟩
  | cons x l ih =>
    intro s g h
    obtain ⟨p, m⟩ := x
    obtain ⟨g', h'⟩ := snapP_rel h p m
    exact ih h'

theorem snapL_same : ∀ (l : List (Pos × MC)) (s : S), (snapL l s).tmps = s.tmps ∧ (snapL l s).boxes = s.boxes := by
  intro l
  induction l with
  | nil => intro s; exact ⟨rfl, rfl⟩
  | cons x l ih =>
    intro s
    obtain ⟨p, m⟩ := x
    obtain ⟨e1, e2⟩ := ih (snapP p m s)
    obtain ⟨e3, e4⟩ := snapP_same p m s
    exact ⟨e1.trans e3, e2.trans e4⟩

theorem TR_av {pr : Nat → Nat → Prop} {T : Ty} {x : T.den} {u : Value} (hs : T.isSt = false) (h : TR w pr T x [u]) : PR w pr (T.av x) u := by
  have := cells_PR h
  have hl := this.len
  cases hc : T.cells x with
  | nil => rw [hc] at hl; simp at hl
  | cons v vs =>
    rw [hc] at this
    unfold Ty.av
    simp only [hs, hc, List.headD_cons]
    exact this.1

theorem decV_PV (h : Rel B g s w a N) {T : Ty} {v : AV} {x : T.den} {u : Value} (hd : decV s T v = some x) (hv : VR w g v u) : PV w g.pr (T.av x) u := by
  unfold decV at hd
  split at hd
  · rename_i hs
    split at hd
    · rename_i cs
      obtain ⟨us, e, hu⟩ := hv
      have := ofCells_TR hd hu
      refine .inr ⟨T.cells x, us, ?_, e, cells_PR this⟩
      unfold Ty.av
      simp only [hs]
    · cases hd
  · rename_i hs
    split at hd
    · rename_i t
      split at hd
      · rename_i T' l ht
        obtain ⟨tg, e1, hr⟩ := h.shared ht
        obtain ⟨tg', e2, e3, _⟩ := hv
        rw [e1] at e2; cases e2
        rw [e3]
        exact .inl (TR_av hs (ofCells_TR hd (show All2 (PR w g.pr) [.sl T' l] [tg.val] from ⟨hr, trivial⟩)))
      · cases hd
    · cases hp : isPlainCell v with
      | false => rw [hp] at hd; cases hd
      | true =>
        rw [hp] at hd
        have hu : PR w g.pr v u := by
          cases v <;> first | exact hv | (simp [isPlainCell] at hp)
        exact .inl (TR_av hs (ofCells_TR hd (show All2 (PR w g.pr) [v] [u] from ⟨hu, trivial⟩)))

theorem decV_LR (h : Rel B g s w a N) {T : Ty} {v : AV} {x : T.den} {u : Value} (hd : decV s T v = some x) (hv : VR w g v u) {g' : Gh} (hg : g'.pr = g.pr) : LR w g' (T.av x) u := by
  have := decV_PV h hd hv
  rw [← hg] at this
  exact this.LR

/-- one row: where it comes from -/
structure Row1 (B : Bd) (w : World) (g : Gh) (s : S) (used used' : List Nat) (tok : Tok) (tg : TG) : Prop where
  live : ∃ sh T l, tok = .live sh T l ∧ TokOK B w g.pr sh T l tg
  src : ∀ k, tg.blk = some k → ∃ h tg0, h ∈ used' ∧ h ∉ used ∧ (s.toks h).isLive = true ∧ g.τ h = some tg0 ∧ tg0.blk = some k

theorem decR_ok (h : Rel B g s w a N) {sh : Bool} {T : Ty} {v : AV} {used used' : List Nat} {x : List T.den} (hd : decR s sh T v used = some (x, used')) :
    ∃ tg, Row1 B w g s used used' (.live sh T x) tg ∧ (∀ t ∈ used, t ∈ used') ∧ ∀ u, VR w g v u → u = tg.val ∧ u.oneCell' = true := by
  unfold decR at hd
  split at hd
  · cases hd
    refine ⟨⟨.slice none 0 0, none, T.size⟩, ⟨⟨sh, T, _, rfl, rfl, .inl ⟨rfl, rfl, rfl⟩⟩, fun k hk => by cases hk⟩, fun _ h => h, fun u hu => ?_⟩
    rw [show u = _ from hu]; exact ⟨rfl, rfl⟩
  · rename_i t
    split at hd
    · rename_i sh' T' l ht
      cases hq : (bif sh' == sh then !used.any (Nat.beq t) else false) with
      | false => rw [hq] at hd; cases hd
      | true =>
        rw [hq] at hd
        simp only [cond_true] at hd
        cases hdec : T'.dec T with
        | none => rw [hdec] at hd; cases hd
        | some e =>
          rw [hdec] at hd
          obtain ⟨rfl⟩ := e
          simp only [Option.some.injEq, Prod.mk.injEq] at hd
          obtain ⟨hx, hu⟩ := hd
          replace hx := hx.symm
          subst hx; subst hu
          have h1 : sh' = sh := by
            cases hx : (sh' == sh) with
            | true => simpa using hx
            | false => rw [hx] at hq; cases hq
          subst h1
          simp only [beq_self_eq_true, cond_true, Bool.not_eq_true'] at hq
          have hnot : t ∉ used := by
            intro hm
            have := List.any_eq_false.1 hq t hm
            rw [Nat.beq_refl] at this
            exact this rfl
          obtain ⟨tg, e1, ok⟩ := h.tk t sh' T' x ht
          refine ⟨tg, ⟨⟨sh', T', x, rfl, ok⟩, fun k hk => ⟨t, tg, .head _, hnot, by rw [ht]; rfl, e1, hk⟩⟩, fun y hy => .tail _ hy, fun u hu => ?_⟩
          obtain ⟨tg', e2, e3, e4⟩ := hu
          rw [e1] at e2; cases e2
          exact ⟨e3, e4⟩
    · cases hd
  · cases hd

/-- what was kept: the rows, and the values -/
structure Kept (B : Bd) (w : World) (g : Gh) (s : S) (bs : List Nat) (l : List (Pos × MC)) (v : denL l) (used used' : List Nat) (tgs : List (Nat × TG)) : Prop where
  keys : tgs.map (·.1) = (tkL l v).map (·.1)
  rows : ∀ (i n m : Nat) (tok : Tok) (tg : TG), (tkL l v)[i]? = some (n, tok) → tgs[i]? = some (m, tg) → Row1 B w g s used used' tok tg
  inj : ∀ (i j n n' k : Nat) (tg tg' : TG), tgs[i]? = some (n, tg) → tgs[j]? = some (n', tg') → tg.blk = some k → tg'.blk = some k → i = j
  mono : ∀ t ∈ used, t ∈ used'
  vals : ∀ g' : Gh, g'.pr = g.pr → (∀ b ∈ bs, g'.β b = g.β b) → (∀ n tg, (n, tg) ∈ tgs → g'.τ n = some tg) → ∀ p x, (p, x) ∈ avL l v → ∀ u, VR w g (p.get s) u → LR w g' x u

theorem Row1.used {used0 used1 used used' : List Nat} {tok : Tok} {tg : TG} (h : Row1 B w g s used used' tok tg) (h0 : ∀ t ∈ used0, t ∈ used) (h1 : ∀ t ∈ used', t ∈ used1) : Row1 B w g s used0 used1 tok tg :=
  ⟨h.live, fun k hk => let ⟨t, tg0, a, b, c⟩ := h.src k hk; ⟨t, tg0, h1 t a, fun hm => b (h0 t hm), c⟩⟩

theorem decL_ok (h : Rel B g s w a N) (bs : List Nat) : ∀ (l : List (Pos × MC)) {used used' : List Nat} {v : denL l}, decL s bs l used = some (v, used') → ∃ tgs, Kept B w g s bs l v used used' tgs := by
  intro l
  induction l with
  | nil =>
    intro used used' v hd
    simp only [decL] at hd
    cases hd
    exact ⟨[], rfl, fun i n m tok tg h => by simp [tkL] at h, fun i j n n' k tg tg' h => by simp at h, fun _ h => h, fun g' _ _ _ p x hx => by simp [avL] at hx⟩
  | cons q l ih =>
    intro used used' v hd
    obtain ⟨p, m⟩ := q
    cases m with
    | val T =>
      simp only [decL] at hd
      cases h1 : decV s T (p.get s) with
      | none => rw [h1] at hd; cases hd
      | some x =>
        rw [h1] at hd
        simp only [] at hd
        cases h2 : decL s bs l used with
        | none => rw [h2] at hd; cases hd
        | some y =>
          obtain ⟨y1, y2⟩ := y
          rw [h2] at hd; cases hd
          obtain ⟨tgs, K⟩ := ih h2
          refine ⟨tgs, K.keys, K.rows, K.inj, K.mono, fun g' e1 e2 e3 p' x' hx u hu => ?_⟩
          rcases List.mem_cons.1 (show (p', x') ∈ (p, T.av x) :: avL l y1 from hx) with e | hx
          · cases e; exact decV_LR h h1 hu e1
          · exact K.vals g' e1 e2 e3 p' x' hx u hu
    | row sh T =>
      simp only [decL] at hd
      cases h1 : decR s sh T (p.get s) used with
      | none => rw [h1] at hd; cases hd
      | some x =>
        obtain ⟨x1, x2⟩ := x
        rw [h1] at hd
        simp only [] at hd
        cases h2 : decL s bs l x2 with
        | none => rw [h2] at hd; cases hd
        | some y =>
          obtain ⟨y1, y2⟩ := y
          rw [h2] at hd; cases hd
          obtain ⟨tgs, K⟩ := ih h2
          obtain ⟨tg, R1, R2, R3⟩ := decR_ok h h1
          refine ⟨(p.name, tg) :: tgs, by simp [tkL, K.keys], ?_, ?_, fun t ht => K.mono t (R2 t ht), ?_⟩
          · intro i n m' tok tg' e1 e2
            cases i with
            | zero =>
              simp [tkL] at e1 e2
              obtain ⟨_, rfl⟩ := e1
              obtain ⟨_, rfl⟩ := e2
              exact R1.used (fun _ h => h) K.mono
            | succ i =>
              simp [tkL] at e1 e2
              exact (K.rows i n m' tok tg' e1 e2).used R2 (fun _ h => h)
          · have key : ∀ (j n' k : Nat) (tg' : TG), tgs[j]? = some (n', tg') → tg.blk = some k → tg'.blk = some k → False := by
              intro j n' k tg' e1 e2 e3
              obtain ⟨t, tg0, a1, a2, a3, a4, a5⟩ := R1.src k e2
              have hlen : j < (tkL l y1).length := by
                have := congrArg List.length K.keys
                simp only [List.length_map] at this
                have := (List.getElem?_eq_some_iff.1 e1).1
                omega
              obtain ⟨t', tg0', b1, b2, b3, b4, b5⟩ := (K.rows j _ n' _ tg' (List.getElem?_eq_getElem hlen) e1).src k e3
              have := h.tinj t t' tg0 tg0' k a3 b3 a4 b4 a5 b5
              subst this
              exact b2 a1
            intro i j n n' k tg1 tg2 e1 e2 e3 e4
            cases i with
            | zero =>
              simp at e1; obtain ⟨_, rfl⟩ := e1
              cases j with
              | zero => rfl
              | succ j => exact (key j n' k tg2 (by simpa using e2) e3 e4).elim
            | succ i =>
              cases j with
              | zero => simp at e2; obtain ⟨_, rfl⟩ := e2; exact (key i n k tg1 (by simpa using e1) e4 e3).elim
              | succ j => rw [K.inj i j n n' k tg1 tg2 (by simpa using e1) (by simpa using e2) e3 e4]
          · intro g' e1 e2 e3 p' x' hx u hu
            rcases List.mem_cons.1 (show (p', x') ∈ (p, AV.ref p.name) :: avL l y1 from hx) with e | hx
            · cases e
              obtain ⟨r1, r2⟩ := R3 u hu
              exact ⟨tg, e3 _ _ (.head _), r1, r2⟩
            · exact K.vals g' e1 e2 (fun n tg' hm => e3 n tg' (.tail _ hm)) p' x' hx u hu
    | ptr b o =>
      simp only [decL] at hd
      cases h1 : decP bs b o (p.get s) with
      | false => rw [h1] at hd; cases hd
      | true =>
        rw [h1] at hd
        obtain ⟨tgs, K⟩ := ih hd
        refine ⟨tgs, K.keys, K.rows, K.inj, K.mono, fun g' e1 e2 e3 p' x' hx u hu => ?_⟩
        rcases List.mem_cons.1 (show (p', x') ∈ (p, AV.ptr b o) :: avL l v from hx) with e | hx
        · cases e
          unfold decP at h1
          split at h1
          · rename_i b' o' hp
            rw [hp] at hu
            cases hb : Nat.beq b' b with
            | false => rw [hb] at h1; cases h1
            | true =>
              rw [hb] at h1
              simp only [cond_true] at h1
              cases hoo : Nat.beq o' o with
              | false => rw [hoo] at h1; cases h1
              | true =>
                rw [hoo] at h1
                simp only [cond_true] at h1
                have eb := Nat.eq_of_beq_eq_true hb
                have eo := Nat.eq_of_beq_eq_true hoo
                subst eb; subst eo
                obtain ⟨k, f1, f2⟩ := hu
                obtain ⟨b2, hm, hb2⟩ := List.any_eq_true.1 h1
                have := Nat.eq_of_beq_eq_true hb2
                subst this
                exact ⟨k, by rw [e2 _ hm]; exact f1, f2⟩
          · cases h1
        · exact K.vals g' e1 e2 e3 p' x' hx u hu

theorem tbl_pair {α β : Type} (d1 : α) (d2 : β) (t : Nat) : ∀ {l1 : List (Nat × α)} {l2 : List (Nat × β)}, l2.map (·.1) = l1.map (·.1) →
    (∃ (i : Nat) (a : α) (b : β), l1[i]? = some (t, a) ∧ l2[i]? = some (t, b) ∧ tbl d1 l1 t = a ∧ tbl d2 l2 t = b) ∨ (tbl d1 l1 t = d1 ∧ tbl d2 l2 t = d2 ∧ t ∉ l2.map (·.1))
  | [], [], _ => .inr ⟨rfl, rfl, by simp⟩
  | (n, a) :: l1, (n', b) :: l2, h => by
    simp only [List.map_cons, List.cons.injEq] at h
    obtain ⟨e, h⟩ := h
    subst e
    cases hb : Nat.beq t n' with
    | true =>
      have := Nat.eq_of_beq_eq_true hb
      subst this
      exact .inl ⟨0, a, b, rfl, rfl, by simp [tbl], by simp [tbl]⟩
    | false =>
      rcases tbl_pair d1 d2 t h with ⟨i, a', b', e1, e2, e3, e4⟩ | ⟨e1, e2, e3⟩
      · exact .inl ⟨i + 1, a', b', by simpa using e1, by simpa using e2, by simp only [tbl, hb, cond_false]; exact e3, by simp only [tbl, hb, cond_false]; exact e4⟩
      · refine .inr ⟨by simp only [tbl, hb, cond_false]; exact e1, by simp only [tbl, hb, cond_false]; exact e2, ?_⟩
        have hne : t ≠ n' := fun e => by subst e; rw [Nat.beq_refl] at hb; cases hb
        simp only [List.map_cons, List.mem_cons, not_or]
        exact ⟨hne, e3⟩
  | [], _ :: _, h => by simp at h
  | _ :: _, [], h => by simp at h

theorem nodupB_iff : ∀ {l : List Nat}, nodupB l = true → l.Nodup
  | [], _ => .nil
  | a :: l, h => by
    simp only [nodupB, Bool.and_eq_true, Bool.not_eq_true'] at h
    refine List.nodup_cons.2 ⟨fun hm => ?_, nodupB_iff h.2⟩
    have := List.any_eq_false.1 h.1 a hm
    rw [Nat.beq_refl] at this
    exact this rfl

theorem tkL_keys : ∀ (l : List (Pos × MC)) (v : denL l), ((tkL l v).map (·.1)).Sublist (l.map fun x => x.1.name)
  | [], _ => .slnil
  | (p, .val _) :: l, v => .cons _ (tkL_keys l v.2)
  | (p, .row _ _) :: l, v => .cons_cons _ (tkL_keys l v.2)
  | (p, .ptr _ _) :: l, v => .cons _ (tkL_keys l v)

theorem tkL_live : ∀ (l : List (Pos × MC)) (v : denL l) (n : Nat) (tok : Tok), (n, tok) ∈ tkL l v → tok.isLive = true
  | [], _, n, tok, h => by simp [tkL] at h
  | (p, .val _) :: l, v, n, tok, h => tkL_live l v.2 n tok h
  | (p, .ptr _ _) :: l, v, n, tok, h => tkL_live l v n tok h
  | (p, .row _ _) :: l, v, n, tok, h => by
    rcases List.mem_cons.1 (show (n, tok) ∈ _ :: tkL l v.2 from h) with e | h
    · cases e; rfl
    · exact tkL_live l v.2 n tok h

theorem lookP_or (l : List (Pos × AV)) (p : Pos) : lookP l p = .undef ∨ (p, lookP l p) ∈ l := by
  induction l with
  | nil => exact .inl rfl
  | cons q l ih =>
    obtain ⟨q, v⟩ := q
    simp only [lookP]
    cases h : q.beq p with
    | true => have := Pos.beq_iff.1 h; subst this; exact .inr (.head _)
    | false => exact ih.imp id (.tail _)

theorem boxesOK_get : ∀ {l : List (Nat × Nat)}, boxesOK s l = true → ∀ b n, (b, n) ∈ l → ∃ cs, s.boxes b = some cs ∧ cs.length = n ∧ cs.any isFz = false
  | [], _, b, n, h => by simp at h
  | (b', n') :: l, hk, b, n, h => by
    simp only [boxesOK] at hk
    split at hk
    · rename_i cs hcs
      cases hn : Nat.beq cs.length n' with
      | false => rw [hn] at hk; cases hk
      | true =>
        rw [hn] at hk
        cases hf : cs.any isFz with
        | true => rw [hf] at hk; cases hk
        | false =>
        rw [hf] at hk
        rcases List.mem_cons.1 h with e | h
        · cases e; exact ⟨cs, hcs, Nat.eq_of_beq_eq_true hn, hf⟩
        · exact boxesOK_get hk b n h
    · cases hk

theorem tbl_mem {α : Type} {d : α} : ∀ {l : List (Nat × α)} {t : Nat}, (t, tbl d l t) ∈ l ∨ (tbl d l t = d ∧ ∀ x, (t, x) ∉ l)
  | [], t => .inr ⟨rfl, by simp⟩
  | (n, v) :: l, t => by
    cases hb : Nat.beq t n with
    | true => have := Nat.eq_of_beq_eq_true hb; subst this; exact .inl (by simp [tbl])
    | false =>
      have hne : t ≠ n := fun e => by subst e; rw [Nat.beq_refl] at hb; cases hb
      rcases tbl_mem (d := d) (l := l) (t := t) with h | ⟨h1, h2⟩
      · exact .inl (by simp only [tbl, hb, cond_false]; exact .tail _ h)
      · refine .inr ⟨by simp only [tbl, hb, cond_false]; exact h1, fun x hx => ?_⟩
        rcases List.mem_cons.1 hx with e | hx
        · cases e; exact hne rfl
        · exact h2 x hx

theorem tbl_of_nodup {α : Type} {d : α} : ∀ {l : List (Nat × α)} {t : Nat} {x : α}, (l.map (·.1)).Nodup → (t, x) ∈ l → tbl d l t = x
  | [], _, _, _, h => by simp at h
  | (n, v) :: l, t, x, hn, h => by
    simp only [List.map_cons, List.nodup_cons] at hn
    rcases List.mem_cons.1 h with e | h2
    · cases e; simp [tbl]
    · have hne : t ≠ n := fun e => hn.1 (by subst e; exact List.mem_map_of_mem (f := fun x : Nat × α => x.1) h2)
      have hb : Nat.beq t n = false := by
        cases hb : Nat.beq t n with
        | false => rfl
        | true => exact absurd (Nat.eq_of_beq_eq_true hb) hne
      simp only [tbl, hb, cond_false]
      exact tbl_of_nodup hn.2 h2

/-- what was kept is so -/
theorem Msk.dec_J {m : Msk} (hm : m.ok = true) {v : m.den} (hd : m.dec s = some v) (hJ : J B w0 N s a w) : J B w0 N (m.enc v) a w := by
  obtain ⟨g0, h0, hb⟩ := hJ
  unfold Msk.dec at hd
  cases hbx : boxesOK s m.boxes with
  | false => rw [hbx] at hd; cases hd
  | true =>
    rw [hbx] at hd
    simp only [] at hd
    cases hdl : decL (snapL m.items s) (m.boxes.map (·.1)) m.items [] with
    | none => rw [hdl] at hd; cases hd
    | some y =>
      obtain ⟨v', used'⟩ := y
      rw [hdl] at hd
      have hvv : v = v' := by simpa using hd.symm
      subst hvv
      clear hd
      obtain ⟨g, h⟩ := snapL_rel m.items h0
      have hbx' : boxesOK (snapL m.items s) m.boxes = true := by
        have : ∀ l, boxesOK (snapL m.items s) l = boxesOK s l := by
          intro l
          induction l with
          | nil => rfl
          | cons x l ih => simp only [boxesOK, ih, (snapL_same m.items s).2]
        rw [this]; exact hbx
      clear hbx h0
      generalize snapL m.items s = s at *
      obtain ⟨tgs, K⟩ := decL_ok h _ m.items hdl
      clear hdl
      have hnd : (tgs.map (·.1)).Nodup := by
        rw [K.keys]
        exact (tkL_keys m.items v).nodup (nodupB_iff hm)
      let g' : Gh := { pr := g.pr, β := fun b => bif (m.boxes.map (·.1)).any (Nat.beq b) then g.β b else none, τ := tbl none (tgs.map fun x => (x.1, some x.2)) }
      have hmemb : ∀ b, b ∈ m.boxes.map (·.1) → (m.boxes.map (·.1)).any (Nat.beq b) = true := fun b hb => List.any_eq_true.2 ⟨b, hb, Nat.beq_refl b⟩
      have hβ : ∀ b ∈ m.boxes.map (·.1), g'.β b = g.β b := fun b hb => by simp only [g', hmemb b hb, cond_true]
      have hβ2 : ∀ b k, g'.β b = some k → g.β b = some k := fun b k e => by
        simp only [g'] at e
        cases hh : (m.boxes.map (·.1)).any (Nat.beq b) with
        | true => rw [hh] at e; exact e
        | false => rw [hh] at e; cases e
      have hkeys2 : (tgs.map fun x => (x.1, some x.2)).map (·.1) = tgs.map (·.1) := by simp
      have hτ : ∀ n tg, (n, tg) ∈ tgs → g'.τ n = some tg := fun n tg hm =>
        tbl_of_nodup (by rw [hkeys2]; exact hnd) (List.mem_map_of_mem (f := fun x : Nat × TG => (x.1, some x.2)) hm)
      have vals := K.vals g' rfl hβ hτ
      have hpair : ∀ t, (∃ (i : Nat) (tok : Tok) (tg : TG), (tkL m.items v)[i]? = some (t, tok) ∧ tgs[i]? = some (t, tg) ∧ (m.enc v).toks t = tok ∧ g'.τ t = some tg) ∨ ((m.enc v).toks t = .abs ∧ g'.τ t = none) := by
        intro t
        rcases tbl_pair Tok.abs (none : Option TG) t (l1 := tkL m.items v) (l2 := tgs.map fun x => (x.1, some x.2)) (by rw [hkeys2]; exact K.keys) with ⟨i, tok, b, e1, e2, e3, e4⟩ | ⟨e1, e2, _⟩
        · left
          rw [List.getElem?_map] at e2
          cases ht : tgs[i]? with
          | none => rw [ht] at e2; cases e2
          | some x =>
            rw [ht] at e2
            simp only [Option.map_some, Option.some.injEq, Prod.mk.injEq] at e2
            refine ⟨i, tok, x.2, e1, ?_, e3, ?_⟩
            · exact ht.trans (congrArg some (Prod.ext e2.1 rfl))
            · rw [← e2.2] at e4; exact e4
        · exact .inr ⟨e1, e2⟩
      refine ⟨g', ⟨h.df, h.nt, h.hB, ?_, h.prlt, ?_, ?_, ?_, ?_, ?_, ?_, ?_, h.prB, ⟨fun b k e => ⟨(h.ex.lb b k e).1, fun hne => ?_⟩, h.ex.gl⟩⟩, hb⟩
      · intro t
        show VR w g' (lookP (avL m.items v) (.tmp t)) _
        rcases lookP_or (avL m.items v) (.tmp t) with e | e
        · rw [e]; exact VR_of_LR (show LR w g' .undef _ from trivial)
        · exact VR_of_LR (vals _ _ e _ (h.tm t))
      · intro b e
        have e : (match tbl none (m.boxes.map fun x => (x.1, some x.2)) b with
          | some n => some ((List.range n).map fun j => lookP (avL m.items v) (.cell b j))
          | none => none) = none := e
        rcases tbl_mem (d := (none : Option Nat)) (l := m.boxes.map fun x => (x.1, some x.2)) (t := b) with hh | ⟨hh, hn⟩
        · obtain ⟨x, hx, ex⟩ := List.mem_map.1 hh
          simp only [Prod.mk.injEq] at ex
          rw [← ex.2] at e; cases e
        · have : (m.boxes.map (·.1)).any (Nat.beq b) = false := by
            rw [List.any_eq_false]
            intro x hx hbq
            have := Nat.eq_of_beq_eq_true hbq
            subst this
            obtain ⟨z, hz, rfl⟩ := List.mem_map.1 hx
            exact hn (some z.2) (List.mem_map.2 ⟨z, hz, rfl⟩)
          simp only [g', this, cond_false]
      · intro b cs e
        have e : (match tbl none (m.boxes.map fun x => (x.1, some x.2)) b with
          | some n => some ((List.range n).map fun j => lookP (avL m.items v) (.cell b j))
          | none => none) = some cs := e
        rcases tbl_mem (d := (none : Option Nat)) (l := m.boxes.map fun x => (x.1, some x.2)) (t := b) with hh | ⟨hh, hn⟩
        · obtain ⟨x, hx, ex⟩ := List.mem_map.1 hh
          simp only [Prod.mk.injEq] at ex
          rw [← ex.2] at e
          simp only [Option.some.injEq] at e
          subst e
          obtain ⟨x1, x2⟩ := x
          simp only at ex
          obtain ⟨rfl, _⟩ := ex
          obtain ⟨cs0, c1, c2, c3⟩ := boxesOK_get hbx' x1 x2 hx
          obtain ⟨k, f1, ok⟩ := h.bx x1 cs0 c1
          obtain ⟨us, el, fr, r1, r2, r3⟩ := ok.row
          refine ⟨k, by rw [hβ x1 (List.mem_map.2 ⟨_, hx, rfl⟩)]; exact f1, ok.above, fun o p => (by
            obtain ⟨vz, hz⟩ := ok.free o p
            exact absurd rfl (List.any_eq_false.1 c3 _ (List.mem_of_getElem? hz))), us, el, fr, r1, r2, ?_⟩
          have hl3 := r3.len
          refine All2.of_get (by simp only [List.length_map, List.length_range]; omega) ?_
          intro i x u hx' hu'
          rw [List.getElem?_map] at hx'
          have hi : i < x2 := by
            rcases Nat.lt_or_ge i x2 with hlt | hge
            · exact hlt
            · rw [List.getElem?_eq_none (by simp; omega)] at hx'; cases hx'
          rw [List.getElem?_range hi] at hx'
          simp only [Option.map_some, Option.some.injEq] at hx'
          subst hx'
          rcases lookP_or (avL m.items v) (.cell x1 i) with e | e
          · rw [e]; trivial
          · refine vals _ _ e u ?_
            simp only [Pos.get, c1]
            have hic : i < cs0.length := by omega
            obtain ⟨u2, hu2, hlr⟩ := r3.get i cs0[i] (by simp [hic])
            rw [hu'] at hu2; cases hu2
            rw [List.getD_eq_getElem?_getD, List.getElem?_eq_getElem hic]
            exact VR_of_LR hlr
        · rw [hh] at e; cases e
      · intro b b' k e e'
        exact h.binj b b' k (hβ2 b k e) (hβ2 b' k e')
      · intro t e
        rcases hpair t with ⟨i, tok, tg, e1, _, e3, _⟩ | ⟨_, e2⟩
        · rw [e3] at e
          have := tkL_live m.items v t tok (List.mem_of_getElem? e1)
          rw [e] at this; cases this
        · exact e2
      · intro t sh T l e
        rcases hpair t with ⟨i, tok, tg, e1, e2, e3, e4⟩ | ⟨e1, _⟩
        · obtain ⟨⟨sh', T', l', q1, q2⟩, _⟩ := K.rows i t t tok tg e1 e2
          rw [e3, q1] at e
          cases e
          exact ⟨tg, e4, q2⟩
        · rw [e1] at e; cases e
      · intro t t' tg tg' k l1 l2 e1 e2 e3 e4
        rcases hpair t with ⟨i, tok, x, a1, a2, a3, a4⟩ | ⟨_, a2⟩
        · rcases hpair t' with ⟨i', tok', x', b1, b2, b3, b4⟩ | ⟨_, b2⟩
          · rw [e1] at a4; cases a4
            rw [e2] at b4; cases b4
            have := K.inj i i' t t' k _ _ a2 b2 e3 e4
            subst this
            rw [a2] at b2; cases b2; rfl
          · rw [e2] at b2; cases b2
        · rw [e1] at a2; cases a2
      · intro t tg k b l1 e1 e2 e3
        rcases hpair t with ⟨i, tok, x, a1, a2, a3, a4⟩ | ⟨_, a2⟩
        · rw [e1] at a4; cases a4
          obtain ⟨t0, tg0, _, _, c1, c2, c3⟩ := (K.rows i t t tok _ a1 a2).src k e2
          exact h.tbx t0 tg0 k b c1 c2 c3 (hβ2 b k e3)
        · rw [e1] at a2; cases a2
      · rcases tbl_mem (d := (none : Option Nat)) (l := m.boxes.map fun x => (x.1, some x.2)) (t := b) with hh | ⟨hh, _⟩
        · obtain ⟨x, hx, ex⟩ := List.mem_map.1 hh
          simp only [Prod.mk.injEq] at ex
          obtain ⟨rfl, _⟩ := ex
          obtain ⟨cs0, c1, c2⟩ := boxesOK_get hbx' x.1 x.2 hx
          rw [hβ x.1 (List.mem_map.2 ⟨_, hx, rfl⟩)]
          exact (h.ex.lb _ _ e).2 (by rw [c1]; simp)
        · exfalso
          apply hne
          show (match tbl none (m.boxes.map fun x => (x.1, some x.2)) b with
            | some n => some ((List.range n).map fun j => lookP (avL m.items v) (.cell b j))
            | none => none) = none
          rw [hh]

end
end Go.Proofs.YtjgnpmdbkgeakaaDoor.Th
