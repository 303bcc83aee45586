/- THEORY, part H: operands, shared rows, contents, and the append of the machine. No condition. -/
import Derived.Test.YtjgnpmdbkgeakaaDoorThG
set_option linter.unusedVariables false
set_option linter.unusedSimpArgs false
namespace Go.Proofs.YtjgnpmdbkgeakaaDoor.Th
open Go Go.RowKit

/-! ### constants, operands -/
theorem strV_data (s : ByteArray) : strV s.data.toList = .string s := by unfold strV; cases s; simp

theorem cst1_LR {w : World} {g : Gh} (v : Value) : LR w g (cst1 v) v := by
  unfold cst1
  split <;> first | rfl | trivial | (rename_i s; exact (strV_data s).symm)

theorem cst1_PR {w : World} {pr : Nat → Nat → Prop} (v : Value) (h : isPlainCell (cst1 v) = true) : PR w pr (cst1 v) v := by
  unfold cst1 at h ⊢
  split <;> first | rfl | (rename_i s; exact (strV_data s).symm) | skip
  all_goals simp [isPlainCell] at h

theorem chunk_PR {w : World} {pr : Nat → Nat → Prop} (us : List Value) (h : (chunks us).all isPlainCell = true) : All2 (PR w pr) (chunks us) us := by
  induction us with
  | nil => trivial
  | cons u us ih =>
    simp only [chunks, List.map_cons, List.all_cons, Bool.and_eq_true] at h ⊢
    exact ⟨cst1_PR u h.1, ih h.2⟩

theorem cst_LR {w : World} {g : Gh} (v : Value) : LR w g (cst v) v := by
  unfold cst
  split
  · rename_i cs
    cases h : (chunks cs.toList).all isPlainCell with
    | true => exact ⟨cs.toList, by simp, chunk_PR _ h⟩
    | false => trivial
  · exact cst1_LR _

section
variable {C : FuncId → List AV → AV → Prop} {Rd : Rs → Prop} {B : Bd} {N : Nat} {g : Gh} {s : S} {w : World} {a : Act}

theorem rdv_ev (h : Rel B g s w a N) {x : Operand} {k : AV → Pg} {ws : List Wr} (he : (rdv x k).Ev C Rd s ws) : ∃ v, VR w g v (a.eval x) ∧ (k v).Ev C Rd s ws := by
  cases x with
  | tmp t => exact ⟨_, h.tm t, he.2⟩
  | const v => exact ⟨_, VR_of_LR (cst_LR v), he⟩
  | func f => exact ⟨_, VR_of_LR (LR_of_PR (show PR w g.pr (.fnv f .nil ()) _ from ⟨[], rfl, rfl⟩)), he⟩
  | global n =>
    have he : (rdg n k).Ev C Rd s ws := he
    unfold rdg at he
    cases hr : gtab n with
    | none => rw [hr] at he; exact he.elim
    | some r => rw [hr] at he; exact ⟨_, VR_of_LR (show LR w g (.gar r.e r.T r.l) (a.eval (.global n)) from h.ex.gl n r hr), he⟩

theorem rdvs_ev (h : Rel B g s w a N) : ∀ {xs : List Operand} {k : List AV → Pg} {ws : List Wr}, (rdvs xs k).Ev C Rd s ws → ∃ vs, All2 (VR w g) vs (xs.map a.eval) ∧ (k vs).Ev C Rd s ws
  | [], _, _, he => ⟨[], trivial, he⟩
  | x :: xs, k, ws, he => by
    obtain ⟨v, hv, he⟩ := rdv_ev h he
    obtain ⟨vs, hvs, he⟩ := rdvs_ev h he
    exact ⟨v :: vs, ⟨hv, hvs⟩, he⟩

theorem Rel.wrd (h : Rel B g s w a N) {d : Option Tmp} {v : AV} {u : Value} (hv : VR w g v u) (hd : ∀ t, d = some t → t < N) : Rel B g (s.puts (wrd d v)) w (a.put d u) N := by
  cases d with
  | none => exact h
  | some t => exact h.tmp hv (hd t rfl)
end

/-! ### shared rows -/
/-- a plain value: a plain cell, or a struct of such -/
def PV (w : World) (pr : Nat → Nat → Prop) (v : AV) (u : Value) : Prop := PR w pr v u ∨ ∃ cs us, v = .agg cs ∧ u = .agg (List.toArray us) ∧ All2 (PR w pr) cs us

theorem PV.keeps {w w' : World} {pr pr' : Nat → Nat → Prop} (hk : PrKeeps w pr w' pr') {v : AV} {u : Value} (h : PV w pr v u) : PV w' pr' v u :=
  h.imp (PR.keeps hk) fun ⟨cs, us, a, b, c⟩ => ⟨cs, us, a, b, c.imp fun _ _ => PR.keeps hk⟩

theorem PR.cells {w : World} {pr : Nat → Nat → Prop} {v : AV} {u : Value} (h : PR w pr v u) : v.cells = [v] ∧ u.cells = #[u] := by
  have h1 := h.one
  constructor
  · cases v <;> first | rfl | exact h.elim
  · cases u <;> first | rfl | (simp [Value.oneCell'] at h1)

theorem PV.cells {w : World} {pr : Nat → Nat → Prop} {v : AV} {u : Value} (h : PV w pr v u) : All2 (PR w pr) v.cells u.cells.toList := by
  rcases h with h | ⟨cs, us, rfl, rfl, h⟩
  · rw [h.cells.1, h.cells.2]; exact ⟨h, trivial⟩
  · simpa [AV.cells, Value.cells] using h

theorem PV.LR {w : World} {g : Gh} {v : AV} {u : Value} (h : PV w g.pr v u) : LR w g v u := by
  rcases h with h | ⟨cs, us, rfl, rfl, h⟩
  · exact LR_of_PR h
  · exact ⟨us, rfl, h⟩

structure Promo (s s' : S) : Prop where
  tmps : s'.tmps = s.tmps
  boxes : s'.boxes = s.boxes
  toks : ∀ t, s'.toks t = s.toks t ∨ ∃ T l, s.toks t = .live false T l ∧ s'.toks t = .live true T l

theorem Promo.refl (s : S) : Promo s s := ⟨rfl, rfl, fun _ => .inl rfl⟩

theorem S.puts_one (s : S) (ws : List Wr) (x : Wr) : s.puts (ws ++ [x]) = (s.puts ws).put x := by rw [S.puts_append]; rfl

section
variable {C : FuncId → List AV → AV → Prop} {Rd : Rs → Prop} {B : Bd} {N : Nat} {g : Gh} {s : S} {w : World} {a : Act}

theorem put_tok_self (s : S) (t : Nat) (c : Tok) (h : s.toks t = c) : s.put (.tok t c) = s := by
  cases s; simp only [S.put] at h ⊢; congr 1; rw [← h]; exact upd_self _ _

theorem snap1_ev {v : AV} {u : Value} {ws W : List Wr} {k : AV → List Wr → Pg} (hp : Promo s (s.puts ws)) (h : Rel B g (s.puts ws) w a N) (hv : VR w g v u)
    (he : (snap1 v ws k).Ev C Rd s W) : ∃ v' ws' g', (k v' ws').Ev C Rd s W ∧ Promo s (s.puts ws') ∧ Rel B g' (s.puts ws') w a N ∧ Keeps w g w g' ∧ PV w g'.pr v' u := by
  unfold snap1 at he
  cases v with
  | ref t =>
    simp only [] at he
    obtain ⟨_, he⟩ := he
    cases ht : s.toks t with
    | abs => rw [ht] at he; exact he.elim
    | dead => rw [ht] at he; exact he.elim
    | live sh T l =>
      rw [ht] at he
      obtain ⟨tg, hτ, rfl, _⟩ := hv
      cases sh with
      | true =>
        simp only [] at he
        have h2 : (s.puts ws).toks t = .live true T l := by
          rcases hp.toks t with e | ⟨T', l', e, _⟩
          · rw [e, ht]
          · rw [ht] at e; cases e
        obtain ⟨tg', e1, e2⟩ := h.shared h2
        rw [hτ] at e1; cases e1
        exact ⟨_, _, g, he, hp, h, Keeps.refl _ _, .inl e2⟩
      | false =>
        simp only [] at he
        have hp' : Promo s (s.puts (ws ++ [.tok t (.live true T l)])) := by
          rw [S.puts_one]
          refine ⟨hp.tmps, hp.boxes, fun i => ?_⟩
          by_cases e : i = t
          · subst e; exact .inr ⟨T, l, ht, by simp [S.put, upd_same]⟩
          · simpa [S.put, upd_ne _ _ _ _ e] using hp.toks i
        rcases hp.toks t with e | ⟨T', l', e, e'⟩
        · obtain ⟨g', tg', r1, r2, r3, r4⟩ := h.share (e.trans ht)
          rw [hτ] at r3; cases r3
          exact ⟨_, _, g', he, hp', by rw [S.puts_one]; exact r1, r2, .inl r4⟩
        · rw [ht] at e; cases e
          obtain ⟨tg', e1, e2⟩ := h.shared e'
          rw [hτ] at e1; cases e1
          exact ⟨_, _, g, he, hp', by rw [S.puts_one, put_tok_self _ _ _ e']; exact h, Keeps.refl _ _, .inl e2⟩
  | agg cs => obtain ⟨us, rfl, h2⟩ := hv; exact ⟨_, _, g, he, hp, h, Keeps.refl _ _, .inr ⟨cs, us, rfl, rfl, h2⟩⟩
  | int j n => exact ⟨_, _, g, he, hp, h, Keeps.refl _ _, .inl hv⟩
  | bool b => exact ⟨_, _, g, he, hp, h, Keeps.refl _ _, .inl hv⟩
  | str b => exact ⟨_, _, g, he, hp, h, Keeps.refl _ _, .inl hv⟩
  | flt b => exact ⟨_, _, g, he, hp, h, Keeps.refl _ _, .inl hv⟩
  | cpx b c => exact ⟨_, _, g, he, hp, h, Keeps.refl _ _, .inl hv⟩
  | nilsl => exact ⟨_, _, g, he, hp, h, Keeps.refl _ _, .inl hv⟩
  | sl T l => exact ⟨_, _, g, he, hp, h, Keeps.refl _ _, .inl hv⟩
  | ifv t T l => exact ⟨_, _, g, he, hp, h, Keeps.refl _ _, .inl hv⟩
  | fnv t T l => exact ⟨_, _, g, he, hp, h, Keeps.refl _ _, .inl hv⟩
  | imm T l => exact ⟨_, _, g, he, hp, h, Keeps.refl _ _, .inl hv⟩
  | fn f cap =>
    cases cap with
    | nil =>
      obtain ⟨us, e1, e2⟩ := hv
      have e3 : us = [] := by cases us with | nil => rfl | cons _ _ => exact e2.elim
      subst e3
      exact ⟨.fnv f .nil (), _, g, he, hp, h, Keeps.refl _ _, .inl (show PR w g.pr (.fnv f .nil ()) u from ⟨[], by rw [e1], rfl⟩)⟩
    | cons _ _ => exact he.elim
  | _ => exact he.elim

theorem snaps_ev : ∀ {vs : List AV} {us : List Value} {ws W : List Wr} {k : List AV → List Wr → Pg} {g : Gh}, Promo s (s.puts ws) → Rel B g (s.puts ws) w a N → All2 (VR w g) vs us →
    (snaps vs ws k).Ev C Rd s W → ∃ vs' ws' g', (k vs' ws').Ev C Rd s W ∧ Promo s (s.puts ws') ∧ Rel B g' (s.puts ws') w a N ∧ Keeps w g w g' ∧ All2 (PV w g'.pr) vs' us
  | [], [], ws, W, k, g, hp, h, _, he => ⟨[], ws, g, he, hp, h, Keeps.refl _ _, trivial⟩
  | v :: vs, u :: us, ws, W, k, g, hp, h, hv, he => by
    obtain ⟨v', ws1, g1, he, hp1, h1, hk1, hv1⟩ := snap1_ev hp h hv.1 he
    obtain ⟨vs', ws2, g2, he, hp2, h2, hk2, hv2⟩ := snaps_ev hp1 h1 (hv.2.imp fun _ _ => VR.keeps hk1) he
    exact ⟨v' :: vs', ws2, g2, he, hp2, h2, hk1.trans hk2, hv1.keeps hk2.pr, hv2⟩
  | [], _ :: _, _, _, _, _, _, _, hv, _ => hv.elim
  | _ :: _, [], _, _, _, _, _, _, hv, _ => hv.elim

/-- a slice's elements as they can be read now -/
structure Reads (w : World) (pr : Nat → Nat → Prop) (T : Ty) (l : List T.den) (u : Value) : Prop where
  out : ∃ a c, u = .slice a l.length c ∧ l.length ≤ c ∧ (l = [] ∨ ∃ ad, a = some ad ∧
    ∀ (j : Nat) (x : T.den), l[j]? = some x → ∃ vs, vs.length = T.size ∧ (∀ (i : Nat) (v : Value), vs[i]? = some v → w.cell? (ad.add (j * T.size + i)) = some v) ∧ TR w pr T x vs)

theorem Reads.of_TR {pr : Nat → Nat → Prop} {T : Ty} {l : List T.den} {u : Value} (h : TR w pr (.slice T) l [u]) : Reads w pr T l u := by
  obtain ⟨ad, c, e, hc, hr⟩ := (show SlR _ _ _ _ _ _ from h)
  cases e
  refine ⟨ad, c, rfl, hc.1, ?_⟩
  cases l with
  | nil => exact .inl rfl
  | cons x l =>
    obtain ⟨a0, _, e0, _⟩ := hr 0 x rfl
    refine .inr ⟨a0, e0, fun j y hy => ?_⟩
    obtain ⟨a1, vs, e1, p, q, r⟩ := hr j y hy
    rw [e0] at e1; cases e1
    exact ⟨vs, p, fun i v hv => (q i v hv).1, r⟩

theorem TokOK.reads {B : Bd} {pr : Nat → Nat → Prop} {sh : Bool} {T : Ty} {l : List T.den} {tg : TG} (h : TokOK B w pr sh T l tg) : Reads w pr T l tg.val := by
  obtain ⟨_, ⟨e, _, rfl⟩ | ⟨k, cap, e, _, r⟩⟩ := h
  · exact ⟨none, 0, e, Nat.le_refl _, .inl rfl⟩
  · obtain ⟨us, el, fr, r1, r2, r3, r4⟩ := r.row
    refine ⟨some ⟨k, 0, none⟩, cap, e, r.len, .inr ⟨_, rfl, fun j x hx => ?_⟩⟩
    obtain ⟨vs, p, q, t⟩ := r4 j x hx
    refine ⟨vs, p, fun i v hv => ?_, t⟩
    rw [addr_add, Nat.zero_add, cell_of r1]; exact q i v hv

theorem content_ev (h : Rel B g s w a N) {T : Ty} {v : AV} {u : Value} {W : List Wr} {k : List T.den → Pg} (hv : LR w g v u) (he : (content T v k).Ev C Rd s W) :
    ∃ l, (k l).Ev C Rd s W ∧ Reads w g.pr T l u := by
  unfold content at he
  cases v with
  | nilsl => exact ⟨[], he, ⟨none, 0, hv, Nat.le_refl _, .inl rfl⟩⟩
  | sl T' l =>
    simp only [] at he
    cases hd : T'.dec T with
    | none => rw [hd] at he; exact he.elim
    | some hh => obtain ⟨rfl⟩ := hh; rw [hd] at he; exact ⟨l, he, Reads.of_TR hv⟩
  | nsl T' l =>
    simp only [] at he
    cases hd : T'.dec T with
    | none => rw [hd] at he; exact he.elim
    | some hh => obtain ⟨rfl⟩ := hh; rw [hd] at he; exact ⟨l, he, Reads.of_TR hv.1⟩
  | ref t =>
    simp only [] at he
    obtain ⟨_, he⟩ := he
    cases ht : s.toks t with
    | abs => rw [ht] at he; exact he.elim
    | dead => rw [ht] at he; exact he.elim
    | live sh T' l =>
      rw [ht] at he
      simp only [] at he
      cases hd : T'.dec T with
      | none => rw [hd] at he; exact he.elim
      | some hh =>
        obtain ⟨rfl⟩ := hh; rw [hd] at he
        obtain ⟨tg, e, ok⟩ := h.tk t sh T' l ht
        obtain ⟨tg', e', rfl, _⟩ := hv
        rw [e] at e'; cases e'
        exact ⟨l, he, ok.reads⟩
  | _ => exact he.elim

/-- all the cells of a slice's elements -/
theorem Reads.flat {pr : Nat → Nat → Prop} {T : Ty} {l : List T.den} {u : Value} (h : Reads w pr T l u) :
    ∃ a c news, u = .slice a l.length c ∧ l.length ≤ c ∧ List.length news = l.length * T.size ∧ (a = none → l = []) ∧ (∀ ad, a = some ad → ∀ j v, news[j]? = some v → w.cell? (ad.add j) = some v) ∧
      (∀ v ∈ news, v.oneCell' = true) ∧ ∀ (j : Nat) (x : T.den), l[j]? = some x → ∃ vs, vs.length = T.size ∧ (∀ (i : Nat) (v : Value), vs[i]? = some v → news[j * T.size + i]? = some v) ∧ TR w pr T x vs := by
  obtain ⟨a, c, e, hc, hr⟩ := h.out
  refine ⟨a, c, ?_⟩
  have key : ∀ (l : List T.den) (f : Nat → Nat), (∀ (j : Nat) (x : T.den), l[j]? = some x → ∃ vs, vs.length = T.size ∧ (∀ (i : Nat) (v : Value), vs[i]? = some v → ∀ ad, a = some ad → w.cell? (ad.add (f j + i)) = some v) ∧ TR w pr T x vs) →
      ∃ news : List Value, news.length = l.length * T.size ∧ (∀ v ∈ news, v.oneCell' = true) ∧ ∀ (j : Nat) (x : T.den), l[j]? = some x → ∃ vs, vs.length = T.size ∧ (∀ (i : Nat) (v : Value), vs[i]? = some v → news[j * T.size + i]? = some v ∧ ∀ ad, a = some ad → w.cell? (ad.add (f j + i)) = some v) ∧ TR w pr T x vs := by
    intro l
    induction l with
    | nil => intro f _; exact ⟨[], by simp, by simp, fun j x hx => by simp at hx⟩
    | cons y l ih =>
      intro f hl
      obtain ⟨news, n1, n2, n3⟩ := ih (fun j => f (j + 1)) (fun j x hx => hl (j + 1) x (by simpa using hx))
      obtain ⟨vs, v1, v2, v3⟩ := hl 0 y rfl
      refine ⟨vs ++ news, by simp [n1, v1, Nat.add_mul]; omega, ?_, ?_⟩
      · intro v hv
        rcases List.mem_append.1 hv with hv | hv
        · exact v3.one v hv
        · exact n2 v hv
      · intro j x hx
        cases j with
        | zero =>
          simp at hx; subst hx
          refine ⟨vs, v1, fun i v hv => ⟨?_, fun ad had => v2 i v hv ad had⟩, v3⟩
          rw [Nat.zero_mul, Nat.zero_add, List.getElem?_append_left (List.getElem?_eq_some_iff.1 hv).1]; exact hv
        | succ j =>
          simp at hx
          obtain ⟨us, u1, u2, u3⟩ := n3 j x hx
          refine ⟨us, u1, fun i v hv => ⟨?_, (u2 i v hv).2⟩, u3⟩
          rw [List.getElem?_append_right (by rw [v1, Nat.add_mul]; omega), v1, Nat.add_mul]
          rw [show j * T.size + 1 * T.size + i - T.size = j * T.size + i from by omega]
          exact (u2 i v hv).1
  rcases hr with rfl | ⟨ad, rfl, hr⟩
  · exact ⟨[], e, hc, by simp, fun _ => rfl, fun _ _ j v hv => by simp at hv, by simp, fun j x hx => by simp at hx⟩
  · obtain ⟨news, n1, n2, n3⟩ := key l (fun j => j * T.size) (fun j x hx => by
      obtain ⟨vs, p, q, r⟩ := hr j x hx
      exact ⟨vs, p, fun i v hv ad' had => by cases had; exact q i v hv, r⟩)
    refine ⟨news, e, hc, n1, (fun h => by cases h), fun ad' had j v hv => ?_, n2, fun j x hx => ?_⟩
    · cases had
      have hj : j < l.length * T.size := by rw [← n1]; exact (List.getElem?_eq_some_iff.1 hv).1
      have hpos : 0 < T.size := by
        rcases Nat.eq_zero_or_pos T.size with h0 | h0
        · rw [h0] at hj; simp at hj
        · exact h0
      have hq : j / T.size < l.length := Nat.div_lt_of_lt_mul (by rw [Nat.mul_comm]; exact hj)
      have hm := Nat.mod_lt j hpos
      obtain ⟨vs, v1, v2, _⟩ := n3 (j / T.size) l[j / T.size] (by simp [hq])
      have hj2 : j / T.size * T.size + j % T.size = j := by rw [Nat.mul_comm]; exact Nat.div_add_mod j T.size
      obtain ⟨p, q⟩ := v2 (j % T.size) vs[j % T.size] (by simp [v1, hm])
      rw [hj2] at p q
      rw [hv] at p; cases p
      exact q _ rfl
    · obtain ⟨vs, v1, v2, v3⟩ := n3 j x hx
      exact ⟨vs, v1, fun i v hv => (v2 i v hv).1, v3⟩
end

end Go.Proofs.YtjgnpmdbkgeakaaDoor.Th
