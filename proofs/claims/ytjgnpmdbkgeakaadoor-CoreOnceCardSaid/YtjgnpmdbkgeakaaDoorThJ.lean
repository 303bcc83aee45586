/- THEORY, part J: boxes: made, loaded, stored; fields; elements. No condition. -/
import Derived.Test.YtjgnpmdbkgeakaaDoorThI
set_option linter.unusedVariables false
set_option linter.unusedSimpArgs false
namespace Go.Proofs.YtjgnpmdbkgeakaaDoor.Th
open Go Go.RowKit

section
variable {P : Program} {TI : TEnv} {C : FuncId → List AV → AV → Prop} {Rd : Rs → Prop} {B : Bd} {N : Nat} {g g' : Gh} {s : S} {w w' : World} {a : Act} {o : Oper} {ws : List Wr}

theorem size_alloc (w : World) (x : Obj) : (w.alloc x).heap.size = w.heap.size + 1 := by show (w.heap.push x).size = _; exact Array.size_push x
theorem alloc_new (w : World) (x : Obj) : (w.alloc x).heap[w.heap.size]? = some x := heap_alloc_new w x
theorem thawed0 (n : Nat) : Thawed (0, 0) n := ⟨Nat.le_refl _, fun o _ => by simp⟩
theorem below_alloc (h : Rel B g s w a N) (x : Obj) : BelowB B w (w.alloc x) := (BelowB.refl _ _).alloc h.hB x

theorem Rel.newBoxAt (h : Rel B g s w a N) {t : Nat} (htN : t < N) (ht : s.boxes t = none) {cs : List AV} {us : Array Value} (e : TypeId) (hc : All2 (LR w g) cs us.toList) :
    ∃ g', Rel B g' (s.put (.box t cs)) (w.alloc (.cells us e)) a N ∧ g'.β t = some w.heap.size := by
  obtain ⟨h1, k1⟩ := h.alloc (.cells us e)
  have hf : Fresh g s w.heap.size := h.fresh (Nat.le_refl _)
  have hb : BoxOK B (w.alloc (.cells us e)) g cs w.heap.size :=
    ⟨.inl h.hB, fun o p => by have := h.prlt _ o p; omega, us, e, (0, 0), alloc_new w _, thawed0 _, hc.imp fun _ _ => LR.keeps k1⟩
  obtain ⟨h2, _⟩ := h1.newBox htN ht hf hb
  exact ⟨_, h2, by simp [upd_same]⟩

theorem LR_ptr {b k o : Nat} (h : g.β b = some k) : VR w g (.ptr b o) (.pointer (some ⟨k, o, none⟩)) := ⟨k, h, rfl⟩

theorem goes_alloc (hT : TIok P TI) (h : Rel B g s w a N) (hd : ∀ t, o.dst = some t → t < N) {e : TypeId} (ho : o.op = .alloc e) {tt : Tmp} (hdst : o.dst = some tt)
    (he : (tinf TI e fun i => .box tt fun | none => .ret [.box tt i.zero, .tmp tt (.ptr tt 0)] | some _ => .fail).Ev C Rd s ws) : Goes P B N o s w a ws := by
  unfold tinf at he
  cases hi : TI e with
  | none => rw [hi] at he; exact he.elim
  | some i =>
    rw [hi] at he
    obtain ⟨_, he⟩ := he
    cases hb : s.boxes tt with
    | some c => rw [hb] at he; exact he.elim
    | none =>
      rw [hb] at he
      have : ws = _ := he
      subst this
      obtain ⟨ti, d, z, T⟩ := hT.get hi
      obtain ⟨g', h1, hβ⟩ := h.newBoxAt (hd tt hdst) hb (us := z.cells) e (z0s_LR T.zrel)
      have h2 := h1.tmp (LR_ptr (o := 0) hβ) (hd tt hdst)
      refine goes_value (w' := w.alloc (.cells z.cells e)) (u := .pointer (some ⟨w.heap.size, 0, none⟩)) ?_ (by rw [hdst]; exact h2) (below_alloc h _)
      simp [execOp, ho, Instr.alloc, zeroValue, typeInfo, T.info, T.zero, newVar, newRow]

theorem LR_one {v : AV} {u : Value} (h : LR w g v u) (hv : v.isVal = true) : (∃ cs us, v = .agg cs ∧ u = .agg (List.toArray us) ∧ All2 (PR w g.pr) cs us) ∨ (v.cells = [v] ∧ u.cells = #[u] ∧ u.oneCell' = true) := by
  have key : u.oneCell' = true → u.cells = #[u] := by intro h; cases u <;> first | rfl | (simp [Value.oneCell'] at h)
  cases v with
  | undef => cases hv
  | tup l => cases hv
  | own T l => exact h.elim
  | lent l => exact h.elim
  | back v l => exact h.elim
  | gar e T l => obtain ⟨ad, rfl, _⟩ := h; exact .inr ⟨rfl, rfl, rfl⟩
  | ifv t T x => exact .inr ⟨rfl, key (PR.one (v := .ifv t T x) h), PR.one (v := .ifv t T x) h⟩
  | fnv t T x => exact .inr ⟨rfl, key (PR.one (v := .fnv t T x) h), PR.one (v := .fnv t T x) h⟩
  | imm T x => exact .inr ⟨rfl, key (PR.one (v := .imm T x) h), PR.one (v := .imm T x) h⟩
  | fz v => cases hv
  | agg cs => obtain ⟨us, a, b⟩ := h; exact .inl ⟨cs, us, rfl, a, b⟩
  | ref t => obtain ⟨tg, h1, h2, h3⟩ := h; exact .inr ⟨rfl, key h3, h3⟩
  | ptr b o => obtain ⟨k, h1, rfl⟩ := h; exact .inr ⟨rfl, rfl, rfl⟩
  | pim cs o => obtain ⟨ad, us, rfl, _⟩ := h; exact .inr ⟨rfl, rfl, rfl⟩
  | pel t i o => obtain ⟨tg, k, _, _, rfl⟩ := h; exact .inr ⟨rfl, rfl, rfl⟩
  | fn f c => obtain ⟨us, rfl, _⟩ := h; exact .inr ⟨rfl, rfl, rfl⟩
  | sl T l => exact .inr ⟨rfl, key (PR.one (v := .sl T l) h), PR.one (v := .sl T l) h⟩
  | nsl T l => exact .inr ⟨rfl, key (PR.one (v := .sl T l) h.1), PR.one (v := .sl T l) h.1⟩
  | _ => rw [show u = _ from h]; exact .inr ⟨rfl, rfl, rfl⟩

theorem LR_cells {v : AV} {u : Value} (h : LR w g v u) (hv : v.isVal = true) : All2 (LR w g) v.cells u.cells.toList ∧ ∀ x ∈ u.cells.toList, x.oneCell' = true := by
  rcases LR_one h hv with ⟨cs, us, rfl, rfl, h2⟩ | ⟨e1, e2, e3⟩
  · exact ⟨by simpa [AV.cells, Value.cells] using h2.imp fun _ _ => LR_of_PR, by simpa [Value.cells] using h2.one⟩
  · rw [e1, e2]; exact ⟨⟨h, trivial⟩, by simpa using e3⟩

theorem VR_val {v : AV} {u : Value} (h : VR w g v u) (hv : v.isVal = true) : LR w g v u := by
  rcases VR_or h with ⟨vs, rfl, _⟩ | h
  · cases hv
  · exact h

theorem goes_box (h : Rel B g s w a N) (hd : ∀ t, o.dst = some t → t < N) {e : TypeId} {x : Operand} (ho : o.op = .box e x) {tt : Tmp} (hdst : o.dst = some tt)
    (he : (rdv x fun v => match v.isVal with
      | true => .box tt fun
        | none => .ret [.box tt v.cells, .tmp tt (.ptr tt 0)]
        | some _ => .fail
      | false => .fail).Ev C Rd s ws) : Goes P B N o s w a ws := by
  obtain ⟨v, hv, he⟩ := rdv_ev h he
  cases hval : v.isVal with
  | false => rw [hval] at he; exact he.elim
  | true =>
    rw [hval] at he
    obtain ⟨_, he⟩ := he
    cases hb : s.boxes tt with
    | some c => rw [hb] at he; exact he.elim
    | none =>
      rw [hb] at he
      have : ws = _ := he
      subst this
      obtain ⟨g', h1, hβ⟩ := h.newBoxAt (hd tt hdst) hb (us := (a.eval x).cells) e (LR_cells (VR_val hv hval) hval).1
      have h2 := h1.tmp (LR_ptr (o := 0) hβ) (hd tt hdst)
      refine goes_value (w' := w.alloc (.cells (a.eval x).cells e)) (u := .pointer (some ⟨w.heap.size, 0, none⟩)) ?_ (by rw [hdst]; exact h2) (below_alloc h _)
      simp [execOp, ho, Instr.box, newVar, newRow]

/-! ### reading cells -/
/-- cells that can be read at an address -/
def At (w : World) (ad : Addr) (us : List Value) : Prop := ∀ (j : Nat) (u : Value), us[j]? = some u → w.cell? (ad.add j) = some u

theorem At.off {ad : Addr} {us : List Value} (h : At w ad us) (o : Nat) : At w (ad.add o) (us.drop o) := by
  intro j u hu
  rw [add_add]
  exact h (o + j) u (by simpa [List.getElem?_drop] using hu)

theorem At.take {ad : Addr} {us : List Value} (h : At w ad us) (n : Nat) : At w ad (us.take n) := by
  intro j u hu
  refine h j u ?_
  rw [List.getElem?_take] at hu
  split at hu
  · exact hu
  · cases hu

/-- a variable is read: a struct's cells, or one cell -/
theorem run_loadVar {t : TypeId} {i : TInfo} {ti : TypeInfo} {d : TypeDesc} {z : Value} (T : TypeIs P t i ti d z) {ad : Addr} {us : List Value} (h : At w ad us) :
    (i.kn.isSt = true → us.length = i.size → (loadVar t ad).run P w = .ok (.agg us.toArray) w) ∧
    (i.kn.isSt = false → ∀ u, us[0]? = some u → (loadVar t ad).run P w = .ok u w) := by
  constructor
  · intro hs hl
    have := run_loadCells_list (P := P) w ad us h
    simp only [loadVar, Sem.run_bind, T.isAgg, hs, Result.andThen_ok, if_true, T.sizeOf, ← hl, this, Sem.run_pure]
  · intro hs u hu
    have h0 := h 0 u hu
    have e : ad.add 0 = ad := by simp [Addr.add]
    rw [e] at h0
    simp [loadVar, T.isAgg, hs, h0]

theorem PV_plain {pr : Nat → Nat → Prop} : ∀ {vs : List AV} {xs : List Value}, All2 (PV w pr) vs xs → vs.all isPlainCell = true → All2 (PR w pr) vs xs
  | [], [], _, _ => trivial
  | v :: vs, x :: xs, h, hp => by
    simp only [List.all_cons, Bool.and_eq_true] at hp
    refine ⟨?_, PV_plain h.2 hp.2⟩
    rcases h.1 with p | ⟨_, _, e, _, _⟩
    · exact p
    · rw [e] at hp; exact Bool.noConfusion (show false = true from hp.1)
  | [], _ :: _, h, _ => h.elim
  | _ :: _, [], h, _ => h.elim

theorem LR_unfz {v : AV} {u : Value} (h : LR w g v u) : LR w g (unfz v) u := by
  cases v with
  | fz c => exact LR_of_PR h
  | _ => exact h
theorem unfz_all : ∀ {cs : List AV} {us : List Value}, All2 (LR w g) cs us → All2 (LR w g) (cs.map unfz) us
  | [], [], _ => trivial
  | _ :: _, _ :: _, h => ⟨LR_unfz h.1, unfz_all h.2⟩
  | [], _ :: _, h => h.elim
  | _ :: _, [], h => h.elim

/-- 'cut' of cells that lie at an address: what a load of them gives -/
theorem cut_ev {t : TypeId} {i : TInfo} {ti : TypeInfo} {d : TypeDesc} {z : Value} (T : TypeIs P t i ti d z) (h : Rel B g s w a N) {cs : List AV} {us : List Value} (hc : All2 (LR w g) cs us) {ad : Addr} (hat : At w ad us)
    {off : Nat} {dst : Option Tmp} (he : (cut i cs off [] fun v ws' => .ret (ws' ++ wrd dst v)).Ev C Rd s ws) (hd : ∀ t, dst = some t → t < N) :
    ∃ u g', (loadVar t (ad.add off)).run P w = .ok u w ∧ Rel B g' (s.puts ws) w (a.put dst u) N := by
  unfold cut at he
  cases hs : i.kn.isSt with
  | true =>
    rw [hs] at he
    simp only [] at he
    cases hl : decide (off + i.size ≤ cs.length) with
    | false => rw [hl] at he; exact he.elim
    | true =>
      rw [hl] at he
      simp only [cond_true] at he
      have hlen : off + i.size ≤ cs.length := by simpa using hl
      obtain ⟨vs', ws', g', he2, hp, h2, hk, hv⟩ := snaps_ev (Promo.refl s) (by simpa [S.puts] using h) ((unfz_all ((hc.drop off).take i.size)).imp fun _ _ => VR_of_LR) he
      cases hpl : vs'.all isPlainCell with
      | false => rw [hpl] at he2; exact he2.elim
      | true =>
        rw [hpl] at he2
        have : ws = ws' ++ wrd dst (.agg vs') := he2
        subst this
        refine ⟨.agg ((us.drop off).take i.size).toArray, g', ((run_loadVar T ((hat.off off).take i.size)).1 hs (by have := hc.len; simp; omega)), ?_⟩
        rw [S.puts_append]
        refine h2.wrd (VR_of_LR (show LR w g' (.agg vs') _ from ⟨_, rfl, PV_plain hv hpl⟩)) hd
  | false =>
    rw [hs] at he
    simp only [] at he
    cases hq : cs[off]? with
    | none => rw [hq] at he; exact he.elim
    | some v =>
      rw [hq] at he
      have : ws = [] ++ wrd dst (unfz v) := he
      subst this
      obtain ⟨u, hu, hr⟩ := hc.get off v hq
      refine ⟨u, g, (run_loadVar T (hat.off off)).2 hs u (by simpa [List.getElem?_drop] using hu), ?_⟩
      exact h.wrd (VR_of_LR (LR_unfz hr)) hd

theorem execOp_load {t : TypeId} {x : Operand} (ho : o.op = .load t x) {ad : Addr} (hx : a.eval x = .pointer (some ad)) {u : Value} (hl : (loadVar t ad).run P w = .ok u w) :
    (execOp a.eval o).run P w = .ok (.value u) w := by
  simp [execOp, ho, hx, Instr.loadAt, Instr.sureAddr, hl]

theorem row_at {us : Array Value} {e : TypeId} {fr : Nat × Nat} {k : Nat} (h : w.heap[k]? = some (.cells us e fr)) : At w ⟨k, 0, none⟩ us.toList := by
  intro j u hu
  rw [addr_add, Nat.zero_add, cell_of h]
  simpa using hu

theorem goes_load (hT : TIok P TI) (h : Rel B g s w a N) (hd : ∀ t, o.dst = some t → t < N) {t : TypeId} {x : Operand} (ho : o.op = .load t x)
    (he0 : (rdv x fun p => pgLoad TI o.dst t p).Ev C Rd s ws) : Goes P B N o s w a ws := by
  obtain ⟨v, hv, he⟩ := rdv_ev h he0
  clear he0
  unfold pgLoad tinf at he
  cases hi : TI t with
  | none => rw [hi] at he; exact he.elim
  | some i =>
    rw [hi] at he
    obtain ⟨ti, d, z, T⟩ := hT.get hi
    cases v with
    | ptr b off =>
      simp only [] at he
      obtain ⟨_, he⟩ := he
      cases hb : s.boxes b with
      | none => rw [hb] at he; exact he.elim
      | some cs =>
        rw [hb] at he
        obtain ⟨k, hβ, ok⟩ := h.bx b cs hb
        obtain ⟨us, e, fr, r1, r2, r3⟩ := ok.row
        obtain ⟨k', hβ', hu⟩ := hv
        rw [hβ] at hβ'; cases hβ'
        obtain ⟨u, g', hl, h2⟩ := cut_ev T h r3 (row_at r1) he hd
        rw [addr_add, Nat.zero_add] at hl
        exact goes_value (execOp_load ho hu hl) h2 (BelowB.refl _ _)
    | pim cs off =>
      simp only [] at he
      obtain ⟨ad, us, hu, hc, hcell⟩ := hv
      obtain ⟨u, g', hl, h2⟩ := cut_ev T h (hc.imp fun _ _ => LR_of_PR) (fun j u hu => (hcell j u hu).1) he hd
      exact goes_value (execOp_load ho hu hl) h2 (BelowB.refl _ _)
    | imm T0 x0 =>
      simp only [] at he
      obtain ⟨ad, us, hu, hcell, htr⟩ := (show TR w g.pr (.ref T0) x0 [_] from hv)
      have hu : a.eval x = .pointer (some ad) := by simpa using hu
      obtain ⟨u, g', hl, h2⟩ := cut_ev T h ((cells_PR htr).imp fun _ _ => LR_of_PR) (fun j u hu => (hcell j u hu).1) he hd
      have e0 : ad.add 0 = ad := by simp [Addr.add]
      rw [e0] at hl
      exact goes_value (execOp_load ho hu hl) h2 (BelowB.refl _ _)
    | pel t' j off =>
      simp only [] at he
      obtain ⟨_, he⟩ := he
      cases ht : s.toks t' with
      | abs => rw [ht] at he; exact he.elim
      | dead => rw [ht] at he; exact he.elim
      | live sh T' l =>
        rw [ht] at he
        obtain ⟨hj, he⟩ := he
        have hj : j < l.length := by simpa using hj
        obtain ⟨tg, hτ, ez, r⟩ := h.tk t' sh T' l ht
        obtain ⟨tg', k, hτ', hblk, hu⟩ := hv
        rw [hτ] at hτ'; cases hτ'
        rcases r with ⟨_, e, _⟩ | ⟨k', cap, _, e, r⟩
        · rw [hblk] at e; cases e
        · rw [hblk] at e; cases e
          obtain ⟨us, el, fr, r1, r2, r3, r4⟩ := r.row
          obtain ⟨vs, v1, v2, v3⟩ := r4 j l[j] (by simp [hj])
          have hget : l.getD j T'.dflt = l[j] := by simp [List.getD, hj]
          rw [hget] at he
          have hat : At w ⟨k, j * T'.size, none⟩ vs := by
            intro i u hu
            rw [addr_add, cell_of r1]; exact v2 i u hu
          obtain ⟨u, g', hl, h2⟩ := cut_ev T h ((cells_PR v3).imp fun _ _ => LR_of_PR) hat he hd
          rw [addr_add, ← ez] at hl
          exact goes_value (execOp_load ho hu hl) h2 (BelowB.refl _ _)
    | _ => exact he.elim

end
end Go.Proofs.YtjgnpmdbkgeakaaDoor.Th
