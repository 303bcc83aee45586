/- THEORY, parts J K L M N V: what steps of the model do to plain values. No condition. -/
import Derived.Test.YtjgnpmdbkgeakaaThA
import Derived.Laws.NewFold
import Derived.Laws.BytesString
set_option linter.unusedVariables false
set_option linter.unusedSimpArgs false
namespace Go.Proofs.Ytjgnpmdbkgeakaa.Th
open Go Go.RowKit

section
variable {P : Program} {TI : TEnv} {C : FuncId → List AV → AV → Prop} {Rd : Rs → Prop} {B : Bd} {N : Nat} {g g' : Gh} {s : S} {w w' : World} {a : Act} {o : Oper} {ws : List Wr}

theorem size_alloc (w : World) (x : Obj) : (w.alloc x).heap.size = w.heap.size + 1 := by show (w.heap.push x).size = _; exact Array.size_push x
theorem alloc_new (w : World) (x : Obj) : (w.alloc x).heap[w.heap.size]? = some x := heap_alloc_new w x
theorem thawed0 (n : Nat) : Thawed (0, 0) n := ⟨Nat.le_refl _, fun o _ => by simp⟩
theorem below_alloc (h : Rel B g s w a N) (x : Obj) : BelowB B w (w.alloc x) := (BelowB.refl _ _).alloc h.hB x

theorem Rel.newBoxAt (h : Rel B g s w a N) {t : Nat} (htN : t < N) (ht : s.boxes t = none) {cs : List AV} {us : Array Value} (e : TypeId) (hc : All2 (LR w g) cs us.toList) :
    ∃ g', Rel B g' (s.put (.box t cs)) (w.alloc (.cells us e)) a N ∧ g'.β t = some w.heap.size := by
  obtain ⟨h1, k1⟩ := h.alloc (.cells us e)
  have hf : Fresh g s w.heap.size := h.fresh (Nat.le_refl _)
  have hb : BoxOK B (w.alloc (.cells us e)) g cs w.heap.size :=
    ⟨.inl h.hB, fun o p => by have := h.prlt _ o p; omega, us, e, (0, 0), alloc_new w _, thawed0 _, hc.imp fun _ _ => LR.keeps k1⟩
  obtain ⟨h2, _⟩ := h1.newBox htN ht hf hb
  exact ⟨_, h2, by simp [upd_same]⟩

theorem LR_ptr {b k o : Nat} (h : g.β b = some k) : VR w g (.ptr b o) (.pointer (some ⟨k, o, none⟩)) := ⟨k, h, rfl⟩

theorem goes_alloc (hT : TIok P TI) (h : Rel B g s w a N) (hd : ∀ t, o.dst = some t → t < N) {e : TypeId} (ho : o.op = .alloc e) {tt : Tmp} (hdst : o.dst = some tt)
    (he : (tinf TI e fun i => .box tt fun | none => .ret [.box tt i.zero, .tmp tt (.ptr tt 0)] | some _ => .fail).Ev C Rd s ws) : Goes P B N o s w a ws := by
  unfold tinf at he
  cases hi : TI e with
  | none => rw [hi] at he; exact he.elim
  | some i =>
    rw [hi] at he
    obtain ⟨_, he⟩ := he
    cases hb : s.boxes tt with
    | some c => rw [hb] at he; exact he.elim
    | none =>
      rw [hb] at he
      have : ws = _ := he
      subst this
      obtain ⟨ti, d, z, T⟩ := hT.get hi
      obtain ⟨g', h1, hβ⟩ := h.newBoxAt (hd tt hdst) hb (us := z.cells) e (z0s_LR T.zrel)
      have h2 := h1.tmp (LR_ptr (o := 0) hβ) (hd tt hdst)
      refine goes_value (w' := w.alloc (.cells z.cells e)) (u := .pointer (some ⟨w.heap.size, 0, none⟩)) ?_ (by rw [hdst]; exact h2) (below_alloc h _)
      simp [execOp, ho, Instr.alloc, zeroValue, typeInfo, T.info, T.zero, newVar, newRow]

theorem LR_one {v : AV} {u : Value} (h : LR w g v u) (hv : v.isVal = true) : (∃ cs us, v = .agg cs ∧ u = .agg (List.toArray us) ∧ All2 (PR w g.pr) cs us) ∨ (v.cells = [v] ∧ u.cells = #[u] ∧ u.oneCell' = true) := by
  have key : u.oneCell' = true → u.cells = #[u] := by intro h; cases u <;> first | rfl | (simp [Value.oneCell'] at h)
  cases v with
  | undef => cases hv
  | tup l => cases hv
  | own T l => exact h.elim
  | lent l => exact h.elim
  | back v l => exact h.elim
  | gar e T l => obtain ⟨ad, rfl, _⟩ := h; exact .inr ⟨rfl, rfl, rfl⟩
  | ifv t T x => exact .inr ⟨rfl, key (PR.one (v := .ifv t T x) h), PR.one (v := .ifv t T x) h⟩
  | fnv t T x => exact .inr ⟨rfl, key (PR.one (v := .fnv t T x) h), PR.one (v := .fnv t T x) h⟩
  | imm T x => exact .inr ⟨rfl, key (PR.one (v := .imm T x) h), PR.one (v := .imm T x) h⟩
  | fz v => cases hv
  | agg cs => obtain ⟨us, a, b⟩ := h; exact .inl ⟨cs, us, rfl, a, b⟩
  | ref t => obtain ⟨tg, h1, h2, h3⟩ := h; exact .inr ⟨rfl, key h3, h3⟩
  | ptr b o => obtain ⟨k, h1, rfl⟩ := h; exact .inr ⟨rfl, rfl, rfl⟩
  | pim cs o => obtain ⟨ad, us, rfl, _⟩ := h; exact .inr ⟨rfl, rfl, rfl⟩
  | pel t i o => obtain ⟨tg, k, _, _, rfl⟩ := h; exact .inr ⟨rfl, rfl, rfl⟩
  | fn f c => obtain ⟨us, rfl, _⟩ := h; exact .inr ⟨rfl, rfl, rfl⟩
  | sl T l => exact .inr ⟨rfl, key (PR.one (v := .sl T l) h), PR.one (v := .sl T l) h⟩
  | nsl T l => exact .inr ⟨rfl, key (PR.one (v := .sl T l) h.1), PR.one (v := .sl T l) h.1⟩
  | _ => rw [show u = _ from h]; exact .inr ⟨rfl, rfl, rfl⟩

theorem LR_cells {v : AV} {u : Value} (h : LR w g v u) (hv : v.isVal = true) : All2 (LR w g) v.cells u.cells.toList ∧ ∀ x ∈ u.cells.toList, x.oneCell' = true := by
  rcases LR_one h hv with ⟨cs, us, rfl, rfl, h2⟩ | ⟨e1, e2, e3⟩
  · exact ⟨by simpa [AV.cells, Value.cells] using h2.imp fun _ _ => LR_of_PR, by simpa [Value.cells] using h2.one⟩
  · rw [e1, e2]; exact ⟨⟨h, trivial⟩, by simpa using e3⟩

theorem VR_val {v : AV} {u : Value} (h : VR w g v u) (hv : v.isVal = true) : LR w g v u := by
  rcases VR_or h with ⟨vs, rfl, _⟩ | h
  · cases hv
  · exact h

theorem goes_box (h : Rel B g s w a N) (hd : ∀ t, o.dst = some t → t < N) {e : TypeId} {x : Operand} (ho : o.op = .box e x) {tt : Tmp} (hdst : o.dst = some tt)
    (he : (rdv x fun v => match v.isVal with
      | true => .box tt fun
        | none => .ret [.box tt v.cells, .tmp tt (.ptr tt 0)]
        | some _ => .fail
      | false => .fail).Ev C Rd s ws) : Goes P B N o s w a ws := by
  obtain ⟨v, hv, he⟩ := rdv_ev h he
  cases hval : v.isVal with
  | false => rw [hval] at he; exact he.elim
  | true =>
    rw [hval] at he
    obtain ⟨_, he⟩ := he
    cases hb : s.boxes tt with
    | some c => rw [hb] at he; exact he.elim
    | none =>
      rw [hb] at he
      have : ws = _ := he
      subst this
      obtain ⟨g', h1, hβ⟩ := h.newBoxAt (hd tt hdst) hb (us := (a.eval x).cells) e (LR_cells (VR_val hv hval) hval).1
      have h2 := h1.tmp (LR_ptr (o := 0) hβ) (hd tt hdst)
      refine goes_value (w' := w.alloc (.cells (a.eval x).cells e)) (u := .pointer (some ⟨w.heap.size, 0, none⟩)) ?_ (by rw [hdst]; exact h2) (below_alloc h _)
      simp [execOp, ho, Instr.box, newVar, newRow]


def At (w : World) (ad : Addr) (us : List Value) : Prop := ∀ (j : Nat) (u : Value), us[j]? = some u → w.cell? (ad.add j) = some u

theorem At.off {ad : Addr} {us : List Value} (h : At w ad us) (o : Nat) : At w (ad.add o) (us.drop o) := by
  intro j u hu
  rw [add_add]
  exact h (o + j) u (by simpa [List.getElem?_drop] using hu)

theorem At.take {ad : Addr} {us : List Value} (h : At w ad us) (n : Nat) : At w ad (us.take n) := by
  intro j u hu
  refine h j u ?_
  rw [List.getElem?_take] at hu
  split at hu
  · exact hu
  · cases hu

theorem run_loadVar {t : TypeId} {i : TInfo} {ti : TypeInfo} {d : TypeDesc} {z : Value} (T : TypeIs P t i ti d z) {ad : Addr} {us : List Value} (h : At w ad us) :
    (i.kn.isSt = true → us.length = i.size → (loadVar t ad).run P w = .ok (.agg us.toArray) w) ∧
    (i.kn.isSt = false → ∀ u, us[0]? = some u → (loadVar t ad).run P w = .ok u w) := by
  constructor
  · intro hs hl
    have := run_loadCells_list (P := P) w ad us h
    simp only [loadVar, Sem.run_bind, T.isAgg, hs, Result.andThen_ok, if_true, T.sizeOf, ← hl, this, Sem.run_pure]
  · intro hs u hu
    have h0 := h 0 u hu
    have e : ad.add 0 = ad := by simp [Addr.add]
    rw [e] at h0
    simp [loadVar, T.isAgg, hs, h0]

theorem PV_plain {pr : Nat → Nat → Prop} : ∀ {vs : List AV} {xs : List Value}, All2 (PV w pr) vs xs → vs.all isPlainCell = true → All2 (PR w pr) vs xs
  | [], [], _, _ => trivial
  | v :: vs, x :: xs, h, hp => by
    simp only [List.all_cons, Bool.and_eq_true] at hp
    refine ⟨?_, PV_plain h.2 hp.2⟩
    rcases h.1 with p | ⟨_, _, e, _, _⟩
    · exact p
    · rw [e] at hp; exact Bool.noConfusion (show false = true from hp.1)
  | [], _ :: _, h, _ => h.elim
  | _ :: _, [], h, _ => h.elim

theorem LR_unfz {v : AV} {u : Value} (h : LR w g v u) : LR w g (unfz v) u := by
  cases v with
  | fz c => exact LR_of_PR h
  | _ => exact h
theorem unfz_all : ∀ {cs : List AV} {us : List Value}, All2 (LR w g) cs us → All2 (LR w g) (cs.map unfz) us
  | [], [], _ => trivial
  | _ :: _, _ :: _, h => ⟨LR_unfz h.1, unfz_all h.2⟩
  | [], _ :: _, h => h.elim
  | _ :: _, [], h => h.elim

theorem cut_ev {t : TypeId} {i : TInfo} {ti : TypeInfo} {d : TypeDesc} {z : Value} (T : TypeIs P t i ti d z) (h : Rel B g s w a N) {cs : List AV} {us : List Value} (hc : All2 (LR w g) cs us) {ad : Addr} (hat : At w ad us)
    {off : Nat} {dst : Option Tmp} (he : (cut i cs off [] fun v ws' => .ret (ws' ++ wrd dst v)).Ev C Rd s ws) (hd : ∀ t, dst = some t → t < N) :
    ∃ u g', (loadVar t (ad.add off)).run P w = .ok u w ∧ Rel B g' (s.puts ws) w (a.put dst u) N := by
  unfold cut at he
  cases hs : i.kn.isSt with
  | true =>
    rw [hs] at he
    simp only [] at he
    cases hl : decide (off + i.size ≤ cs.length) with
    | false => rw [hl] at he; exact he.elim
    | true =>
      rw [hl] at he
      simp only [cond_true] at he
      have hlen : off + i.size ≤ cs.length := by simpa using hl
      obtain ⟨vs', ws', g', he2, hp, h2, hk, hv⟩ := snaps_ev (Promo.refl s) (by simpa [S.puts] using h) ((unfz_all ((hc.drop off).take i.size)).imp fun _ _ => VR_of_LR) he
      cases hpl : vs'.all isPlainCell with
      | false => rw [hpl] at he2; exact he2.elim
      | true =>
        rw [hpl] at he2
        have : ws = ws' ++ wrd dst (.agg vs') := he2
        subst this
        refine ⟨.agg ((us.drop off).take i.size).toArray, g', ((run_loadVar T ((hat.off off).take i.size)).1 hs (by have := hc.len; simp; omega)), ?_⟩
        rw [S.puts_append]
        refine h2.wrd (VR_of_LR (show LR w g' (.agg vs') _ from ⟨_, rfl, PV_plain hv hpl⟩)) hd
  | false =>
    rw [hs] at he
    simp only [] at he
    cases hq : cs[off]? with
    | none => rw [hq] at he; exact he.elim
    | some v =>
      rw [hq] at he
      have : ws = [] ++ wrd dst (unfz v) := he
      subst this
      obtain ⟨u, hu, hr⟩ := hc.get off v hq
      refine ⟨u, g, (run_loadVar T (hat.off off)).2 hs u (by simpa [List.getElem?_drop] using hu), ?_⟩
      exact h.wrd (VR_of_LR (LR_unfz hr)) hd

theorem execOp_load {t : TypeId} {x : Operand} (ho : o.op = .load t x) {ad : Addr} (hx : a.eval x = .pointer (some ad)) {u : Value} (hl : (loadVar t ad).run P w = .ok u w) :
    (execOp a.eval o).run P w = .ok (.value u) w := by
  simp [execOp, ho, hx, Instr.loadAt, Instr.sureAddr, hl]

theorem row_at {us : Array Value} {e : TypeId} {fr : Nat × Nat} {k : Nat} (h : w.heap[k]? = some (.cells us e fr)) : At w ⟨k, 0, none⟩ us.toList := by
  intro j u hu
  rw [addr_add, Nat.zero_add, cell_of h]
  simpa using hu

theorem goes_load (hT : TIok P TI) (h : Rel B g s w a N) (hd : ∀ t, o.dst = some t → t < N) {t : TypeId} {x : Operand} (ho : o.op = .load t x)
    (he0 : (rdv x fun p => pgLoad TI o.dst t p).Ev C Rd s ws) : Goes P B N o s w a ws := by
  obtain ⟨v, hv, he⟩ := rdv_ev h he0
  clear he0
  unfold pgLoad tinf at he
  cases hi : TI t with
  | none => rw [hi] at he; exact he.elim
  | some i =>
    rw [hi] at he
    obtain ⟨ti, d, z, T⟩ := hT.get hi
    cases v with
    | ptr b off =>
      simp only [] at he
      obtain ⟨_, he⟩ := he
      cases hb : s.boxes b with
      | none => rw [hb] at he; exact he.elim
      | some cs =>
        rw [hb] at he
        obtain ⟨k, hβ, ok⟩ := h.bx b cs hb
        obtain ⟨us, e, fr, r1, r2, r3⟩ := ok.row
        obtain ⟨k', hβ', hu⟩ := hv
        rw [hβ] at hβ'; cases hβ'
        obtain ⟨u, g', hl, h2⟩ := cut_ev T h r3 (row_at r1) he hd
        rw [addr_add, Nat.zero_add] at hl
        exact goes_value (execOp_load ho hu hl) h2 (BelowB.refl _ _)
    | pim cs off =>
      simp only [] at he
      obtain ⟨ad, us, hu, hc, hcell⟩ := hv
      obtain ⟨u, g', hl, h2⟩ := cut_ev T h (hc.imp fun _ _ => LR_of_PR) (fun j u hu => (hcell j u hu).1) he hd
      exact goes_value (execOp_load ho hu hl) h2 (BelowB.refl _ _)
    | imm T0 x0 =>
      simp only [] at he
      obtain ⟨ad, us, hu, hcell, htr⟩ := (show TR w g.pr (.ref T0) x0 [_] from hv)
      have hu : a.eval x = .pointer (some ad) := by simpa using hu
      obtain ⟨u, g', hl, h2⟩ := cut_ev T h ((cells_PR htr).imp fun _ _ => LR_of_PR) (fun j u hu => (hcell j u hu).1) he hd
      have e0 : ad.add 0 = ad := by simp [Addr.add]
      rw [e0] at hl
      exact goes_value (execOp_load ho hu hl) h2 (BelowB.refl _ _)
    | pel t' j off =>
      simp only [] at he
      obtain ⟨_, he⟩ := he
      cases ht : s.toks t' with
      | abs => rw [ht] at he; exact he.elim
      | dead => rw [ht] at he; exact he.elim
      | live sh T' l =>
        rw [ht] at he
        obtain ⟨hj, he⟩ := he
        have hj : j < l.length := by simpa using hj
        obtain ⟨tg, hτ, ez, r⟩ := h.tk t' sh T' l ht
        obtain ⟨tg', k, hτ', hblk, hu⟩ := hv
        rw [hτ] at hτ'; cases hτ'
        rcases r with ⟨_, e, _⟩ | ⟨k', cap, _, e, r⟩
        · rw [hblk] at e; cases e
        · rw [hblk] at e; cases e
          obtain ⟨us, el, fr, r1, r2, r3, r4⟩ := r.row
          obtain ⟨vs, v1, v2, v3⟩ := r4 j l[j] (by simp [hj])
          have hget : l.getD j T'.dflt = l[j] := by simp [List.getD, hj]
          rw [hget] at he
          have hat : At w ⟨k, j * T'.size, none⟩ vs := by
            intro i u hu
            rw [addr_add, cell_of r1]; exact v2 i u hu
          obtain ⟨u, g', hl, h2⟩ := cut_ev T h ((cells_PR v3).imp fun _ _ => LR_of_PR) hat he hd
          rw [addr_add, ← ez] at hl
          exact goes_value (execOp_load ho hu hl) h2 (BelowB.refl _ _)
    | _ => exact he.elim

end
end Go.Proofs.Ytjgnpmdbkgeakaa.Th
set_option linter.unusedVariables false
set_option linter.unusedSimpArgs false
namespace Go.Proofs.Ytjgnpmdbkgeakaa.Th
open Go Go.RowKit

section
variable {P : Program} {TI : TEnv} {C : FuncId → List AV → AV → Prop} {Rd : Rs → Prop} {B : Bd} {N : Nat} {g g' : Gh} {s : S} {w w' : World} {a : Act} {o : Oper} {ws : List Wr}

theorem run_storeVar {t : TypeId} {i : TInfo} {ti : TypeInfo} {d : TypeDesc} {z : Value} (T : TypeIs P t i ti d z) {k off : Nat} {us : Array Value} {e : TypeId} {fr : Nat × Nat}
    (hr : w.heap[k]? = some (.cells us e fr)) (ht : Thawed fr us.size) {u : Value} (hn : u.cells.size = i.size) (hl : off + i.size ≤ us.size) (h1 : ∀ x ∈ u.cells.toList, x.oneCell' = true) :
    (storeVar t ⟨k, off, none⟩ u).run P w = .ok () (w.setRow k (over us.toList off u.cells.toList).toArray) := by
  have := run_storeRow (P := P) u.cells.toList off 0 w us hr ht (by simp; omega) h1
  simp only [storeVar, Sem.run_bind, T.sizeOf, Result.andThen_ok, hn, ne_eq, not_true_eq_false, if_false, this, Nat.add_zero, Sem.run_ite, Sem.run_pure]

theorem execOp_store {t : TypeId} {x y : Operand} (ho : o.op = .store t x y) {ad : Addr} (hx : a.eval x = .pointer (some ad)) (hl : (storeVar t ad (a.eval y)).run P w = .ok () w') :
    (execOp a.eval o).run P w = .ok .skip w' := by
  simp [execOp, ho, hx, Instr.storeAt, Instr.sureAddr, hl]

theorem over_All2 {R : AV → Value → Prop} {cs vs : List AV} {us xs : List Value} {off : Nat} (h : All2 R cs us) (k : All2 R vs xs) : All2 R (splice cs off vs) (over us off xs) := by
  unfold splice over
  rw [k.len]
  exact ((h.take off).append k).append (h.drop _)

theorem touches_toks {t : Nat} : ∀ {ws : List Wr} {s : S}, touches t ws = false → (s.puts ws).toks t = s.toks t
  | [], s, _ => rfl
  | x :: ws, s, h => by
    cases x with
    | tok u c =>
      simp only [touches, Bool.or_eq_false_iff] at h
      have hne : t ≠ u := fun e => by rw [e, beq_self] at h; cases h.1
      rw [S.puts, touches_toks h.2]
      simp [S.put, upd_ne _ _ _ _ hne]
    | tmp u c => rw [S.puts, touches_toks (by simpa [touches] using h)]; rfl
    | box u c => rw [S.puts, touches_toks (by simpa [touches] using h)]; rfl

theorem rowOf_set {pr : Nat → Nat → Prop} {T : Ty} {l : List T.den} {us : Array Value} {x : T.den} {j off : Nat} {xs : List Value} (h : RowOf w pr T l us) (hj : j < l.length) (hoff : off + xs.length ≤ T.size)
    (hfit : l.length * T.size ≤ us.size) (hx : ∀ vs : List Value, vs.length = T.size → (∀ (i : Nat) (v : Value), vs[i]? = some v → us[j * T.size + i]? = some v) → TR w pr T l[j] vs → TR w pr T x (over vs off xs)) :
    RowOf w pr T (l.set j x) (over us.toList (j * T.size + off) xs).toArray := by
  have hjs : (j + 1) * T.size ≤ l.length * T.size := Nat.mul_le_mul_right _ hj
  have hjs2 : (j + 1) * T.size = j * T.size + T.size := by rw [Nat.add_mul]; omega
  have hfit2 : j * T.size + off + xs.length ≤ us.toList.length := by simp; omega
  intro j' y hy
  by_cases e : j' = j
  · subst e
    simp [hj] at hy; subst hy
    obtain ⟨vs, v1, v2, v3⟩ := h j' l[j'] (by simp [hj])
    refine ⟨over vs off xs, by rw [over_len (by omega)]; exact v1, fun i v hv => ?_, hx vs v1 v2 v3⟩
    have hi : i < T.size := by have := (List.getElem?_eq_some_iff.1 hv).1; rw [over_len (by omega), v1] at this; exact this
    rw [List.getElem?_toArray, over_get hfit2]
    rw [over_get (by omega)] at hv
    by_cases a1 : i < off
    · rw [if_pos a1] at hv
      rw [if_pos (by omega)]
      simpa using v2 i v hv
    · rw [if_neg a1] at hv
      rw [if_neg (by omega)]
      by_cases a2 : i < off + xs.length
      · rw [if_pos a2] at hv
        rw [if_pos (by omega), show j' * T.size + i - (j' * T.size + off) = i - off from by omega]; exact hv
      · rw [if_neg a2] at hv
        rw [if_neg (by omega)]
        simpa using v2 i v hv
  · rw [List.getElem?_set_ne (Ne.symm e)] at hy
    obtain ⟨vs, v1, v2, v3⟩ := h j' y hy
    refine ⟨vs, v1, fun i v hv => ?_, v3⟩
    have hi : i < T.size := by rw [← v1]; exact (List.getElem?_eq_some_iff.1 hv).1
    rw [List.getElem?_toArray, over_get hfit2]
    have hv2 := v2 i v hv
    rcases Nat.lt_or_gt_of_ne e with lt | gt
    · have : (j' + 1) * T.size ≤ j * T.size := Nat.mul_le_mul_right _ lt
      have : (j' + 1) * T.size = j' * T.size + T.size := by rw [Nat.add_mul]; omega
      rw [if_pos (by omega)]; simpa using hv2
    · have : (j + 1) * T.size ≤ j' * T.size := Nat.mul_le_mul_right _ gt
      rw [if_neg (by omega), if_neg (by omega)]; simpa using hv2

theorem nofz {cs : List AV} {off n o : Nat} {v : AV} (h : ((cs.drop off).take n).any isFz = false) (ho : cs[o]? = some (.fz v)) : o < off ∨ off + n ≤ o := by
  by_cases h1 : o < off
  · exact .inl h1
  · by_cases h2 : off + n ≤ o
    · exact .inr h2
    · have hm : ((cs.drop off).take n)[o - off]? = some (.fz v) := by
        rw [List.getElem?_take_of_lt (by omega), List.getElem?_drop, show off + (o - off) = o by omega, ho]
      rw [List.any_eq_false] at h
      exact absurd rfl (h _ (List.mem_of_getElem? hm))
theorem splice_out {cs new : List AV} {off o : Nat} (hf : off + new.length ≤ cs.length) (h : o < off ∨ off + new.length ≤ o) : (splice cs off new)[o]? = cs[o]? := by
  unfold splice
  have hl : (cs.take off).length = off := by simp; omega
  rcases h with h | h
  · rw [List.append_assoc, List.getElem?_append_left (by omega), List.getElem?_take_of_lt h]
  · rw [List.getElem?_append_right (by simp; omega), List.getElem?_drop]
    congr 1
    simp; omega

theorem goes_store (hT : TIok P TI) (h : Rel B g s w a N) (hd : o.dst = none) {t : TypeId} {x y : Operand} (ho : o.op = .store t x y)
    (he0 : (rdv x fun p => rdv y fun v => pgStore TI t p v).Ev C Rd s ws) : Goes P B N o s w a ws := by
  obtain ⟨p, hp, he1⟩ := rdv_ev h he0
  obtain ⟨v, hv, he⟩ := rdv_ev h he1
  clear he0 he1
  unfold pgStore tinf at he
  cases hi : TI t with
  | none => rw [hi] at he; exact he.elim
  | some i =>
    rw [hi] at he
    obtain ⟨ti, d, z, T⟩ := hT.get hi
    cases hq : v.isVal && decide (v.cells.length = i.size) with
    | false => simp only [hq] at he; exact he.elim
    | true =>
      simp only [hq] at he
      simp only [Bool.and_eq_true, decide_eq_true_eq] at hq
      have hvl := VR_val hv hq.1
      obtain ⟨hc, h1⟩ := LR_cells hvl hq.1
      have hn : (a.eval y).cells.size = i.size := by have := hc.len; simp at this; omega
      cases p with
      | ptr b off =>
        simp only [] at he
        obtain ⟨_, he⟩ := he
        cases hb : s.boxes b with
        | none => rw [hb] at he; exact he.elim
        | some cs =>
          rw [hb] at he
          simp only [] at he
          cases hl : (decide (off + i.size ≤ cs.length) && !(((cs.drop off).take i.size).any isFz)) with
          | false => rw [hl] at he; exact he.elim
          | true =>
            rw [hl] at he
            simp only [Bool.and_eq_true, Bool.not_eq_true'] at hl
            obtain ⟨hl, hnf⟩ := hl
            have : ws = _ := he
            subst this
            obtain ⟨k, hβ, ok⟩ := h.bx b cs hb
            obtain ⟨us, e, fr, r1, r2, r3⟩ := ok.row
            obtain ⟨k', hβ', hu⟩ := hp
            rw [hβ] at hβ'; cases hβ'
            have hsz : cs.length = us.size := by simpa using r3.len
            have hfit : off + i.size ≤ us.size := by rw [← hsz]; simpa using hl
            have hrun := run_storeVar T r1 r2 hn hfit h1
            have hr' := setRow_heap w k us (over us.toList off (a.eval y).cells.toList).toArray e fr r1
            have hsize : (over us.toList off (a.eval y).cells.toList).toArray.size = us.size := by
              rw [List.size_toArray, over_len (by simp; omega)]; simp
            obtain ⟨h2, _⟩ := h.setBox hb hβ (only_setRow k _) hr' (by rw [hsize]; exact r2) (cs' := splice cs off v.cells) (over_All2 r3 hc) (fun o p => by
              obtain ⟨vz, hz⟩ := ok.free o p
              have hout := nofz hnf hz
              rw [cell_of hr', cell_of r1, List.getElem?_toArray, over_get (by simp; omega)]
              rcases hout with h1 | h1
              · rw [if_pos h1]; simp
              · rw [if_neg (by omega), if_neg (by simp; omega)]; simp) (fun o p => by
              obtain ⟨vz, hz⟩ := ok.free o p
              have hvl2 : v.cells.length = i.size := hq.2
              have hl' : off + i.size ≤ cs.length := by simpa using hl
              exact ⟨vz, by rw [splice_out (by omega) (by rw [hvl2]; exact nofz hnf hz), hz]⟩)
            exact goes_skip (execOp_store ho hu hrun) (by rw [hd]; exact h2) (below_setRow ok.above _)
      | pel t' j off =>
        simp only [] at he
        obtain ⟨vs, ws', g1, he, hpm, h2, hk, hvs⟩ := snaps_ev (Promo.refl s) (by simpa [S.puts] using h) (hc.imp fun _ _ => VR_of_LR) he
        obtain ⟨_, he⟩ := he
        cases ht : s.toks t' with
        | abs => rw [ht] at he; exact he.elim
        | dead => rw [ht] at he; exact he.elim
        | live sh T' l =>
          cases sh with
          | true => rw [ht] at he; exact he.elim
          | false =>
            rw [ht] at he
            obtain ⟨hj, htch, hpl, he⟩ := he
            have hj : j < l.length := by simpa using hj
            have htch : touches t' ws' = false := by simpa using htch
            cases hq1 : decide (off + i.size ≤ T'.size) with
            | false => rw [hq1] at he; exact he.elim
            | true =>
              cases hq2 : T'.ofCells (splice (T'.cells (l.getD j T'.dflt)) off vs) with
              | none => rw [hq1, hq2] at he; exact he.elim
              | some x =>
                rw [hq1, hq2] at he
                have : ws = _ := he
                subst this
                have hoff : off + i.size ≤ T'.size := by simpa using hq1
                have hlive : (s.puts ws').toks t' = .live false T' l := by rw [touches_toks htch, ht]
                obtain ⟨tg, hτ, ez, r⟩ := h2.tk t' false T' l hlive
                have hp2 := VR.keeps hk hp
                obtain ⟨tg', k, hτ', hblk, hu⟩ := hp2
                rw [hτ] at hτ'; cases hτ'
                rcases r with ⟨_, e, _⟩ | ⟨k', cap, hval, e, r⟩
                · rw [hblk] at e; cases e
                · rw [hblk] at e; cases e
                  obtain ⟨us, el, fr, r1, r2, r3, r4⟩ := r.row
                  rw [ez] at hu
                  have hxl : (a.eval y).cells.toList.length = i.size := by simpa using hn
                  have hfit : l.length * T'.size ≤ us.size := Nat.le_trans (Nat.mul_le_mul_right _ r.len) r3
                  have hjs : (j + 1) * T'.size ≤ l.length * T'.size := Nat.mul_le_mul_right _ hj
                  have hjs2 : (j + 1) * T'.size = j * T'.size + T'.size := by rw [Nat.add_mul]; omega
                  have hrun := run_storeVar (w := w) (off := j * T'.size + off) T r1 r2 hn (by omega) h1
                  have hr' := setRow_heap w k us (over us.toList (j * T'.size + off) (a.eval y).cells.toList).toArray el fr r1
                  have hsize : (over us.toList (j * T'.size + off) (a.eval y).cells.toList).toArray.size = us.size := by
                    rw [List.size_toArray, over_len (by simp; omega)]; simp
                  have hrow := rowOf_set (x := x) (off := off) (xs := (a.eval y).cells.toList) r4 hj (by omega) hfit (by
                    intro vs0 n0 _ t0
                    refine ofCells_TR hq2 ?_
                    rw [show l.getD j T'.dflt = l[j] from by simp [List.getD, hj]]
                    exact over_All2 (cells_PR t0) (PV_plain hvs hpl))
                  obtain ⟨h3, _⟩ := h2.setTok hlive hτ hval hblk (by simp) (only_setRow k _) hr' (by rw [hsize]; exact r2) (by rw [hsize]; exact r3) hrow
                  refine goes_skip (g' := g1) (execOp_store ho hu hrun) ?_ (below_setRow r.above _)
                  rw [hd, S.puts_one]
                  exact h3
      | _ => exact he.elim

theorem run_fieldAt (hT : TIok P TI) {t : TypeId} {i : TInfo} {ti : TypeInfo} {d : TypeDesc} {z : Value} (T : TypeIs P t i ti d z) (hs : i.kn.isSt = true) {f off : Nat} {ft : TypeId} {fi : TInfo} (hf : i.fields[f]? = some (off, ft))
    (hfi : TI ft = some fi) (h0 : 0 < fi.size) (ad : Addr) : (Instr.fieldAt t (.pointer (some ad)) f).run P w = .ok (.pointer (some (ad.add off))) w := by
  obtain ⟨fs, hu, hfs⟩ := T.struct hs
  obtain ⟨_, _, _, F⟩ := hT.get hfi
  rw [hfs, List.getElem?_map] at hf
  cases hq : fs.toList[f]? with
  | none => rw [hq] at hf; cases hf
  | some fd =>
    rw [hq] at hf
    simp only [Option.map_some, Option.some.injEq, Prod.mk.injEq] at hf
    have hq2 : fs[f]? = some fd := by simpa using hq
    obtain ⟨rfl, rfl⟩ := hf
    have hz : ¬ fi.size = 0 := by omega
    simp [Instr.fieldAt, run_underlying hu, hq2, Instr.sureAddr, fieldPlace, F.sizeOf, hz]

theorem goes_fieldAddr (hT : TIok P TI) (h : Rel B g s w a N) (hd : ∀ t, o.dst = some t → t < N) {t : TypeId} {x : Operand} {f : Nat} (ho : o.op = .fieldAddr t x f)
    (he0 : (rdv x fun p => pgFieldAddr TI o.dst t p f).Ev C Rd s ws) : Goes P B N o s w a ws := by
  obtain ⟨p, hp, he⟩ := rdv_ev h he0
  clear he0
  unfold pgFieldAddr tinf at he
  cases hi : TI t with
  | none => rw [hi] at he; exact he.elim
  | some i =>
    rw [hi] at he
    obtain ⟨ti, d, z, T⟩ := hT.get hi
    cases hs : i.kn.isSt with
    | false => simp only [hs] at he; exact he.elim
    | true =>
      cases hf : i.fields[f]? with
      | none => simp only [hs, hf] at he; exact he.elim
      | some of =>
        obtain ⟨off, ft⟩ := of
        simp only [hs, hf] at he
        cases hfi : TI ft with
        | none => rw [hfi] at he; exact he.elim
        | some fi =>
          rw [hfi] at he
          simp only [] at he
          cases h0 : decide (0 < fi.size) with
          | false => rw [h0] at he; exact he.elim
          | true =>
            rw [h0] at he
            have hpos : 0 < fi.size := by simpa using h0
            have hrun : ∀ ad : Addr, a.eval x = .pointer (some ad) → (execOp a.eval o).run P w = .ok (.value (.pointer (some (ad.add off)))) w := by
              intro ad had
              simp [execOp, ho, had, run_fieldAt hT T hs hf hfi hpos ad]
            cases p with
            | ptr b o' =>
              obtain ⟨k, hβ, hu⟩ := hp
              refine goes_pure h hd (show VR w g (.ptr b (o' + off)) _ from ⟨k, hβ, rfl⟩) ?_ he
              rw [hrun _ hu, addr_add]
            | pim cs o' =>
              obtain ⟨ad, us, hu, h1, h2⟩ := hp
              refine goes_pure h hd (show VR w g (.pim cs (o' + off)) _ from ⟨ad, us, rfl, h1, h2⟩) ?_ he
              rw [hrun _ hu, add_add]
            | imm T0 x0 =>
              obtain ⟨ad, us, hu, h2, h1⟩ := (show TR w g.pr (.ref T0) x0 [_] from hp)
              have hu : a.eval x = .pointer (some ad) := by simpa using hu
              exact goes_pure h hd (show VR w g (.pim (T0.cells x0) off) _ from ⟨ad, us, rfl, cells_PR h1, h2⟩) (hrun _ hu) he
            | pel t' j o' =>
              obtain ⟨tg, k, h1, h2, hu⟩ := hp
              refine goes_pure h hd (show VR w g (.pel t' j (o' + off)) _ from ⟨tg, k, h1, h2, rfl⟩) ?_ he
              rw [hrun _ hu, addr_add, Nat.add_assoc]
            | _ => exact he.elim

theorem run_part {t : TypeId} {i : TInfo} {ti : TypeInfo} {d : TypeDesc} {z : Value} (T : TypeIs P t i ti d z) {us : List Value} {off : Nat} :
    (i.kn.isSt = true → (part t us.toArray off).run P w = .ok (.agg (us.drop off |>.take i.size).toArray) w) ∧
    (i.kn.isSt = false → ∀ u, us[off]? = some u → (part t us.toArray off).run P w = .ok u w) := by
  constructor
  · intro hs
    simp only [part, Sem.run_bind, T.isAgg, hs, Result.andThen_ok, if_true, T.sizeOf, Sem.run_pure]
    congr 2
    apply Array.ext'
    simp [List.take_drop]
  · intro hs u hu
    simp [part, T.isAgg, hs, hu]

theorem goes_field (hT : TIok P TI) (h : Rel B g s w a N) (hd : ∀ t, o.dst = some t → t < N) {t : TypeId} {x : Operand} {f : Nat} (ho : o.op = .field t x f)
    (he0 : (rdv x fun x => pgField TI o.dst t x f).Ev C Rd s ws) : Goes P B N o s w a ws := by
  obtain ⟨p, hp, he⟩ := rdv_ev h he0
  clear he0
  unfold pgField tinf at he
  cases hi : TI t with
  | none => rw [hi] at he; exact he.elim
  | some i =>
    rw [hi] at he
    obtain ⟨ti, d, z, T⟩ := hT.get hi
    cases hs : i.kn.isSt with
    | false => simp only [hs] at he; exact he.elim
    | true =>
      cases hf : i.fields[f]? with
      | none => simp only [hs, hf] at he; exact he.elim
      | some of =>
        obtain ⟨off, ft⟩ := of
        simp only [hs, hf] at he
        cases hfi : TI ft with
        | none => rw [hfi] at he; exact he.elim
        | some fi =>
          rw [hfi] at he
          simp only [] at he
          obtain ⟨_, _, _, F⟩ := hT.get hfi
          cases p with
          | agg cs =>
            obtain ⟨us, hu, hc⟩ := hp
            obtain ⟨fs, hun, hfs⟩ := T.struct hs
            rw [hfs, List.getElem?_map] at hf
            cases hq : fs.toList[f]? with
            | none => rw [hq] at hf; cases hf
            | some fd =>
              rw [hq] at hf
              simp only [Option.map_some, Option.some.injEq, Prod.mk.injEq] at hf
              have hq2 : fs[f]? = some fd := by simpa using hq
              obtain ⟨rfl, rfl⟩ := hf
              have hrun : ∀ v, (part fd.type us.toArray fd.offset).run P w = .ok v w → (execOp a.eval o).run P w = .ok (.value v) w := by
                intro v hv
                simp [execOp, ho, hu, Instr.field, run_underlying hun, hq2, asAgg, hv]
              unfold cut at he
              cases hs2 : fi.kn.isSt with
              | true =>
                rw [hs2] at he
                simp only [] at he
                cases hl : decide (fd.offset + fi.size ≤ cs.length) with
                | false => rw [hl] at he; exact he.elim
                | true =>
                  rw [hl] at he
                  simp only [cond_true] at he
                  have hc2 : All2 (LR w g) ((cs.drop fd.offset).take fi.size) ((us.drop fd.offset).take fi.size) := ((hc.imp fun _ _ => LR_of_PR).drop _).take _
                  obtain ⟨vs', ws', g', he2, hpr, h2, hk, hv⟩ := snaps_ev (Promo.refl s) (by simpa [S.puts] using h) ((unfz_all hc2).imp fun _ _ => VR_of_LR) he
                  cases hpl : vs'.all isPlainCell with
                  | false => rw [hpl] at he2; exact he2.elim
                  | true =>
                    rw [hpl] at he2
                    have : ws = ws' ++ wrd o.dst (.agg vs') := he2
                    subst this
                    refine goes_value (g' := g') (hrun _ ((run_part F).1 hs2)) ?_ (BelowB.refl _ _)
                    rw [S.puts_append]
                    exact h2.wrd (VR_of_LR (show LR w g' (.agg vs') _ from ⟨_, rfl, PV_plain hv hpl⟩)) hd
              | false =>
                rw [hs2] at he
                simp only [] at he
                cases hq3 : cs[fd.offset]? with
                | none => rw [hq3] at he; exact he.elim
                | some v =>
                  rw [hq3] at he
                  obtain ⟨u, hu2, hr⟩ := hc.get _ _ hq3
                  exact goes_pure h hd (VR_of_LR (LR_unfz (LR_of_PR hr))) (hrun _ ((run_part F).2 hs2 u hu2)) he
          | _ => exact he.elim

theorem goes_index (h : Rel B g s w a N) (hd : ∀ t, o.dst = some t → t < N) {t : TypeId} {x y : Operand} (ho : o.op = .index t x y) (ht : P.underlying t = some .string) {l : List UInt8} {k : IntKind} {n : Int}
    (hx : a.eval x = strV l) (hy : a.eval y = .int k n) (h0 : 0 ≤ n) (hn : n < l.length) (he : (retv o.dst (.int .u8 ((l.getD n.toNat 0).toNat : Int))).Ev C Rd s ws) : Goes P B N o s w a ws := by
  refine goes_int h hd ?_ he
  have hlt : n.toNat < l.length := by omega
  have e1 : (⟨l.toArray⟩ : ByteArray)[n.toNat]? = some (l.getD n.toNat 0) := by
    have hsz : n.toNat < (⟨l.toArray⟩ : ByteArray).size := by simpa [ByteArray.size] using hlt
    rw [getElem?_pos (⟨l.toArray⟩ : ByteArray) n.toNat hsz]
    simp [List.getD, hlt, ByteArray.getElem_eq_getElem_data]
  simp only [execOp, ho, hx, hy, Instr.index, strV, asIntOf, Sem.run_bind, Sem.run_pure, Result.andThen_ok, run_underlying ht, h0, if_true, e1]

theorem goes_extract (h : Rel B g s w a N) (hd : ∀ t, o.dst = some t → t < N) {x : Operand} {i : Nat} (ho : o.op = .extract x i)
    (he0 : (rdv x fun v => pgExtract o.dst v i).Ev C Rd s ws) : Goes P B N o s w a ws := by
  obtain ⟨p, hp, he⟩ := rdv_ev h he0
  clear he0
  unfold pgExtract at he
  cases p with
  | tup vs =>
    obtain ⟨us, hu, hc⟩ := hp
    simp only [] at he
    cases hq : vs[i]? with
    | none => rw [hq] at he; exact he.elim
    | some v =>
      rw [hq] at he
      obtain ⟨u, hu2, hr⟩ := hc.get _ _ hq
      refine goes_pure h hd (VR_of_LR hr) ?_ he
      simp [execOp, ho, hu, Instr.extract, hu2]
  | _ => exact he.elim

theorem goes_indexAddr (hT : TIok P TI) (h : Rel B g s w a N) (hd : ∀ t, o.dst = some t → t < N) {t : TypeId} {x y : Operand} (ho : o.op = .indexAddr t x y)
    (he0 : (rdv x fun x => rdv y fun i => pgIndexAddr TI o.dst t x i).Ev C Rd s ws) : Goes P B N o s w a ws := by
  obtain ⟨p, hp, he1⟩ := rdv_ev h he0
  obtain ⟨q, hq, he⟩ := rdv_ev h he1
  clear he0 he1
  unfold pgIndexAddr at he
  cases q with
  | int k n =>
    simp only [] at he
    have hn := VR_int hq
    unfold tinf at he
    cases hi : TI t with
    | none => rw [hi] at he; exact he.elim
    | some i =>
      rw [hi] at he
      obtain ⟨ti, d, z, T⟩ := hT.get hi
      cases hkn : i.kn with
      | slice e =>
        simp only [hkn] at he
        cases hei : TI e with
        | none => rw [hei] at he; exact he.elim
        | some ei =>
          rw [hei] at he
          simp only [] at he
          obtain ⟨_, _, _, E⟩ := hT.get hei
          have hun := T.slice hkn
          have hrun : ∀ (ad : Addr) (len cap : Nat), a.eval x = .slice (some ad) len cap → 0 ≤ n → n < len → (execOp a.eval o).run P w = .ok (.value (.pointer (some (ad.add (n.toNat * ei.size))))) w := by
            intro ad len cap hx h0 hlt
            simp only [execOp, ho, hx, hn, Instr.indexAt, asIntOf, Sem.run_bind, Sem.run_pure, Result.andThen_ok, run_underlying hun, h0, hlt, and_self, if_true, E.sizeOf]
          cases p with
          | sl T' l =>
            simp only [] at he
            cases hd2 : T'.dec ei.ty with
            | none => rw [hd2] at he; exact he.elim
            | some hh =>
              rw [hd2] at he
              obtain ⟨h0, hlt, he⟩ := he
              have h0 : 0 ≤ n := by simpa using h0
              have hlt : n < l.length := by simpa using hlt
              have hnat : n.toNat < l.length := by omega
              have hsz : T'.size = ei.size := by rw [hh.down]; exact E.tysz
              obtain ⟨ad, c, hu, hc, hr⟩ := (show SlR _ _ _ _ _ _ from hp)
              have hu : a.eval x = .slice ad l.length c := by simpa using hu
              obtain ⟨a0, vs, rfl, v1, v2, v3⟩ := hr n.toNat l[n.toNat] (by simp [hnat])
              have hget : l.getD n.toNat T'.dflt = l[n.toNat] := by simp [List.getD, hnat]
              rw [hget] at he
              refine goes_pure h hd (show VR w g (.pim (T'.cells l[n.toNat]) 0) (.pointer (some ((a0.add (n.toNat * T'.size)).add 0))) from ⟨_, vs, rfl, cells_PR v3, fun i u hu => by rw [add_add]; exact v2 i u hu⟩) ?_ he
              rw [hrun a0 _ c hu h0 hlt, hsz]; simp [Addr.add]
          | ref t' =>
            simp only [] at he
            obtain ⟨_, he⟩ := he
            cases ht : s.toks t' with
            | abs => rw [ht] at he; exact he.elim
            | dead => rw [ht] at he; exact he.elim
            | live sh T' l =>
              rw [ht] at he
              simp only [] at he
              cases hd2 : T'.dec ei.ty with
              | none => rw [hd2] at he; exact he.elim
              | some hh =>
                rw [hd2] at he
                obtain ⟨h0, hlt, he⟩ := he
                have h0 : 0 ≤ n := by simpa using h0
                have hlt : n < l.length := by simpa using hlt
                have hsz : T'.size = ei.size := by rw [hh.down]; exact E.tysz
                obtain ⟨tg, hτ, ez, r⟩ := h.tk t' sh T' l ht
                obtain ⟨tg', hτ', hu, _⟩ := hp
                rw [hτ] at hτ'; cases hτ'
                rcases r with ⟨_, _, e⟩ | ⟨k', cap, hval, hblk, r⟩
                · subst e; simp at hlt; omega
                · rw [hval] at hu
                  refine goes_pure h hd (show VR w g (.pel t' n.toNat 0) (.pointer (some ⟨k', n.toNat * tg.esz + 0, none⟩)) from ⟨tg, k', hτ, hblk, rfl⟩) ?_ he
                  rw [hrun _ _ cap hu h0 hlt, addr_add, ez, hsz]; simp
          | _ => exact he.elim
      | _ => simp only [hkn] at he; exact he.elim
  | _ => exact he.elim

end
end Go.Proofs.Ytjgnpmdbkgeakaa.Th
set_option linter.unusedVariables false
set_option linter.unusedSimpArgs false
namespace Go.Proofs.Ytjgnpmdbkgeakaa.Th
open Go Go.RowKit

section
variable {P : Program} {TI : TEnv} {C : FuncId → List AV → AV → Prop} {Rd : Rs → Prop} {B : Bd} {N : Nat} {g g' : Gh} {s : S} {w w' : World} {a : Act} {o : Oper} {ws : List Wr}

theorem Rel.newTokAt (h : Rel B g s w a N) {t : Nat} (ht : s.toks t = .abs) {T : Ty} {l : List T.den} {us : Array Value} (e : TypeId) {fr : Nat × Nat} {cap : Nat} (hfr : Thawed fr us.size) (hl : l.length ≤ cap) (hc : cap * T.size ≤ us.size)
    (hr : RowOf w g.pr T l us) : ∃ g' tg, Rel B g' (s.put (.tok t (.live false T l))) (w.alloc (.cells us e fr)) a N ∧ g'.τ t = some tg ∧ tg.val = .slice (some ⟨w.heap.size, 0, none⟩) l.length cap := by
  obtain ⟨h1, k1⟩ := h.alloc (.cells us e fr)
  have hf : Fresh g s w.heap.size := h.fresh (Nat.le_refl _)
  have hno : ∀ o, ¬ g.pr w.heap.size o := fun o p => by have := h.prlt _ o p; omega
  obtain ⟨h2, _⟩ := h1.newTok (sh := false) (T := T) (l := l) (tg := ⟨.slice (some ⟨w.heap.size, 0, none⟩) l.length cap, some w.heap.size, T.size⟩) ht (fun k hk => by cases hk; exact hf)
    ⟨rfl, .inr ⟨w.heap.size, cap, rfl, rfl, .inl h.hB, hl, ⟨us, e, fr, alloc_new w _, hfr, hc, hr.keeps k1.pr⟩, fun o p => absurd p (hno o), (fun x => by cases x), fun _ => hno⟩⟩
  exact ⟨_, _, h2, by simp [upd_same]; rfl, rfl⟩

theorem VR_ref {t : Nat} {tg : TG} (h : g.τ t = some tg) {ad : Option Addr} {n c : Nat} (hv : tg.val = .slice ad n c) : VR w g (.ref t) (.slice ad n c) :=
  ⟨tg, h, hv.symm, rfl⟩

theorem fold_set (vs : List Value) : ∀ (i off : Nat) (cs : Array Value), off + i + vs.length ≤ cs.size →
    (vs.zipIdx i).foldl (fun cs (x : Value × Nat) => cs.setIfInBounds (off + x.2) x.1) cs = (over cs.toList (off + i) vs).toArray := by
  induction vs with
  | nil => intro i off cs h; simp [over]
  | cons v vs ih =>
    intro i off cs h
    simp only [List.length_cons] at h
    simp only [List.zipIdx_cons, List.foldl_cons]
    rw [ih (i + 1) off _ (by simp; omega)]
    congr 1
    apply List.ext_getElem?
    intro j
    rw [over_get (by simp; omega), over_get (by simp; omega)]
    simp only [Array.toList_setIfInBounds, List.length_cons, List.getElem?_set, Array.length_toList]
    by_cases a : j < off + i
    · rw [if_pos (by omega), if_pos a, if_neg (by omega)]
    · by_cases b : j = off + i
      · subst b
        rw [if_pos (by omega), if_pos rfl, if_pos (by omega), if_neg (by omega), if_pos (by omega)]
        simp
      · rw [if_neg a]
        by_cases c : j < off + i + (vs.length + 1)
        · rw [if_neg (by omega), if_pos (by omega), if_pos c]
          obtain ⟨m, rfl⟩ : ∃ m, j = off + (i + 1) + m := ⟨j - (off + (i + 1)), by omega⟩
          rw [show off + (i + 1) + m - (off + (i + 1)) = m from by omega, show off + (i + 1) + m - (off + i) = m + 1 from by omega, List.getElem?_cons_succ]
        · rw [if_neg (by omega), if_neg (by omega), if_neg c, if_neg (by omega)]

theorem fill_step {place : Nat → Option (Nat × Nat)} {cells : Array Value} {i off size : Nat} {v : Value} {rest : List (Nat × Value)} (hp : place i = some (off, size)) (hs : v.cells.size = size) (hfit : off + size ≤ cells.size) :
    Instr.fill place cells ((i, v) :: rest) = Instr.fill place (over cells.toList off v.cells.toList).toArray rest := by
  rw [Instr.fill]
  have h1 : ¬ (v.cells.size ≠ size ∨ off + v.cells.size > cells.size) := by omega
  simp only [hp]
  have h2 : ¬ ((decide (v.cells.size ≠ size) || decide (off + v.cells.size > cells.size)) = true) := by simp; omega
  rw [if_neg h2]
  congr 1
  have := fold_set v.cells.toList 0 off cells (by simp; omega)
  simp only [Nat.add_zero] at this
  rw [← this, ← Array.foldl_toList, Array.toList_zipIdx]

theorem rowOf_zero {pr : Nat → Nat → Prop} {T : Ty} {zs : List Value} (hz : TR w pr T T.dflt zs) (n : Nat) : RowOf w pr T (List.replicate n T.dflt) ((Array.range (n * T.size)).map (zs.toArray[· % zs.toArray.size]!)) := by
  have hl := hz.len
  intro j x hx
  have hj : j < n := by have := (List.getElem?_eq_some_iff.1 hx).1; simpa using this
  rw [List.getElem?_replicate, if_pos hj] at hx
  cases hx
  refine ⟨zs, hl, fun i v hv => ?_, hz⟩
  have hi : i < T.size := by rw [← hl]; exact (List.getElem?_eq_some_iff.1 hv).1
  have hlt : j * T.size + i < n * T.size := by
    have : (j + 1) * T.size ≤ n * T.size := Nat.mul_le_mul_right _ hj
    have : (j + 1) * T.size = j * T.size + T.size := by rw [Nat.add_mul]; omega
    omega
  have hmod : (j * T.size + i) % T.size = i := by rw [Nat.mul_comm, Nat.mul_add_mod]; exact Nat.mod_eq_of_lt hi
  rw [Array.getElem?_map, Array.getElem?_range, if_pos hlt]
  simp only [Option.map_some, Option.some.injEq, List.size_toArray, hl, hmod]
  have : i < zs.length := by omega
  rw [List.getElem!_toArray, List.getElem!_eq_getElem?_getD, hv]; rfl

theorem litv_row {pr : Nat → Nat → Prop} {T : Ty} {place : Nat → Option (Nat × Nat)} (hpl : ∀ i, place i = some (i * T.size, T.size)) :
    ∀ {js : List Nat} {vs : List AV} {xs : List Value} {l l' : List T.den} {us : Array Value}, js.length = vs.length → All2 (PV w pr) vs xs → litv T l (js.zip vs) = some l' → RowOf w pr T l us → l.length * T.size ≤ us.size →
      ∃ us', Instr.fill place us (js.zip xs) = some us' ∧ us'.size = us.size ∧ l'.length = l.length ∧ RowOf w pr T l' us' := by
  intro js
  induction js with
  | nil =>
    intro vs xs l l' us hn hv hl hr hs
    simp only [List.zip_nil_left, litv, Option.some.injEq] at hl
    subst hl
    exact ⟨us, by simp [Instr.fill], rfl, rfl, hr⟩
  | cons j js ih =>
    intro vs xs l l' us hn hv hl hr hs
    cases vs with
    | nil => simp at hn
    | cons v vs =>
      cases xs with
      | nil => exact hv.elim
      | cons x xs =>
        simp only [List.zip_cons_cons, litv] at hl ⊢
        cases hq : decide (j < l.length) with
        | false => rw [hq] at hl; cases hl
        | true =>
          cases ho : T.ofCells v.cells with
          | none => rw [hq, ho] at hl; cases hl
          | some y =>
            rw [hq, ho] at hl
            have hj : j < l.length := by simpa using hq
            have htr := ofCells_TR ho hv.1.cells
            have hxs : x.cells.size = T.size := by have := htr.len; simpa using this
            have hjs : (j + 1) * T.size ≤ l.length * T.size := Nat.mul_le_mul_right _ hj
            have hjs2 : (j + 1) * T.size = j * T.size + T.size := by rw [Nat.add_mul]; omega
            rw [fill_step (hpl j) hxs (by omega)]
            have hrow := rowOf_set (x := y) (off := 0) (xs := x.cells.toList) hr hj (by simp [hxs]) hs (by
              intro vs0 n0 _ _
              have e : over vs0 0 x.cells.toList = x.cells.toList := by
                simp only [over, List.take_zero, List.nil_append, Nat.zero_add, Array.length_toList]
                rw [List.drop_of_length_le (by omega), List.append_nil]
              rw [e]; exact htr)
            have hsz : (over us.toList (j * T.size + 0) x.cells.toList).toArray.size = us.size := by
              rw [List.size_toArray, over_len (by simp; omega)]; simp
            obtain ⟨us', a1, a2, a3, a4⟩ := ih (by simpa using hn) hv.2 hl hrow (by rw [hsz]; simpa using hs)
            exact ⟨us', by simpa using a1, by rw [a2, hsz], by simpa using a3, a4⟩

theorem zip_unzip {α β γ : Type} (ps : List (α × β)) (f : β → γ) : ps.map (fun p => (p.1, f p.2)) = (ps.map (·.1)).zip ((ps.map (·.2)).map f) := by
  induction ps with
  | nil => rfl
  | cons p ps ih => simp [ih]

theorem All2_zip {R : AV → Value → Prop} : ∀ {js : List Nat} {vs : List AV} {xs : List Value}, js.length = vs.length → All2 R vs xs → ((js.zip vs).map (·.2)) = vs ∧ ((js.zip vs).map (·.1)) = js
  | [], [], _, _, _ => ⟨rfl, rfl⟩
  | j :: js, v :: vs, x :: xs, h, hv => by
    obtain ⟨a, b⟩ := All2_zip (js := js) (by simpa using h) hv.2
    simp [a, b]
  | _ :: _, _ :: _, [], _, hv => hv.elim
  | [], _ :: _, _, h, _ => by simp at h
  | _ :: _, [], _, h, _ => by simp at h

theorem goes_buildSlice (hT : TIok P TI) (h : Rel B g s w a N) (hd : ∀ t, o.dst = some t → t < N) {t : TypeId} {len : Nat} {ps : Array (Nat × Operand)} (ho : o.op = .buildSlice t len ps)
    (he0 : (rdvs (ps.toList.map (·.2)) fun vs => pgBuildSlice TI o.dst t len ((ps.toList.map (·.1)).zip vs)).Ev C Rd s ws) : Goes P B N o s w a ws := by
  obtain ⟨vs, hv, he⟩ := rdvs_ev h he0
  clear he0
  have hlen : (ps.toList.map (·.1)).length = vs.length := by have := hv.len; simpa using this.symm
  obtain ⟨z1, z2⟩ := All2_zip hlen hv
  unfold pgBuildSlice at he
  cases hdst : o.dst with
  | none => rw [hdst] at he; exact he.elim
  | some tt =>
    rw [hdst] at he
    simp only [z1, z2] at he
    obtain ⟨vs', ws', g1, he, hp, h2, hk, hv2⟩ := snaps_ev (Promo.refl s) (by simpa [S.puts] using h) hv he
    unfold tinf at he
    cases hi : TI t with
    | none => rw [hi] at he; exact he.elim
    | some i =>
      rw [hi] at he
      obtain ⟨ti, d, z, T⟩ := hT.get hi
      cases hkn : i.kn with
      | slice e =>
        simp only [hkn] at he
        cases hei : TI e with
        | none => rw [hei] at he; exact he.elim
        | some ei =>
          rw [hei] at he
          simp only [] at he
          obtain ⟨ti2, d2, z2', E⟩ := hT.get hei
          cases hq : ei.rep && decide (len * ei.size ≤ 16777216) with
          | false => rw [hq] at he; simp only [] at he; exact he.elim
          | true =>
            cases hl : litv ei.ty (List.replicate len ei.ty.dflt) ((ps.toList.map (·.1)).zip vs') with
            | none => rw [hq, hl] at he; exact he.elim
            | some l =>
              rw [hq, hl] at he
              simp only [Bool.and_eq_true, decide_eq_true_eq] at hq
              obtain ⟨_, he⟩ := he
              have hlen' : (ps.toList.map (·.1)).length = vs'.length := by rw [hlen, hv.len, hv2.len]
              have hz : TR w g1.pr ei.ty ei.ty.dflt z2'.cells.toList := zOf_TR (E.zrep hq.1)
              have hrow0 := rowOf_zero hz len
              have hsz0 : (List.replicate len ei.ty.dflt).length * ei.ty.size ≤ ((Array.range (len * ei.ty.size)).map (z2'.cells.toList.toArray[· % z2'.cells.toList.toArray.size]!)).size := by simp
              obtain ⟨us', f1, f2, f3, f4⟩ := litv_row (place := fun i => some (i * ei.size, ei.size)) (fun i => by rw [E.tysz]) hlen' hv2 hl hrow0 hsz0
              cases ht : s.toks tt with
              | dead => rw [ht] at he; exact he.elim
              | live _ _ _ => rw [ht] at he; exact he.elim
              | abs =>
                rw [ht] at he
                have : ws = _ := he
                subst this
                have habs : (s.puts ws').toks tt = .abs := by
                  rcases hp.toks tt with e | ⟨_, _, e, _⟩
                  · rw [e, ht]
                  · rw [ht] at e; cases e
                have hlen2 : l.length = len := by rw [f3]; simp
                have hussz : us'.size = len * ei.ty.size := by rw [f2]; simp
                obtain ⟨g2, tg, h3, hτ, htv⟩ := h2.newTokAt habs (us := us') e (fr := (0, 0)) (cap := len) (thawed0 _) (by omega) (by omega) f4
                have h4 := h3.tmp (VR_ref hτ htv) (hd tt hdst)
                refine goes_value (g' := g2) (w' := w.alloc (.cells us' e)) (u := .slice (some ⟨w.heap.size, 0, none⟩) l.length len) ?_ (by rw [hdst, S.puts_append]; exact h4) (below_alloc h _)
                have hun := T.slice hkn
                have hfill : Instr.fill (fun i => some (i * ei.size, ei.size)) ((Array.range (len * ei.size)).map ((if len * ei.size = 0 then #[] else z2'.cells)[· % (if len * ei.size = 0 then #[] else z2'.cells).size]!)) (ps.map fun (i, x) => (i, a.eval x)).toList = some us' := by
                  have e1 : (ps.map fun (i, x) => (i, a.eval x)).toList = (ps.toList.map (·.1)).zip ((ps.toList.map (·.2)).map a.eval) := by
                    rw [Array.toList_map]; exact zip_unzip _ _
                  rw [e1]
                  by_cases h0 : len * ei.size = 0
                  · have : (Array.range (len * ei.ty.size)) = #[] := by rw [E.tysz, h0]; rfl
                    rw [this] at f1
                    rw [h0, show (Array.range 0) = #[] from rfl]
                    simpa using f1
                  · rw [if_neg h0]
                    rw [E.tysz] at f1
                    simpa using f1
                have hroom : ¬ (len * ei.size > 2 ^ 24) := by omega
                have hmap : (ps.map fun (x : Nat × Operand) => (x.fst, a.eval x.snd)).toList = (ps.map fun (i, x) => (i, a.eval x)).toList := rfl
                simp only [execOp, ho, Instr.buildSlice, Sem.run_bind, run_underlying hun, Result.andThen_ok, E.sizeOf, hroom, if_false, Sem.run_ite]
                by_cases h0 : len * ei.size = 0
                · rw [if_pos h0] at hfill ⊢
                  simp only [Sem.run_bind, Sem.run_pure, Result.andThen_ok, hmap, hfill, newRow, run_newObj_alloc, hlen2]
                · rw [if_neg h0] at hfill ⊢
                  simp only [Sem.run_bind, Sem.run_pure, Result.andThen_ok, zeroValue, typeInfo, run_program, E.info, E.zero, hmap, hfill, newRow, run_newObj_alloc, hlen2]
      | _ => simp only [hkn] at he; exact he.elim

theorem goes_makeSlice (hT : TIok P TI) (h : Rel B g s w a N) (hd : ∀ t, o.dst = some t → t < N) {t : TypeId} {x y : Operand} (ho : o.op = .makeSlice t x y)
    (he0 : (rdv x fun n => rdv y fun c => pgMakeSlice TI o.dst t n c).Ev C Rd s ws) : Goes P B N o s w a ws := by
  obtain ⟨p, hp, he1⟩ := rdv_ev h he0
  obtain ⟨q, hq, he⟩ := rdv_ev h he1
  clear he0 he1
  unfold pgMakeSlice at he
  split at he
  · rename_i tt k n k' c hdst
    have hx := VR_int hp
    have hy := VR_int hq
    unfold tinf at he
    cases hi : TI t with
    | none => rw [hi] at he; exact he.elim
    | some i =>
      rw [hi] at he
      obtain ⟨ti, d, z, T⟩ := hT.get hi
      cases hkn : i.kn with
      | slice e =>
        simp only [hkn] at he
        cases hei : TI e with
        | none => rw [hei] at he; exact he.elim
        | some ei =>
          rw [hei] at he
          simp only [] at he
          obtain ⟨ti2, d2, z2', E⟩ := hT.get hei
          obtain ⟨hrep, h0, hnc, hc47, hcb, _, he⟩ := he
          have h0 : 0 ≤ n := by simpa using h0
          have hnc : n ≤ c := by simpa using hnc
          have hc47 : c ≤ 140737488355328 := by simpa using hc47
          have hcb : c * (ei.bytes : Int) ≤ 140737488355328 := by simpa using hcb
          cases ht : s.toks tt with
          | dead => rw [ht] at he; exact he.elim
          | live _ _ _ => rw [ht] at he; exact he.elim
          | abs =>
            rw [ht] at he
            have : ws = _ := he
            subst this
            have hz : TR w g.pr ei.ty ei.ty.dflt z2'.cells.toList := zOf_TR (E.zrep hrep)
            have hrow0 := rowOf_zero hz c.toNat
            have hrow : RowOf w g.pr ei.ty (List.replicate n.toNat ei.ty.dflt) ((Array.range (c.toNat * ei.ty.size)).map (z2'.cells.toList.toArray[· % z2'.cells.toList.toArray.size]!)) := by
              intro j x hx
              refine hrow0 j x ?_
              rw [List.getElem?_replicate] at hx ⊢
              split at hx
              · rw [if_pos (by omega)]; exact hx
              · cases hx
            obtain ⟨g2, tg, h3, hτ, htv⟩ := h.newTokAt ht (us := (Array.range (c.toNat * ei.ty.size)).map (z2'.cells.toList.toArray[· % z2'.cells.toList.toArray.size]!)) e (fr := (0, 0)) (cap := c.toNat) (thawed0 _) (by simp; omega) (by simp) hrow
            have h4 := h3.tmp (VR_ref hτ htv) (hd tt hdst)
            rw [List.length_replicate] at h4
            refine goes_value (g' := g2) (w' := w.alloc (.cells ((Array.range (c.toNat * ei.ty.size)).map (z2'.cells.toList.toArray[· % z2'.cells.toList.toArray.size]!)) e)) (u := .slice (some ⟨w.heap.size, 0, none⟩) n.toNat c.toNat) ?_ (by rw [hdst]; exact h4) (below_alloc h _)
            have hun := T.slice hkn
            have hw1 : IntKind.i64.wrap n = n := by
              have e1 : (2 : Int) ^ IntKind.i64.bits = 18446744073709551616 := rfl
              have e2 : (2 : Int) ^ (IntKind.i64.bits - 1) = 9223372036854775808 := rfl
              unfold IntKind.wrap
              simp only [e1, e2]
              have : n % 18446744073709551616 = n := Int.emod_eq_of_lt h0 (by omega)
              rw [this]
              simp; omega
            have hw2 : IntKind.i64.wrap c = c := by
              have e1 : (2 : Int) ^ IntKind.i64.bits = 18446744073709551616 := rfl
              have e2 : (2 : Int) ^ (IntKind.i64.bits - 1) = 9223372036854775808 := rfl
              unfold IntKind.wrap
              simp only [e1, e2]
              have : c % 18446744073709551616 = c := Int.emod_eq_of_lt (by omega) (by omega)
              rw [this]
              simp; omega
            have hmul : (ei.bytes : Int) * c = c * ei.bytes := Int.mul_comm _ _
            have hbig : ((decide (c < 0) || decide ((ei.bytes : Int) * c > 2 ^ 48)) || decide (n < 0) || decide (n > c)) = false := by
              have : (2 : Int) ^ 48 = 281474976710656 := rfl
              rw [hmul, this]
              simp; omega
            have hb2 : ¬ (((c < 0 ∨ (ei.bytes : Int) * c > 2 ^ 48) ∨ n < 0) ∨ n > c) := by
              have : (2 : Int) ^ 48 = 281474976710656 := rfl
              rw [hmul, this]; omega
            simp only [execOp, ho, hx, hy, Instr.makeSlice, Sem.run_bind, run_underlying hun, Result.andThen_ok, asInt, asIntOf, Sem.run_pure, typeInfo, run_program, E.info, hw1, hw2, E.bytes, hbig, Bool.false_eq_true, if_false, run_askRoom, E.sizeOf, Sem.run_ite]
            by_cases hz0 : c.toNat * ei.size = 0
            · rw [if_pos hz0]
              simp only [Sem.run_bind, Sem.run_pure, Result.andThen_ok, newRow, run_newObj_alloc]
              congr 3
              rw [E.tysz, hz0, show Array.range 0 = #[] from rfl]; simp
            · rw [if_neg hz0]
              simp only [Sem.run_bind, Sem.run_pure, Result.andThen_ok, zeroValue, typeInfo, run_program, E.info, E.zero, newRow, run_newObj_alloc]
              congr 3
              rw [E.tysz]
      | _ => simp only [hkn] at he; exact he.elim
  · exact he.elim


structure Src (P : Program) (w : World) (xt : TypeId) (x : Value) (size m : Nat) (news : List Value) : Prop where
  und : ∃ dx, P.underlying xt = some dx ∧ (∀ k, dx ≠ .int k)
  len : ∀ w' : World, (Builtin.lenOf x).run P w' = .ok m w'
  cells : ∀ w' : World, w'.heap = w.heap → (Builtin.firstCells size m x).run P w' = .ok news.toArray w'
  sz : news.length = m * size
  one : ∀ v ∈ news, v.oneCell' = true

theorem cell_same_heap {w w' : World} (h : w'.heap = w.heap) (ad : Addr) : w'.cell? ad = w.cell? ad := by simp [World.cell?, h]

theorem notInt {dx : TypeDesc} (h : ∀ k, dx ≠ .int k) : (match dx with | .int _ => true | _ => false) = false := by
  cases dx <;> first | rfl | (rename_i k; exact absurd rfl (h k))

theorem run_append_fit {t xt ty e : TypeId} {ei : TInfo} {ti2 : TypeInfo} {d2 : TypeDesc} {z2 : Value} (E : TypeIs P e ei ti2 d2 z2) (ht : P.underlying t = some (.slice e)) {x : Value} {m : Nat} {news : List Value} (hs : Src P w xt x ei.size m news)
    {k n cap : Nat} {us : Array Value} {el : TypeId} {fr : Nat × Nat} (hr : w.heap[k]? = some (.cells us el fr)) (hfr : Thawed fr us.size) (hfit : n + m ≤ cap) (hsz : cap * ei.size ≤ us.size) :
    (Builtin.append_ #[t, xt] ty #[.slice (some ⟨k, 0, none⟩) n cap, x]).run P w = .ok (.slice (some ⟨k, 0, none⟩) (n + m) cap) (w.setRow k (over us.toList (n * ei.size) news).toArray) := by
  obtain ⟨dx, hdx, hni⟩ := hs.und
  have hfit2 : n * ei.size + m * ei.size ≤ us.size := by
    have : (n + m) * ei.size ≤ cap * ei.size := Nat.mul_le_mul_right _ hfit
    rw [Nat.add_mul] at this; omega
  have hst := run_storeRow (P := P) news (n * ei.size) 0 w us hr hfr (by rw [hs.sz]; omega) hs.one
  simp only [Nat.add_zero] at hst
  have hn := notInt hni
  unfold Builtin.append_
  simp only [List.getElem?_toArray, List.getElem?_cons_zero, List.getElem?_cons_succ, Sem.run_bind, run_underlying ht, run_underlying hdx, Result.andThen_ok, E.sizeOf, Sem.run_pure, hn, Bool.false_eq_true, if_false, hs.len, Sem.run_ite, hfit, if_true, Bool.not_false, hs.cells w rfl, addr_add, Nat.zero_add, hst]

theorem run_append_new {t xt ty e : TypeId} {ei : TInfo} {ti2 : TypeInfo} {d2 : TypeDesc} {z2 : Value} (E : TypeIs P e ei ti2 d2 z2) (ht : P.underlying t = some (.slice e)) {x : Value} {m : Nat} {news : List Value} (hs : Src P w xt x ei.size m news)
    {ad : Option Addr} {n cap : Nat} {olds : List Value} (ho : ∀ w' : World, w'.heap = w.heap → (Builtin.firstCells ei.size n (.slice ad n cap)).run P w' = .ok olds.toArray w') (hg : ¬ n + m ≤ cap)
    (hb : (n + m) * ei.bytes ≤ 140737488355328) (hpos : 0 < ei.bytes) :
    (Builtin.append_ #[t, xt] ty #[.slice ad n cap, x]).run P w = .ok (.slice (some ⟨w.heap.size, 0, none⟩) (n + m) (grownCap w (n + m) cap e))
      (w.drew.alloc (.cells (olds.toArray ++ news.toArray ++ Builtin.zeroCells z2.cells (grownCap w (n + m) cap e - (n + m))) e)) := by
  obtain ⟨dx, hdx, hni⟩ := hs.und
  have hn := notInt hni
  have hle : n + m ≤ (n + m) * ei.bytes := Nat.le_mul_of_pos_right _ hpos
  have hfit := growslice_fits (need := n + m) (old := cap) (bytes := ei.bytes) (by omega) hb
  have h48 : ¬ (Builtin.nextslicecap (n + m) cap * ei.bytes > 2 ^ 48) := by
    have : (2 : Nat) ^ 48 = 281474976710656 := rfl
    rw [this]; omega
  have h63 : ¬ (((n + m : Nat) : Int) > IntKind.i64.max ∧ (False ∨ ei.bytes = 0)) := by
    have : IntKind.i64.max = 9223372036854775807 := by decide
    rw [this]; omega
  unfold Builtin.append_
  simp only [List.getElem?_toArray, List.getElem?_cons_zero, List.getElem?_cons_succ, Sem.run_bind, run_underlying ht, run_underlying hdx, Result.andThen_ok, E.sizeOf, Sem.run_pure, hn, Bool.false_eq_true, if_false, hs.len, Sem.run_ite, hg,
    typeInfo, run_program, E.info, E.bytes, h63, h48, run_askRoom, Bool.not_false, if_true, run_choose_drew, Question.forced, hs.cells w.drew rfl, ho w.drew rfl, zeroValue, E.zero, newRow, run_newObj_alloc]
  rfl

theorem Rel.protect (h : Rel B g s w a N) {k n : Nat} (hf : Fresh g s k) (hBk : B.mine k) (hk : k < w.heap.size) :
    Rel B { g with pr := fun i o => g.pr i o ∨ (i = k ∧ o < n) } s w a N ∧ Keeps w g w { g with pr := fun i o => g.pr i o ∨ (i = k ∧ o < n) } := by
  have hke : Keeps w g w { g with pr := fun i o => g.pr i o ∨ (i = k ∧ o < n) } := ⟨fun _ _ p => ⟨.inl p, rfl⟩, fun _ _ x => x, fun _ _ x => x⟩
  refine ⟨⟨h.df, h.nt, h.hB, fun t => (h.tm t).keeps hke, ?_, h.bx0, ?_, h.binj, h.tk0, ?_, h.tinj, h.tbx, fun i o hi => (show (g.pr i o ∨ (i = k ∧ o < n)) ↔ B.pr i o from (or_iff_left (fun (q : i = k ∧ o < n) => hi (q.1.symm ▸ hBk))).trans (h.prB i o hi)), h.ex.keep hke (fun _ h => h)⟩, hke⟩
  · rintro i o (p | ⟨rfl, _⟩)
    · exact h.prlt i o p
    · exact hk
  · intro b cs hb
    obtain ⟨i, e, ab, fr, us, el, f, r1, r2, r3⟩ := h.bx b cs hb
    refine ⟨i, e, ab, ?_, us, el, f, r1, r2, r3.imp fun _ _ => LR.keeps hke⟩
    rintro o (p | ⟨rfl, _⟩)
    · exact fr o p
    · exact (hf.β b e).elim
  · intro t sh T l ht
    obtain ⟨tg, e, ez, r⟩ := h.tk t sh T l ht
    refine ⟨tg, e, ez, r.imp id ?_⟩
    rintro ⟨i, cap, a1, a2, a3⟩
    have hne : i ≠ k := fun e' => hf.τ t tg (by rw [ht]; rfl) e (by rw [a2, e'])
    obtain ⟨us, el, f, r1, r2, r3, r4⟩ := a3.row
    have hq : ∀ o, (g.pr i o ∨ (i = k ∧ o < n)) → g.pr i o := by
      rintro o (p | ⟨e', _⟩)
      · exact p
      · exact absurd e' hne
    exact ⟨i, cap, a1, a2, a3.above, a3.len, ⟨us, el, f, r1, r2, r3, r4.keeps hke.pr⟩, fun o p => a3.prlt o (hq o p), fun e o p => .inl (a3.prsh e o p), fun e o p => a3.prno e o (hq o p)⟩

theorem Rel.newTokSh (h : Rel B g s w a N) {t k cap : Nat} {sh : Bool} {T : Ty} {l : List T.den} (ht : s.toks t = .abs) (hf : Fresh g s k) (hB : B.mine k) {us : Array Value} {e : TypeId} {fr : Nat × Nat}
    (hr : w.heap[k]? = some (.cells us e fr)) (hfr : Thawed fr us.size) (hl : l.length ≤ cap) (hc : cap * T.size ≤ us.size) (hrow : RowOf w g.pr T l us) (hp : ∀ o, g.pr k o → o < l.length * T.size) (hno : sh = false → ∀ o, ¬ g.pr k o) :
    ∃ g' tg, Rel B g' (s.put (.tok t (.live sh T l))) w a N ∧ g'.τ t = some tg ∧ tg.val = .slice (some ⟨k, 0, none⟩) l.length cap := by
  cases sh with
  | false =>
    obtain ⟨h2, _⟩ := h.newTok (sh := false) (T := T) (l := l) (tg := ⟨.slice (some ⟨k, 0, none⟩) l.length cap, some k, T.size⟩) ht (fun k' hk => by cases hk; exact hf)
      ⟨rfl, .inr ⟨k, cap, rfl, rfl, hB, hl, ⟨us, e, fr, hr, hfr, hc, hrow⟩, hp, (fun x => by cases x), hno⟩⟩
    exact ⟨_, _, h2, by simp [upd_same]; rfl, rfl⟩
  | true =>
    obtain ⟨h1, k1⟩ := h.protect (n := l.length * T.size) hf hB (Array.getElem?_eq_some_iff.1 hr).1
    obtain ⟨h2, _⟩ := h1.newTok (sh := true) (T := T) (l := l) (tg := ⟨.slice (some ⟨k, 0, none⟩) l.length cap, some k, T.size⟩) ht (fun k' hk => by cases hk; exact ⟨hf.β, hf.τ⟩)
      ⟨rfl, .inr ⟨k, cap, rfl, rfl, hB, hl, ⟨us, e, fr, hr, hfr, hc, hrow.keeps k1.pr⟩, (fun o p => p.elim (hp o) (fun q => q.2)), (fun _ o p => .inr ⟨rfl, p⟩), (fun x => by cases x)⟩⟩
    exact ⟨_, _, h2, by simp [upd_same]; rfl, rfl⟩

theorem execOp_append {x y : Operand} {t xt : TypeId} (ho : o.op = .call { callee := .builtin .append, args := #[x, y], argTypes := #[t, xt] }) {v : Value}
    (hr : (Builtin.append_ #[t, xt] o.type #[a.eval x, a.eval y]).run P w = .ok v w') : (execOp a.eval o).run P w = .ok (.value v) w' := by
  simp [execOp, ho, resolve, invoke, builtin, hr]

theorem Src.of_reads {pr : Nat → Nat → Prop} {xt e : TypeId} {T : Ty} {m : List T.den} {x : Value} {size : Nat} (hx : P.underlying xt = some (.slice e)) (hT : T.size = size) (hr : Reads w pr T m x) :
    ∃ news, Src P w xt x size m.length news ∧ ∀ (j : Nat) (y : T.den), m[j]? = some y → ∃ vs, vs.length = T.size ∧ (∀ (i : Nat) (v : Value), vs[i]? = some v → news[j * T.size + i]? = some v) ∧ TR w pr T y vs := by
  obtain ⟨ad, c, news, rfl, hc, hl, hnil, hcell, h1, hrow⟩ := hr.flat
  refine ⟨news, ⟨⟨_, hx, fun k e => by cases e⟩, fun w' => rfl, fun w' hw' => ?_, by rw [hl, hT], h1⟩, hrow⟩
  cases ad with
  | none =>
    have := hnil rfl; subst this
    have : news = [] := List.eq_nil_of_length_eq_zero (by simpa using hl)
    subst this; rfl
  | some ad =>
    refine run_firstCells_some w' size m.length ad m.length c news (by rw [hl, hT]) ?_
    intro j v hv
    rw [cell_same_heap hw']; exact hcell ad rfl j v hv

theorem Src.of_str {pr : Nat → Nat → Prop} {xt : TypeId} {b : List UInt8} (hx : P.underlying xt = some .string) :
    ∃ news, Src P w xt (strV b) 1 b.length news ∧ ∀ (j : Nat) (y : Int), (toBytes b)[j]? = some y → ∃ vs, vs.length = (Ty.int .u8).size ∧ (∀ (i : Nat) (v : Value), vs[i]? = some v → news[j * (Ty.int .u8).size + i]? = some v) ∧ TR w pr (.int .u8) y vs := by
  refine ⟨b.map fun x => .int .u8 (x.toNat : Int), ⟨⟨_, hx, fun k e => by cases e⟩, fun w' => ?_, fun w' _ => ?_, by simp, ?_⟩, ?_⟩
  · simp [strV, Builtin.lenOf, ByteArray.size]
  · simp only [strV, Builtin.firstCells, Sem.run_pure]
    congr 1
    have hs : b.length = (⟨b.toArray⟩ : ByteArray).size := by simp [ByteArray.size]
    rw [hs]
    have : (⟨b.toArray⟩ : ByteArray).extract 0 (⟨b.toArray⟩ : ByteArray).size = ⟨b.toArray⟩ := ByteArray.extract_zero_size
    rw [this]
    simp
  · intro v hv
    simp only [List.mem_map] at hv
    obtain ⟨x, _, rfl⟩ := hv; rfl
  · intro j y hy
    simp only [toBytes, List.getElem?_map] at hy
    refine ⟨[.int .u8 y], rfl, fun i v hv => ?_, rfl⟩
    have hi : i = 0 := by have := (List.getElem?_eq_some_iff.1 hv).1; simpa using this
    subst hi
    simp at hv; subst hv
    simp only [Ty.size, Nat.mul_one, Nat.add_zero, List.getElem?_map]
    cases hb : b[j]? with
    | none => rw [hb] at hy; cases hy
    | some x => rw [hb] at hy; simp at hy ⊢; exact hy

theorem rowOf_append {pr : Nat → Nat → Prop} {T : Ty} {l m : List T.den} {us us' : Array Value} {news : List Value} (h : RowOf w pr T l us) (hn : ∀ (j : Nat) (y : T.den), m[j]? = some y → ∃ vs, vs.length = T.size ∧ (∀ (i : Nat) (v : Value), vs[i]? = some v → news[j * T.size + i]? = some v) ∧ TR w pr T y vs)
    (hold : ∀ i, i < l.length * T.size → us'[i]? = us[i]?) (hnew : ∀ i v, news[i]? = some v → us'[l.length * T.size + i]? = some v) : RowOf w pr T (l ++ m) us' := by
  intro j x hx
  by_cases hj : j < l.length
  · rw [List.getElem?_append_left hj] at hx
    obtain ⟨vs, v1, v2, v3⟩ := h j x hx
    refine ⟨vs, v1, fun i v hv => ?_, v3⟩
    have hi : i < T.size := by rw [← v1]; exact (List.getElem?_eq_some_iff.1 hv).1
    have : (j + 1) * T.size ≤ l.length * T.size := Nat.mul_le_mul_right _ hj
    have : (j + 1) * T.size = j * T.size + T.size := by rw [Nat.add_mul]; omega
    rw [hold _ (by omega)]; exact v2 i v hv
  · rw [List.getElem?_append_right (by omega)] at hx
    obtain ⟨vs, v1, v2, v3⟩ := hn _ x hx
    refine ⟨vs, v1, fun i v hv => ?_, v3⟩
    have := hnew _ v (v2 i v hv)
    rw [← this]
    congr 1
    have : j * T.size = l.length * T.size + (j - l.length) * T.size := by rw [← Nat.add_mul]; congr 1; omega
    omega

theorem grown_size (w : World) (need old : Nat) (e : TypeId) (z : Array Value) (olds news : List Value) (size : Nat) (hz : z.size = size) (hl : olds.length + news.length = need * size) :
    (grownCap w need old e) * size ≤ (olds.toArray ++ news.toArray ++ Builtin.zeroCells z (grownCap w need old e - need)).size := by
  have := grownCap_ge w need old e
  simp only [Array.size_append, List.size_toArray, size_zeroCells, hz]
  rw [hl, ← Nat.add_mul]
  exact Nat.mul_le_mul_right _ (by omega)

theorem append_own (h : Rel B g s w a N) (hd : ∀ t, o.dst = some t → t < N) {t xt e : TypeId} {x y : Operand} (ho : o.op = .call { callee := .builtin .append, args := #[x, y], argTypes := #[t, xt] })
    {ei : TInfo} {ti2 : TypeInfo} {d2 : TypeDesc} {z2 : Value} (E : TypeIs P e ei ti2 d2 z2) (ht : P.underlying t = some (.slice e)) (hpos : 0 < ei.bytes) {tt : Tmp} (hdst : o.dst = some tt)
    {m : List ei.ty.den} {news : List Value} (hs : Src P w xt (a.eval y) ei.size m.length news)
    (hn : ∀ (j : Nat) (q : ei.ty.den), m[j]? = some q → ∃ vs, vs.length = ei.ty.size ∧ (∀ (i : Nat) (v : Value), vs[i]? = some v → news[j * ei.ty.size + i]? = some v) ∧ TR w g.pr ei.ty q vs)
    {ws1 : List Wr} (s1 : S) (hs1 : s1 = s.puts ws1) {sh : Bool} {l : List ei.ty.den} (habs : s1.toks tt = .abs) (hb : (l.length + m.length) * ei.bytes ≤ 140737488355328) (h1 : Rel B g s1 w a N)
    (hrow : (a.eval x = .slice none 0 0 ∧ l = []) ∨ ∃ k cap, a.eval x = .slice (some ⟨k, 0, none⟩) l.length cap ∧ Fresh g s1 k ∧ TokRow B w g.pr sh ei.ty l k cap) :
    Goes P B N o s w a (ws1 ++ [.tok tt (.live sh ei.ty (l ++ m)), .tmp tt (.ref tt)]) := by
  have hsz := E.tysz
  have hzsz : z2.cells.size = ei.size := by have := (z0s_LR (w := w) (g := g) E.zrel).len; have := E.zlen; simp at *; omega
  -- what is left to do once the row lies there
  have fin : ∀ (w' : World) (g1 : Gh) (k cap : Nat) (us : Array Value) (el : TypeId) (fr : Nat × Nat), Rel B g1 s1 w' a N → BelowB B w w' → Fresh g1 s1 k → B.mine k → w'.heap[k]? = some (.cells us el fr) → Thawed fr us.size →
      l.length + m.length ≤ cap → cap * ei.ty.size ≤ us.size → RowOf w' g1.pr ei.ty (l ++ m) us → (∀ o, g1.pr k o → o < (l ++ m).length * ei.ty.size) → (sh = false → ∀ o, ¬ g1.pr k o) →
      (execOp a.eval o).run P w = .ok (.value (.slice (some ⟨k, 0, none⟩) (l.length + m.length) cap)) w' → Goes P B N o s w a (ws1 ++ [.tok tt (.live sh ei.ty (l ++ m)), .tmp tt (.ref tt)]) := by
    intro w' g1 k cap us el fr r1 r2 r3 r4 r5 r6 r7 r8 r9 r10 r11 r12
    obtain ⟨g2, tg, q1, q2, q3⟩ := r1.newTokSh (sh := sh) (T := ei.ty) (l := l ++ m) (cap := cap) habs r3 r4 r5 r6 (by simpa using r7) r8 r9 r10 r11
    have q4 := q1.tmp (VR_ref q2 q3) (hd tt hdst)
    refine goes_value (g' := g2) r12 ?_ r2
    rw [hdst, S.puts_append, ← hs1]
    rw [List.length_append] at q4
    exact q4
  -- a new row
  have new : ∀ (ad : Option Addr) (n cap : Nat) (olds : List Value), a.eval x = .slice ad n cap → n = l.length → olds.length = l.length * ei.size → ¬ n + m.length ≤ cap →
      (∀ w' : World, w'.heap = w.heap → (Builtin.firstCells ei.size n (.slice ad n cap)).run P w' = .ok olds.toArray w') → RowOf w g.pr ei.ty l olds.toArray →
      Goes P B N o s w a (ws1 ++ [.tok tt (.live sh ei.ty (l ++ m)), .tmp tt (.ref tt)]) := by
    intro ad n cap olds ex en el hg hf hro
    subst en
    have hrun := run_append_new (ty := o.type) E ht hs hf hg hb hpos
    rw [← ex] at hrun
    have hex := execOp_append ho hrun
    obtain ⟨d1, _⟩ := h1.heap (w' := w.drew) rfl
    obtain ⟨a1, k1⟩ := d1.alloc (.cells (olds.toArray ++ news.toArray ++ Builtin.zeroCells z2.cells (grownCap w (l.length + m.length) cap e - (l.length + m.length))) e)
    have hfr : Fresh g s1 w.heap.size := h1.fresh (Nat.le_refl _)
    have hno : ∀ o, ¬ g.pr w.heap.size o := fun o p => by have := h1.prlt _ o p; omega
    have hk : PrKeeps w g.pr (w.drew.alloc (.cells (olds.toArray ++ news.toArray ++ Builtin.zeroCells z2.cells (grownCap w (l.length + m.length) cap e - (l.length + m.length))) e)) g.pr := k1.pr
    refine fin _ g w.heap.size (grownCap w (l.length + m.length) cap e) _ e (0, 0) a1 (((BelowB.refl B w).drew).alloc h1.hB _) hfr (.inl h1.hB) (alloc_new w.drew _) (thawed0 _) (grownCap_ge _ _ _ _) ?_ ?_ (fun o p => absurd p (hno o)) (fun _ => hno) hex
    · rw [hsz]
      exact grown_size w _ cap e z2.cells olds news ei.size hzsz (by rw [el, hs.sz, Nat.add_mul])
    · refine (rowOf_append hro hn (fun i hi => ?_) (fun i v hv => ?_)).keeps hk
      · rw [hsz] at hi
        rw [Array.append_assoc, Array.getElem?_append_left (by simp [el]; exact hi)]
      · have hi : i < news.length := (List.getElem?_eq_some_iff.1 hv).1
        rw [hsz, ← el, Array.getElem?_append_left (by simp; omega), Array.getElem?_append_right (by simp)]
        simp [hv]
  rcases hrow with ⟨ex, rfl⟩ | ⟨k, cap, ex, hfk, hr⟩
  · -- nil
    by_cases hm : m.length = 0
    · have hm2 : m = [] := List.eq_nil_of_length_eq_zero hm
      subst hm2
      have hnews : news = [] := List.eq_nil_of_length_eq_zero (by rw [hs.sz]; simp)
      obtain ⟨dx, hdx, hni⟩ := hs.und
      have hn2 := notInt hni
      have hrun : (Builtin.append_ #[t, xt] o.type #[a.eval x, a.eval y]).run P w = .ok (.slice none 0 0) w := by
        rw [ex]
        unfold Builtin.append_
        simp only [List.getElem?_toArray, List.getElem?_cons_zero, List.getElem?_cons_succ, Sem.run_bind, run_underlying ht, run_underlying hdx, Result.andThen_ok, E.sizeOf, Sem.run_pure, hn2, Bool.false_eq_true, if_false, hs.len, Sem.run_ite,
          List.length_nil, Nat.add_zero, Nat.le_refl, if_true, Bool.not_false]
        have := hs.cells w rfl
        simp only [List.length_nil] at this
        rw [this]; rfl
      obtain ⟨q1, _⟩ := h1.newTok (t := tt) (sh := sh) (T := ei.ty) (l := []) (tg := ⟨.slice none 0 0, none, ei.ty.size⟩) habs (fun k hk => by cases hk) ⟨rfl, .inl ⟨rfl, rfl, rfl⟩⟩
      have q4 := q1.tmp (VR_ref (t := tt) (tg := ⟨.slice none 0 0, none, ei.ty.size⟩) (by simp [upd_same]) rfl) (hd tt hdst)
      refine goes_value (g' := { g with τ := upd g.τ tt (some ⟨.slice none 0 0, none, ei.ty.size⟩) }) (execOp_append ho hrun) ?_ (BelowB.refl _ _)
      rw [hdst, S.puts_append, ← hs1]
      exact q4
    · refine new none 0 0 [] ex rfl (by simp) (by omega) (fun w' _ => run_firstCells_none w' _ _ _ _) (fun j q hq => by simp at hq)
  · obtain ⟨us, el, fr, r1, r2, r3, r4⟩ := hr.row
    have hfit : l.length * ei.ty.size ≤ us.size := Nat.le_trans (Nat.mul_le_mul_right _ hr.len) r3
    by_cases hc : l.length + m.length ≤ cap
    · have hrun := run_append_fit (ty := o.type) E ht hs r1 r2 hc (by rw [← hsz]; exact r3)
      rw [← ex] at hrun
      have hex := execOp_append ho hrun
      have hnl : news.length = m.length * ei.size := hs.sz
      have hfit2 : l.length * ei.size + news.length ≤ us.toList.length := by
        have : (l.length + m.length) * ei.ty.size ≤ cap * ei.ty.size := Nat.mul_le_mul_right _ hc
        rw [Nat.add_mul, hsz] at this
        rw [hsz] at r3
        simp; omega
      have hr' := setRow_heap w k us (over us.toList (l.length * ei.size) news).toArray el fr r1
      have hsize : (over us.toList (l.length * ei.size) news).toArray.size = us.size := by rw [List.size_toArray, over_len hfit2]; simp
      have hsame : ∀ i, i < l.length * ei.size → (over us.toList (l.length * ei.size) news).toArray[i]? = us[i]? := by
        intro i hi; rw [List.getElem?_toArray, over_get hfit2, if_pos hi]; simp
      obtain ⟨o1, ok⟩ := h1.other hfk (only_setRow (w := w) k (over us.toList (l.length * ei.size) news).toArray) (fun o p => by
        rw [cell_of hr', cell_of r1]; exact hsame o (by rw [← hsz]; exact hr.prlt o p))
      refine fin _ g k cap _ el fr o1 (below_setRow hr.above _) hfk hr.above hr' (by rw [hsize]; exact r2) hc (by rw [hsize]; exact r3) ?_ (fun o p => by have := hr.prlt o p; rw [List.length_append, Nat.add_mul]; omega) hr.prno hex
      refine (rowOf_append r4 hn (fun i hi => hsame i (by rw [← hsz]; exact hi)) (fun i v hv => ?_)).keeps ok.pr
      have hi : i < news.length := (List.getElem?_eq_some_iff.1 hv).1
      rw [hsz, List.getElem?_toArray, over_get hfit2, if_neg (by omega), if_pos (by omega), show l.length * ei.size + i - l.length * ei.size = i from by omega]
      exact hv
    · refine new (some ⟨k, 0, none⟩) l.length cap (us.toList.take (l.length * ei.size)) ex rfl (by rw [List.length_take, Array.length_toList, ← hsz]; exact Nat.min_eq_left hfit) hc ?_ ?_
      · intro w' hw'
        refine run_firstCells_some w' ei.size l.length ⟨k, 0, none⟩ l.length cap _ (by rw [List.length_take, Array.length_toList, ← hsz]; exact Nat.min_eq_left hfit) ?_
        intro j v hv
        rw [cell_same_heap hw', addr_add, Nat.zero_add, cell_of r1]
        rw [List.getElem?_take] at hv
        split at hv
        · simpa using hv
        · cases hv
      · intro j q hq
        obtain ⟨vs, v1, v2, v3⟩ := r4 j q hq
        refine ⟨vs, v1, fun i v hv => ?_, v3⟩
        have hj : j < l.length := (List.getElem?_eq_some_iff.1 hq).1
        have hi : i < ei.ty.size := by rw [← v1]; exact (List.getElem?_eq_some_iff.1 hv).1
        have : (j + 1) * ei.ty.size ≤ l.length * ei.ty.size := Nat.mul_le_mul_right _ hj
        have : (j + 1) * ei.ty.size = j * ei.ty.size + ei.ty.size := by rw [Nat.add_mul]; omega
        rw [List.getElem?_toArray, List.getElem?_take, if_pos (by rw [← hsz]; omega)]
        simpa using v2 i v hv

theorem goes_appendTo (h : Rel B g s w a N) (hd : ∀ t, o.dst = some t → t < N) {t xt e : TypeId} {x y : Operand} (ho : o.op = .call { callee := .builtin .append, args := #[x, y], argTypes := #[t, xt] })
    {ei : TInfo} {ti2 : TypeInfo} {d2 : TypeDesc} {z2 : Value} (E : TypeIs P e ei ti2 d2 z2) (hun : P.underlying t = some (.slice e)) (hpos : 0 < ei.bytes) {tt : Tmp} (hdst : o.dst = some tt)
    {p : AV} (hp : VR w g p (a.eval x)) (m : List ei.ty.den) (news : List Value) (hs : Src P w xt (a.eval y) ei.size m.length news)
    (hn : ∀ (j : Nat) (q : ei.ty.den), m[j]? = some q → ∃ vs, vs.length = ei.ty.size ∧ (∀ (i : Nat) (v : Value), vs[i]? = some v → news[j * ei.ty.size + i]? = some v) ∧ TR w g.pr ei.ty q vs)
    (he : (appendTo tt ei p m).Ev C Rd s ws) : Goes P B N o s w a ws := by
  unfold appendTo at he
  cases p with
  | nilsl =>
    obtain ⟨hb, _, he⟩ := he
    have hb : m.length * ei.bytes ≤ 140737488355328 := by simpa using hb
    cases ht : s.toks tt with
    | dead => rw [ht] at he; exact he.elim
    | live _ _ _ => rw [ht] at he; exact he.elim
    | abs =>
      rw [ht] at he
      have : ws = _ := he
      subst this
      exact append_own h hd ho E hun hpos hdst hs hn (ws1 := []) s rfl (sh := false) (l := []) ht (by simpa using hb) h (.inl ⟨hp, rfl⟩)
  | ref t' =>
    obtain ⟨_, he⟩ := he
    cases ht' : s.toks t' with
    | abs => rw [ht'] at he; exact he.elim
    | dead => rw [ht'] at he; exact he.elim
    | live sh T' l =>
      rw [ht'] at he
      simp only [] at he
      cases hdc : T'.dec ei.ty with
      | none => rw [hdc] at he; exact he.elim
      | some hh =>
        rw [hdc] at he
        obtain ⟨hb, _, he⟩ := he
        have hb : (l.length + m.length) * ei.bytes ≤ 140737488355328 := by simpa using hb
        cases ht : s.toks tt with
        | dead => rw [ht] at he; exact he.elim
        | live _ _ _ => rw [ht] at he; exact he.elim
        | abs =>
          rw [ht] at he
          have : ws = _ := he
          subst this
          have hne : tt ≠ t' := by rintro rfl; rw [ht] at ht'; cases ht'
          obtain ⟨tg, hτ, ez, r⟩ := h.tk t' sh T' l ht'
          obtain ⟨tg', hτ', hu, _⟩ := hp
          rw [hτ] at hτ'; cases hτ'
          have hk := h.kill t' (by rw [ht']; simp)
          have habs : (s.put (.tok t' .dead)).toks tt = .abs := by simp [S.put, upd_ne _ _ _ _ hne, ht]
          have hlive : (s.toks t').isLive = true := by rw [ht']; rfl
          clear hdc he
          obtain ⟨hTT⟩ := hh
          subst hTT
          refine append_own h hd ho E hun hpos hdst hs hn (ws1 := [.tok t' .dead]) (s.put (.tok t' .dead)) rfl (sh := sh) (l := l) habs hb hk ?_
          rcases r with ⟨e1, _, e2⟩ | ⟨k, cap, e1, e2, r⟩
          · exact .inl ⟨hu.trans e1, e2⟩
          · refine .inr ⟨k, cap, hu.trans e1, ⟨fun b eb => h.tbx t' tg k b hlive hτ e2 eb, fun t2 tg2 hl2 hτ2 hb2 => ?_⟩, r⟩
            by_cases et : t2 = t'
            · subst et; simp [S.put, upd_same, Tok.isLive] at hl2
            · simp only [S.put, upd_ne _ _ _ _ et] at hl2
              exact et (h.tinj t2 t' tg2 tg k hl2 hlive hτ2 hτ hb2 e2)
  | _ => exact he.elim

theorem content_evV (h : Rel B g s w a N) {T : Ty} {v : AV} {u : Value} {W : List Wr} {k : List T.den → Pg} (hv : VR w g v u) (he : (content T v k).Ev C Rd s W) :
    ∃ l, (k l).Ev C Rd s W ∧ Reads w g.pr T l u := by
  rcases VR_or hv with ⟨vs, rfl, _⟩ | hl
  · exact he.elim
  · exact content_ev h hl he

theorem goes_append (hT : TIok P TI) (h : Rel B g s w a N) (hd : ∀ t, o.dst = some t → t < N) {t xt : TypeId} {x y : Operand} (ho : o.op = .call { callee := .builtin .append, args := #[x, y], argTypes := #[t, xt] })
    {p q : AV} (hp : VR w g p (a.eval x)) (hq : VR w g q (a.eval y)) (he : (pgAppend TI o.dst t xt p q).Ev C Rd s ws) : Goes P B N o s w a ws := by
  unfold pgAppend at he
  cases hdst : o.dst with
  | none => rw [hdst] at he; exact he.elim
  | some tt =>
    rw [hdst] at he
    simp only [] at he
    unfold tinf at he
    cases hi : TI t with
    | none => rw [hi] at he; exact he.elim
    | some i =>
      rw [hi] at he
      obtain ⟨ti, d, z, T⟩ := hT.get hi
      cases hkn : i.kn with
      | slice e =>
        simp only [hkn] at he
        cases hei : TI e with
        | none => rw [hei] at he; exact he.elim
        | some ei =>
          rw [hei] at he
          simp only [] at he
          obtain ⟨ti2, d2, z2', E⟩ := hT.get hei
          have hun := T.slice hkn
          obtain ⟨hpos, he⟩ := he
          have hpos : 0 < ei.bytes := by simpa using hpos
          unfold appendSrc tinf at he
          cases hxi : TI xt with
          | none => rw [hxi] at he; exact he.elim
          | some xi =>
            rw [hxi] at he
            obtain ⟨_, _, _, X⟩ := hT.get hxi
            cases hxk : xi.kn with
            | slice e' =>
              simp only [hxk] at he
              obtain ⟨m, he, hr⟩ := content_evV h hq he
              obtain ⟨news, hs, hn⟩ := Src.of_reads (X.slice hxk) E.tysz hr
              exact goes_appendTo h hd ho E hun hpos hdst hp m news hs hn he
            | str =>
              simp only [hxk] at he
              cases q with
              | str b =>
                simp only [] at he
                cases hdc : (Ty.int .u8).dec ei.ty with
                | none => rw [hdc] at he; exact he.elim
                | some hh =>
                  rw [hdc] at he
                  simp only [] at he
                  have hx := X.str hxk
                  have hyy := VR_str hq
                  clear hdc
                  obtain ⟨hTT⟩ := hh
                  have hsz : ei.size = 1 := by rw [← E.tysz, ← hTT]; rfl
                  obtain ⟨news, hs, hn⟩ := Src.of_str (w := w) (pr := g.pr) (b := b) hx
                  have hlenb : (toBytes b).length = b.length := by simp [toBytes]
                  have gen : ∀ (T : Ty) (hT1 : Ty.int .u8 = T), ∀ (j : Nat) (q : T.den), (cast (congrArg (fun T => List (Ty.den T)) hT1) (toBytes b) : List T.den)[j]? = some q → ∃ vs, vs.length = T.size ∧ (∀ (i : Nat) (v : Value), vs[i]? = some v → news[j * T.size + i]? = some v) ∧ TR w g.pr T q vs := by
                    intro T hT1
                    subst hT1
                    exact hn
                  have gen2 : ∀ (T : Ty) (hT1 : Ty.int .u8 = T), (cast (congrArg (fun T => List (Ty.den T)) hT1) (toBytes b) : List T.den).length = b.length := by
                    intro T hT1
                    subst hT1
                    exact hlenb
                  refine goes_appendTo h hd ho E hun hpos hdst hp _ news ?_ (gen _ hTT) he
                  rw [gen2 _ hTT, hyy, hsz]; exact hs
              | _ => exact he.elim
            | _ => simp only [hxk] at he; exact he.elim
      | _ => simp only [hkn] at he; exact he.elim

end
end Go.Proofs.Ytjgnpmdbkgeakaa.Th
set_option linter.unusedVariables false
set_option linter.unusedSimpArgs false
namespace Go.Proofs.Ytjgnpmdbkgeakaa.Th
open Go Go.RowKit

section
variable {P : Program} {TI : TEnv} {C : FuncId → List AV → AV → Prop} {Rd : Rs → Prop} {B : Bd} {N : Nat} {g g' : Gh} {s : S} {w w' : World} {a : Act} {o : Oper} {ws : List Wr}

theorem TR.cut {pr : Nat → Nat → Prop} {T : Ty} {l : List T.den} {ad : Option Addr} {n c lo hi m : Nat} (h : TR w pr (.slice T) l [.slice ad n c]) (h1 : lo ≤ hi) (h2 : hi ≤ l.length) (h3 : hi ≤ m) (h4 : m ≤ c) :
    TR w pr (.slice T) ((l.take hi).drop lo) [.slice (if m = lo then ad else ad.map (·.add (lo * T.size))) (hi - lo) (m - lo)] := by
  obtain ⟨a0, c0, e, hc, hr⟩ := (show SlR _ _ _ _ _ _ from h)
  have e2 : Value.slice ad n c = .slice a0 l.length c0 := by simpa using e
  cases e2
  have hlen : ((l.take hi).drop lo).length = hi - lo := by simp; omega
  refine ⟨_, _, by rw [hlen], ⟨by rw [hlen]; omega, fun ha => ?_⟩, fun j x hx => ?_⟩
  · by_cases hm : m = lo
    · omega
    · rw [if_neg hm] at ha
      have : ad = none := by cases ad with
        | none => rfl
        | some _ => cases ha
      have := hc.2 this
      omega
  have hj : j < hi - lo := by rw [← hlen]; exact (List.getElem?_eq_some_iff.1 hx).1
  rw [List.getElem?_drop, List.getElem?_take, if_pos (by omega)] at hx
  obtain ⟨a1, vs, e1, v1, v2, v3⟩ := hr (lo + j) x hx
  refine ⟨a1.add (lo * T.size), vs, by rw [if_neg (by omega), e1]; rfl, v1, fun i v hv => ?_, v3⟩
  rw [add_add]
  have := v2 i v hv
  rwa [show lo * T.size + (j * T.size + i) = (lo + j) * T.size + i from by rw [Nat.add_mul]; omega]

theorem run_bound {k : IntKind} {n : Int} {y : Nat} {code : BoundsCode} (h0 : 0 ≤ n) (h1 : n ≤ y) : (Instr.sliceBound (.int k n) y code).run P w = .ok n.toNat w := by
  have : (0 ≤ n ∧ n ≤ (y : Int)) := ⟨h0, h1⟩
  simp only [Instr.sliceBound, asIntOf, Sem.run_bind, Sem.run_pure, Result.andThen_ok, this, and_self, if_true]

def BV (v : Option Value) (dflt : Nat) (n : Int) : Prop := (v = none ∧ n = dflt) ∨ ∃ k, v = some (.int k n)

theorem bnd_ev {v : Option AV} {u : Option Value} {dflt : Nat} {k : Int → Pg} (hv : (v = none ∧ u = none) ∨ ∃ x y, v = some x ∧ u = some y ∧ VR w g x y) (he : (bnd v dflt k).Ev C Rd s ws) :
    ∃ n, BV u dflt n ∧ (k n).Ev C Rd s ws := by
  rcases hv with ⟨rfl, rfl⟩ | ⟨x, y, rfl, rfl, h⟩
  · exact ⟨_, .inl ⟨rfl, rfl⟩, he⟩
  · unfold bnd at he
    cases x with
    | int j n => exact ⟨n, .inr ⟨j, by rw [VR_int h]⟩, he⟩
    | _ => exact he.elim

theorem run_bounds {isSlice : Bool} {len cap : Nat} {lo hi mx : Option Value} {x y z : Int} (hlo : BV lo 0 x) (hhi : BV hi len y) (hmx : BV mx len z) (h0 : 0 ≤ x) (h1 : x ≤ y) (h2 : y ≤ z) (h3 : z ≤ len) (hc : len ≤ cap)
    (hm : mx.isSome = true → hi.isSome = true) :
    ∃ m : Nat, (Instr.sliceBounds isSlice len cap lo hi mx).run P w = .ok (x.toNat, y.toNat, m) w ∧ y.toNat ≤ m ∧ m ≤ cap := by
  rcases hmx with ⟨rfl, rfl⟩ | ⟨km, rfl⟩
  · refine ⟨cap, ?_, by omega, Nat.le_refl _⟩
    rcases hhi with ⟨rfl, rfl⟩ | ⟨kh, rfl⟩
    · rcases hlo with ⟨rfl, rfl⟩ | ⟨kl, rfl⟩
      · simp [Instr.sliceBounds]
      · simp only [Instr.sliceBounds, Sem.run_bind, Sem.run_pure, Result.andThen_ok, Option.isSome_none, Bool.false_eq_true, if_false, run_bound h0 h1]
        simp
    · rcases hlo with ⟨rfl, rfl⟩ | ⟨kl, rfl⟩
      · simp only [Instr.sliceBounds, Sem.run_bind, Sem.run_pure, Result.andThen_ok, run_bound (by omega : 0 ≤ y) (by omega : y ≤ (cap : Int))]
        simp
      · simp only [Instr.sliceBounds, Sem.run_bind, Sem.run_pure, Result.andThen_ok, Option.isSome_none, Bool.false_eq_true, if_false, run_bound (by omega : 0 ≤ y) (by omega : y ≤ (cap : Int)), run_bound h0 (by omega : x ≤ (y.toNat : Int))]
  · have hh := hm rfl
    rcases hhi with ⟨rfl, _⟩ | ⟨kh, rfl⟩
    · cases hh
    · refine ⟨z.toNat, ?_, by omega, by omega⟩
      rcases hlo with ⟨rfl, rfl⟩ | ⟨kl, rfl⟩
      · simp only [Instr.sliceBounds, Sem.run_bind, Sem.run_pure, Result.andThen_ok, run_bound (by omega : 0 ≤ z) (by omega : z ≤ (cap : Int)), run_bound (by omega : 0 ≤ y) (by omega : y ≤ (z.toNat : Int))]
        simp
      · simp only [Instr.sliceBounds, Sem.run_bind, Sem.run_pure, Result.andThen_ok, Option.isSome_some, if_true, run_bound (by omega : 0 ≤ z) (by omega : z ≤ (cap : Int)), run_bound (by omega : 0 ≤ y) (by omega : y ≤ (z.toNat : Int)), run_bound h0 (by omega : x ≤ (y.toNat : Int))]

theorem strV_extract (l : List UInt8) (i j : Nat) : Value.string ((⟨l.toArray⟩ : ByteArray).extract i j) = strV ((l.take j).drop i) := by
  unfold strV
  congr 1
  apply ByteArray.ext
  rw [ByteArray.data_extract]
  simp [List.extract_toArray, List.extract_eq_take_drop, List.drop_take]

theorem goes_slice (hT : TIok P TI) (h : Rel B g s w a N) (hd : ∀ t, o.dst = some t → t < N) {t : TypeId} {x : Operand} {lo hi mx : Option Operand} (ho : o.op = .slice t x lo hi mx)
    {p : AV} {vl vh vm : Option AV} (hp : VR w g p (a.eval x))
    (hl : (vl = none ∧ lo.map a.eval = none) ∨ ∃ x y, vl = some x ∧ lo.map a.eval = some y ∧ VR w g x y) (hh : (vh = none ∧ hi.map a.eval = none) ∨ ∃ x y, vh = some x ∧ hi.map a.eval = some y ∧ VR w g x y)
    (hm : (vm = none ∧ mx.map a.eval = none) ∨ ∃ x y, vm = some x ∧ mx.map a.eval = some y ∧ VR w g x y) (hmh : (mx.map a.eval).isSome = true → (hi.map a.eval).isSome = true)
    (he : (pgSlice TI o.dst t p vl vh vm).Ev C Rd s ws) : Goes P B N o s w a ws := by
  unfold pgSlice at he
  split at he
  · rename_i b
    have hx := VR_str hp
    unfold tinf at he
    cases hi' : TI t with
    | none => rw [hi'] at he; exact he.elim
    | some i =>
    rw [hi'] at he
    obtain ⟨ti, d, z, T⟩ := hT.get hi'
    simp only [] at he
    split at he
    case h_2 => exact he.elim
    case h_1 hkn =>
      have hun := T.str hkn
      have hmn : mx.map a.eval = none := by rcases hm with ⟨_, e⟩ | ⟨_, _, e, _⟩
                                            · exact e
                                            · cases e
      obtain ⟨n1, b1, he⟩ := bnd_ev hl he
      obtain ⟨n2, b2, he⟩ := bnd_ev hh he
      obtain ⟨c1, c2, c3, he⟩ := he
      have c1 : 0 ≤ n1 := by simpa using c1
      have c2 : n1 ≤ n2 := by simpa using c2
      have c3 : n2 ≤ b.length := by simpa using c3
      have hsz : (⟨b.toArray⟩ : ByteArray).size = b.length := by simp [ByteArray.size]
      obtain ⟨m, hrun, _, _⟩ := run_bounds (P := P) (w := w) (isSlice := false) (len := b.length) (cap := b.length) b1 b2 (mx := none) (z := b.length) (.inl ⟨rfl, rfl⟩) c1 c2 c3 (Int.le_refl _) (Nat.le_refl _) (by simp)
      refine goes_str h hd ?_ he
      rw [← strV_extract]
      simp only [execOp, ho, hx, strV, Instr.sliceAt, Sem.run_bind, run_underlying hun, Result.andThen_ok, Instr.slice, hmn, Option.isSome_none, Bool.false_eq_true, if_false, hsz, hrun, Sem.run_pure]
  · unfold tinf at he
    cases hi' : TI t with
    | none => rw [hi'] at he; exact he.elim
    | some i =>
      rw [hi'] at he
      obtain ⟨ti, d, z, T⟩ := hT.get hi'
      cases hkn : i.kn with
      | slice e =>
        simp only [hkn] at he
        cases hei : TI e with
        | none => rw [hei] at he; exact he.elim
        | some ei =>
          rw [hei] at he
          simp only [] at he
          obtain ⟨ti2, d2, z2', E⟩ := hT.get hei
          have hun := T.slice hkn
          obtain ⟨v', ws', g1, he, hpm, h2, hk, hpv⟩ := snap1_ev (Promo.refl s) (by simpa [S.puts] using h) hp he
          have hlist : ∃ l, TR w g1.pr (.slice ei.ty) l [a.eval x] ∧ (bnd vl 0 fun a => bnd vh l.length fun b => bnd vm l.length fun m =>
              .chk (decide (0 ≤ a)) (.chk (decide (a ≤ b)) (.chk (decide (b ≤ m)) (.chk (decide (m ≤ l.length)) (.ret (ws' ++ wrd o.dst (.sl ei.ty ((l.take b.toNat).drop a.toNat)))))))).Ev C Rd s ws := by
            unfold plainList at he
            split at he
            · refine ⟨[], ?_, he⟩
              rcases hpv with e1 | ⟨_, _, e1, _⟩
              · rw [show a.eval x = _ from e1]; exact TR_nilsl _ _ _
              · cases e1
            · rename_i T' l'
              cases hdc : T'.dec ei.ty with
              | none => rw [hdc] at he; exact he.elim
              | some hh' =>
                rw [hdc] at he
                clear hdc
                obtain ⟨hTT⟩ := hh'
                subst hTT
                refine ⟨l', ?_, he⟩
                rcases hpv with e1 | ⟨_, _, e1, _⟩
                · exact e1
                · cases e1
            · exact he.elim
          obtain ⟨l, htr, he⟩ := hlist
          obtain ⟨n1, b1, he⟩ := bnd_ev hl he
          obtain ⟨n2, b2, he⟩ := bnd_ev hh he
          obtain ⟨n3, b3, he⟩ := bnd_ev hm he
          obtain ⟨c1, c2, c3, c4, he⟩ := he
          have c1 : 0 ≤ n1 := by simpa using c1
          have c2 : n1 ≤ n2 := by simpa using c2
          have c3 : n2 ≤ n3 := by simpa using c3
          have c4 : n3 ≤ l.length := by simpa using c4
          have : ws = _ := he
          subst this
          obtain ⟨ad, c, e0, hc, _⟩ := (show SlR _ _ _ _ _ _ from htr)
          have e0 : a.eval x = .slice ad l.length c := by simpa using e0
          rw [e0] at htr
          obtain ⟨m, hrun, hm1, _⟩ := run_bounds (P := P) (w := w) (isSlice := true) (len := l.length) (cap := c) b1 b2 b3 c1 c2 c3 c4 hc.1 hmh
          have hcut := htr.cut (lo := n1.toNat) (hi := n2.toNat) (m := m) (by omega) (by omega) hm1 (by assumption)
          have hend := h2.wrd (d := o.dst) (v := .sl ei.ty ((l.take n2.toNat).drop n1.toNat)) (VR_of_LR (show LR w g1 (.sl ei.ty _) _ from hcut)) hd
          refine goes_value (g' := g1) ?_ (by rw [S.puts_append]; exact hend) (BelowB.refl _ _)
          simp only [execOp, ho, e0, Instr.sliceAt, Sem.run_bind, run_underlying hun, Result.andThen_ok, Instr.slice, hrun, E.sizeOf, E.tysz, Sem.run_pure]
      | _ => simp only [hkn] at he; exact he.elim

theorem shape_alloc (W : World) (us : Array Value) (e : TypeId) : (W.alloc (.cells us e)).shape? W.heap.size = some (e, us.size) := by
  unfold World.shape?
  rw [show (W.alloc (.cells us e)).heap[W.heap.size]? = some (.cells us e) from alloc_new W _]

theorem world_heap {w : World} {h1 h2 : Array Obj} (h : h1 = h2) : ({ w with heap := h1 } : World) = { w with heap := h2 } := by rw [h]

theorem freeze_alloc (W : World) (us : Array Value) (e : TypeId) : (W.alloc (.cells us e)).freeze ⟨W.heap.size, us.size, none⟩ 1 = W.alloc (.cells us e (us.size, us.size + 1)) := by
  unfold World.freeze
  rw [if_neg (by omega)]
  refine (world_heap (w := W) (h1 := _) (h2 := W.heap.push (.cells us e (us.size, us.size + 1))) ?_)
  apply Array.ext_getElem?
  intro i
  have : (W.alloc (.cells us e)).heap = W.heap.push (.cells us e) := rfl
  rw [this]
  simp only [Array.getElem?_modify, Array.getElem?_push]
  by_cases e1 : i = W.heap.size
  · subst e1; simp
  · have : ¬ W.heap.size = i := fun h => e1 h.symm
    simp [this, e1]

theorem goes_s2b (h : Rel B g s w a N) (hd : ∀ t, o.dst = some t → t < N) {src dst e : TypeId} {x : Operand} (ho : o.op = .convert src dst x) (hdst : P.underlying dst = some (.slice e)) (he8 : P.underlying e = some (.int .u8)) (hsrc : ∃ d, P.underlying src = some d) {b : List UInt8}
    (hx : a.eval x = strV b) {tt : Tmp} (hdt : o.dst = some tt) (ht : s.toks tt = .abs) : Goes P B N o s w a [.tok tt (.live false (.int .u8) (toBytes b)), .tmp tt (.ref tt)] := by
  obtain ⟨d, hd1⟩ := hsrc
  let cap := grownCap w b.length 0 e
  let us : Array Value := (⟨b.toArray⟩ : ByteArray).data.map (fun b => Value.int .u8 b.toNat) ++ Array.replicate (cap - b.length) (.int .u8 0)
  have hge : b.length ≤ cap := grownCap_ge w b.length 0 e
  have hus : us.size = cap := by simp [us]; omega
  obtain ⟨h1, _⟩ := h.heap (w' := w.drew) rfl
  have hrow : RowOf w.drew g.pr (.int .u8) (toBytes b) us := by
    intro j y hy0
    have hy : (List.map (fun q : UInt8 => (q.toNat : Int)) b)[j]? = some y := hy0
    rw [List.getElem?_map] at hy
    refine ⟨[.int .u8 y], rfl, fun i v hv => ?_, rfl⟩
    have hi : i = 0 := by have := (List.getElem?_eq_some_iff.1 hv).1; simpa using this
    subst hi
    simp at hv; subst hv
    cases hb : b[j]? with
    | none => rw [hb] at hy; cases hy
    | some q =>
      rw [hb] at hy; simp only [Option.map_some] at hy
      have hy : (q.toNat : Int) = y := by injection hy
      subst hy
      have hj : j < b.length := (List.getElem?_eq_some_iff.1 hb).1
      have hbj : b[j] = q := (List.getElem?_eq_some_iff.1 hb).2
      simp only [Ty.size, Nat.mul_one, Nat.add_zero, us]
      rw [Array.getElem?_append_left (by simpa using hj)]
      simp [hj, hbj]
  have hlen : List.length (α := (Ty.int .u8).den) (toBytes b) = b.length := by show (toBytes b).length = _; simp [toBytes]
  obtain ⟨g2, tg, h3, hτ, htv⟩ := h1.newTokAt ht (us := us) e (fr := (us.size, us.size + 1)) (cap := cap) ⟨Nat.le_succ _, by intro o' ho'; simp; omega⟩ (by rw [hlen]; exact hge) (by simp [Ty.size, hus]) hrow
  have h4 := h3.tmp (VR_ref hτ htv) (hd tt hdt)
  refine goes_value (g' := g2) (w' := w.drew.alloc (.cells us e (us.size, us.size + 1))) (u := .slice (some ⟨w.heap.size, 0, none⟩) b.length cap) ?_ (by rw [hdt]; rw [hlen] at h4; exact h4) (((BelowB.refl B w).drew).alloc h1.hB _)
  have hsz : (⟨b.toArray⟩ : ByteArray).size = b.length := by simp [ByteArray.size]
  have hconv : (Conv.stringToBytes e ⟨b.toArray⟩).run P w = .ok (.slice (some ⟨w.heap.size, 0, none⟩) b.length cap) (w.drew.alloc (.cells us e (us.size, us.size + 1))) := by
    have hsh := shape_alloc w.drew us e
    have hfz := freeze_alloc w.drew us e
    simp only [Conv.stringToBytes, Sem.run_bind, run_choose_drew, Question.forced, Bool.false_eq_true, if_false, Result.andThen_ok, newRow, run_newObj_alloc, Sem.run_pure, markStringish, run_shape, hsz]
    have e0 : (Question.appendCap b.length 0 e).cut (w.tape w.drawn (Question.appendCap b.length 0 e)) = cap := rfl
    rw [e0]
    have hus2 : (⟨b.toArray⟩ : ByteArray).data.map (fun b => Value.int .u8 b.toNat) ++ Array.replicate (cap - b.length) (.int .u8 0) = us := rfl
    rw [hus2]
    simp only [hsh, run_freeze, hfz, Result.andThen_ok]
    rfl
  simp only [execOp, ho, hx, strV, Sem.run_bind, convert, run_underlying hd1, run_underlying hdst, Result.andThen_ok, run_underlying he8, hconv, Sem.run_pure]

end
end Go.Proofs.Ytjgnpmdbkgeakaa.Th
set_option linter.unusedVariables false
set_option linter.unusedSimpArgs false
namespace Go.Proofs.Ytjgnpmdbkgeakaa.Th
open Go Go.RowKit

section
variable {P : Program} {TI : TEnv} {C : FuncId → List AV → AV → Prop} {Rd : Rs → Prop} {B : Bd} {N : Nat} {g g' : Gh} {s : S} {w w' : World} {a : Act} {o : Oper} {ws : List Wr}

theorem push_fold (l : List Int) : ∀ b : ByteArray, (l.foldl (fun r n => r.push (UInt8.ofNat n.toNat)) b) = ⟨b.data ++ (ofBytes l).toArray⟩ := by
  induction l with
  | nil => intro b; simp [ofBytes]
  | cons n l ih =>
    intro b
    rw [List.foldl_cons, ih]
    apply ByteArray.ext
    simp [ofBytes, ByteArray.data_push]

theorem goes_b2s (h : Rel B g s w a N) (hd : ∀ t, o.dst = some t → t < N) {src dst e : TypeId} {x : Operand} (ho : o.op = .convert src dst x) (hs : P.underlying src = some (.slice e)) (he8 : P.underlying e = some (.int .u8)) (hdst : P.underlying dst = some .string)
    {l : List Int} (hr : Reads w g.pr (.int .u8) l (a.eval x)) (he : (retv o.dst (.str (ofBytes l))).Ev C Rd s ws) : Goes P B N o s w a ws := by
  refine goes_str h hd ?_ he
  obtain ⟨ad, c, news, e00, hc0, hl0, hnil0, hcell, h1, hrow0⟩ := hr.flat
  have e0 : a.eval x = .slice ad (List.length (α := Int) l) c := e00
  have hl : news.length = List.length (α := Int) l * 1 := hl0
  have hnil : ad = none → (l : List Int) = [] := hnil0
  have hrow : ∀ (j : Nat) (y : Int), (l : List Int)[j]? = some y → ∃ vs : List Value, vs.length = 1 ∧ (∀ (i : Nat) (v : Value), vs[i]? = some v → news[j * 1 + i]? = some v) ∧ vs = [.int .u8 y] := hrow0
  clear e00 hc0 hl0 hnil0 hrow0
  have hnews : news = l.map (Value.int .u8) := by
    have hl' : news.length = l.length := by omega
    apply List.ext_getElem?
    intro j
    rw [List.getElem?_map]
    cases hj : l[j]? with
    | none =>
      have : l.length ≤ j := by simpa using hj
      simp; omega
    | some y =>
      obtain ⟨vs, v1, v2, v3⟩ := hrow j y hj
      have := v2 0 (.int .u8 y) (by rw [v3]; rfl)
      simpa using this
  simp only [execOp, ho, e0, Sem.run_bind, run_convert_bytes_string w src dst e _ _ _ hs he8 hdst]
  cases ad with
  | none =>
    have := hnil rfl; subst this
    simp [Conv.bytesToString, strV, ofBytes]
    rfl
  | some ad =>
    have hload := run_loadCells_list (P := P) w ad news (fun j v hv => hcell ad rfl j v hv)
    have hl' : news.length = l.length := by rw [hnews]; simp
    rw [hl', hnews] at hload
    rw [run_bytesToString w ad l.length c l hload]
    simp only [Result.andThen_ok, Sem.run_pure, push_fold, strV]
    congr 4
    simp

theorem thawed_mark {fr : Nat × Nat} {n : Nat} (h : Thawed fr n) : Thawed (if fr.1 == fr.2 then (n, n + 1) else (min fr.1 n, max fr.2 (n + 1))) n := by
  obtain ⟨hle, h⟩ := h
  split
  · exact ⟨Nat.le_succ _, fun o ho => by simp; omega⟩
  · rename_i hne
    have hne : fr.1 ≠ fr.2 := by simpa using hne
    refine ⟨by simp; omega, fun o ho => ?_⟩
    by_cases h1 : fr.1 < n
    · have := h fr.1 h1
      simp at this
      omega
    · simp; omega

theorem remark_freeze {w : World} {k : Nat} {us : Array Value} {e : TypeId} {fr : Nat × Nat} (hr : w.heap[k]? = some (.cells us e fr)) : Remark w (w.freeze ⟨k, us.size, none⟩ 1) := by
  have hf : w.freeze ⟨k, us.size, none⟩ 1 = { w with heap := w.heap.modify k fun
      | .cells c elem (lo, hi) => .cells c elem (if lo == hi then (us.size, us.size + 1) else (min lo us.size, max hi (us.size + 1)))
      | o => o } := rfl
  rw [hf]
  refine ⟨by simp, fun i => ?_⟩
  by_cases e1 : i = k
  · subst e1
    right
    exact ⟨us, e, fr, _, hr, by simp only [Array.getElem?_modify, if_true, hr, Option.map_some], thawed_mark⟩
  · left
    have : ¬ k = i := fun h => e1 h.symm
    simp [Array.getElem?_modify, this]

theorem goes_s2s (h : Rel B g s w a N) (hd : ∀ t, o.dst = some t → t < N) {src e : TypeId} {x : Operand} (ho : o.op = .convert src src x) (hs : P.underlying src = some (.slice e)) (he8 : P.underlying e = some (.int .u8))
    {t : Nat} (hp : VR w g (.ref t) (a.eval x)) {sh : Bool} {T : Ty} {y : T.den} {l : List T.den} (ht : s.toks t = .live sh T (y :: l)) (he : (retv o.dst (.ref t)).Ev C Rd s ws) : Goes P B N o s w a ws := by
  obtain ⟨tg, e1, e2, e3⟩ := hp
  obtain ⟨tg', q1, q2, q3⟩ := h.tk t sh T (y :: l) ht
  rw [e1] at q1; cases q1
  rcases q3 with ⟨_, _, q⟩ | ⟨k, cap, v1, v2, v3⟩
  · cases q
  · obtain ⟨us, el, fr, r1, r2, r3, r4⟩ := v3.row
    obtain ⟨h2, hk⟩ := h.remark (remark_freeze r1)
    have hv : VR (w.freeze ⟨k, us.size, none⟩ 1) g (.ref t) (a.eval x) := VR.keeps hk (show VR w g (.ref t) (a.eval x) from ⟨tg, e1, e2, e3⟩)
    have hx : a.eval x = .slice (some ⟨k, 0, none⟩) (y :: l).length cap := by rw [e2, v1]
    have : ws = wrd o.dst (.ref t) := he
    subst this
    refine goes_value (g' := g) (w' := w.freeze ⟨k, us.size, none⟩ 1) (u := a.eval x) ?_ (h2.wrd hv hd) ?_
    · have hsh : w.shape? k = some (el, us.size) := by unfold World.shape?; rw [r1]
      simp only [execOp, ho, hx, Sem.run_bind, convert, run_underlying hs, run_underlying he8, Result.andThen_ok, beq_self_eq_true, markStringish, run_shape, hsh, run_freeze, Sem.run_pure]
    · have hab := v3.above
      refine ⟨rfl, rfl, rfl, ?_, fun i hi => ?_⟩
      · rw [(remark_freeze r1).1]; exact Nat.le_refl _
      · have : ¬ k = i := fun e => hi (e ▸ hab)
        show (w.heap.modify k _)[i]? = _
        simp [Array.getElem?_modify, this]

theorem goes_convert (hT : TIok P TI) (h : Rel B g s w a N) (hd : ∀ t, o.dst = some t → t < N) {src dst : TypeId} {x : Operand} (ho : o.op = .convert src dst x)
    (he0 : (rdv x fun x => pgConvert TI o.dst src dst x).Ev C Rd s ws) : Goes P B N o s w a ws := by
  obtain ⟨p, hp, he⟩ := rdv_ev h he0
  clear he0
  unfold pgConvert tinf at he
  cases hisrc : TI src with
  | none => rw [hisrc] at he; exact he.elim
  | some isrc =>
  rw [hisrc] at he
  simp only [] at he
  obtain ⟨_, ds, _, SR0⟩ := hT.get hisrc
  have hds := SR0.und
  cases hi : TI dst with
  | none => rw [hi] at he; exact he.elim
  | some i =>
    rw [hi] at he
    obtain ⟨ti, d, z, T⟩ := hT.get hi
    simp only [] at he
    split at he
    · rename_i k _ n hk
      have hx := VR_int hp
      have hud := T.int hk
      refine goes_int h hd ?_ he
      simp only [execOp, ho, hx, Sem.run_bind, convert, run_underlying hds, run_underlying hud, Result.andThen_ok, Conv.intToInt, Sem.run_pure]
    · rename_i b hk
      have hx := VR_str hp
      have hud := T.str hk
      refine goes_str h hd ?_ he
      simp only [execOp, ho, hx, strV, Sem.run_bind, convert, run_underlying hds, run_underlying hud, Result.andThen_ok, Sem.run_pure]
    · rename_i e b hk
      have hx := VR_str hp
      have hud := T.slice hk
      cases hei : TI e with
      | none => rw [hei] at he; exact he.elim
      | some ei =>
        rw [hei] at he
        simp only [] at he
        obtain ⟨_, _, _, E⟩ := hT.get hei
        split at he
        · rename_i tt hek hdt
          obtain ⟨_, he⟩ := he
          cases ht : s.toks tt with
          | dead => rw [ht] at he; exact he.elim
          | live _ _ _ => rw [ht] at he; exact he.elim
          | abs =>
            rw [ht] at he
            have : ws = _ := he
            subst this
            exact goes_s2b h hd ho hud (E.int hek) ⟨ds, hds⟩ hx hdt ht
        · exact he.elim
    · rename_i e t hk
      have hud := T.slice hk
      split at he
      · rename_i hsd
        have hsd : src = dst := eq_of_beq (by simpa using hsd)
        subst hsd
        cases hei : TI e with
        | none => rw [hei] at he; exact he.elim
        | some ei =>
          rw [hei] at he
          simp only [] at he
          obtain ⟨_, _, _, E⟩ := hT.get hei
          split at he
          · rename_i hek
            obtain ⟨_, he⟩ := he
            cases ht : s.toks t with
            | abs => rw [ht] at he; exact he.elim
            | dead => rw [ht] at he; exact he.elim
            | live sh T' l =>
              rw [ht] at he
              simp only [] at he
              cases l with
              | nil => exact he.elim
              | cons y l =>
                simp only [] at he
                exact goes_s2s h hd ho hud (E.int hek) hp ht he
          · exact he.elim
      · exact he.elim
    · rename_i hk _
      have hud := T.str hk
      split at he
      · rename_i e hks
        cases hei : TI e with
        | none => rw [hei] at he; exact he.elim
        | some ei =>
          rw [hei] at he
          simp only [] at he
          obtain ⟨_, _, _, E⟩ := hT.get hei
          split at he
          · rename_i hek
            obtain ⟨l, he, hr⟩ := content_evV h hp he
            exact goes_b2s h hd ho (SR0.slice hks) (E.int hek) hud hr he
          · exact he.elim
      · exact he.elim
    · exact he.elim

theorem goes_len (hT : TIok P TI) (h : Rel B g s w a N) (hd : ∀ t, o.dst = some t → t < N) {t : TypeId} {x : Operand} (ho : o.op = .call { callee := .builtin .len, args := #[x], argTypes := #[t] })
    {p : AV} (hp : VR w g p (a.eval x)) (he : (pgCall TI o.dst (.builtin .len) [p] [t]).Ev C Rd s ws) : Goes P B N o s w a ws := by
  unfold pgCall at he
  simp only [] at he
  unfold tinf at he
  cases hi : TI t with
  | none => rw [hi] at he; exact he.elim
  | some i =>
    rw [hi] at he
    obtain ⟨ti, d, z, T⟩ := hT.get hi
    simp only [] at he
    split at he
    · rename_i b hk
      have hx := VR_str hp
      have hu := T.str hk
      refine goes_int h hd ?_ he
      simp only [execOp, ho, resolve, invoke, builtin, Builtin.len_, List.map_toArray, List.map_cons, List.map_nil, hx, strV, List.getElem?_toArray, List.getElem?_cons_zero, Sem.run_bind, Sem.run_pure, Result.andThen_ok, run_underlying hu, goInt]
      simp [ByteArray.size]
    · exact he.elim
    · rename_i p _ _ e hk hns
      have hu := T.slice hk
      have hslice : ∀ (n : Nat) (ad : Option Addr) (c : Nat), a.eval x = .slice ad n c → (execOp a.eval o).run P w = .ok (.value (.int .i64 n)) w := by
        intro n ad c hx
        simp only [execOp, ho, resolve, invoke, builtin, Builtin.len_, List.map_toArray, List.map_cons, List.map_nil, hx, List.getElem?_toArray, List.getElem?_cons_zero, Sem.run_bind, Sem.run_pure, Result.andThen_ok, run_underlying hu, goInt]
      unfold lenOf at he
      cases p with
      | nilsl => exact goes_int h hd (n := 0) (hslice 0 none 0 hp) he
      | sl T l =>
        obtain ⟨ad, c, e0, _⟩ := (show SlR _ _ _ _ _ _ from hp)
        have e0 : a.eval x = .slice ad l.length c := by simpa using e0
        exact goes_int h hd (hslice _ ad c e0) he
      | str b => exact absurd rfl (hns b)
      | ref t' =>
        simp only [] at he
        obtain ⟨_, he⟩ := he
        cases ht : s.toks t' with
        | abs => rw [ht] at he; exact he.elim
        | dead => rw [ht] at he; exact he.elim
        | live sh T l =>
          rw [ht] at he
          obtain ⟨tg, e, ok⟩ := h.tk t' sh T l ht
          obtain ⟨tg', e', hu2, _⟩ := hp
          rw [e] at e'; cases e'
          obtain ⟨ad, c, e2, _⟩ := ok.reads.out
          exact goes_int h hd (hslice _ ad c (hu2.trans e2)) he
      | _ => exact he.elim
    · exact he.elim

theorem pack1_TR {pr : Nat → Nat → Prop} {v : AV} {u : Value} {p : Pk} (h : pack1 v = some p) (hv : PV w pr v u) : TR w pr p.T p.x [u] := by
  rcases hv with hv | ⟨_, _, e, _⟩
  · cases v <;> first | (simp only [pack1, Option.some.injEq] at h; subst h; first | exact hv | exact congrArg (fun z => [z]) hv) | cases h
  · rw [e] at h; cases h

theorem pack_TR {pr : Nat → Nat → Prop} : ∀ {vs : List AV} {us : List Value} {p : Pk}, pack vs = some p → All2 (PV w pr) vs us → TR w pr p.T p.x us
  | [], [], p, h, _ => by simp only [pack, Option.some.injEq] at h; subst h; rfl
  | v :: vs, u :: us, p, h, hv => by
    unfold pack at h
    split at h
    · rename_i a b ha hb
      simp only [Option.some.injEq] at h
      subst h
      exact ⟨[u], us, rfl, pack1_TR ha hv.1, pack_TR hb hv.2⟩
    · cases h
  | [], _ :: _, _, _, h => h.elim
  | _ :: _, [], _, _, h => h.elim

theorem pack_plain : ∀ {vs : List AV} {p : Pk}, pack vs = some p → vs.all isPlainCell = true
  | [], _, _ => rfl
  | v :: vs, p, h => by
    unfold pack at h
    cases h1 : pack1 v with
    | none => rw [h1] at h; simp at h
    | some a =>
      cases h2 : pack vs with
      | none => rw [h1, h2] at h; simp at h
      | some b =>
        have hv : isPlainCell v = true := by cases v <;> simp [pack1] at h1 <;> rfl
        simp only [List.all_cons, hv, pack_plain h2, Bool.and_self]

theorem Rel.freeze (h : Rel B g s w a N) {b k : Nat} {cs cs1 : List AV} (hb : s.boxes b = some cs) (hβ : g.β b = some k) {us : Array Value} {el : TypeId} {fr : Nat × Nat} (hr : w.heap[k]? = some (.cells us el fr)) (hc : All2 (PR w g.pr) cs1 us.toList) :
    Rel B { g with pr := fun k' o => g.pr k' o ∨ (k' = k ∧ o < us.size) } (s.put (.box b (cs1.map .fz))) w a N ∧ Keeps w g w { g with pr := fun k' o => g.pr k' o ∨ (k' = k ∧ o < us.size) } := by
  obtain ⟨k0, e0, ok⟩ := h.bx b cs hb
  rw [hβ] at e0; cases e0
  obtain ⟨us0, el0, fr0, r1, r2, r3⟩ := ok.row
  rw [hr] at r1; cases r1
  have hk : Keeps w g w { g with pr := fun k' o => g.pr k' o ∨ (k' = k ∧ o < us.size) } := ⟨fun _ _ p => ⟨.inl p, rfl⟩, fun _ _ x => x, fun _ _ x => x⟩
  have hlt : k < w.heap.size := (Array.getElem?_eq_some_iff.1 hr).1
  have hlen := hc.len
  have hlen0 := r3.len
  refine ⟨⟨h.df, h.nt, h.hB, fun t => (h.tm t).keeps hk, ?_, ?_, ?_, h.binj, h.tk0, ?_, h.tinj, h.tbx, ?_, h.ex.keep hk (fun b' hb' => ?_)⟩, hk⟩
  · rintro k' o (p | ⟨rfl, _⟩)
    · exact h.prlt k' o p
    · exact hlt
  · intro b' e'
    by_cases eb : b' = b
    · subst eb; simp [S.put, upd_same] at e'
    · simp only [S.put, upd_ne _ _ _ _ eb] at e'; exact h.bx0 b' e'
  · intro b' cs2 hb'
    by_cases eb : b' = b
    · subst eb
      simp only [S.put, upd_same] at hb'; cases hb'
      refine ⟨k, hβ, ok.above, fun o p => ?_, us, el, fr, hr, r2, ?_⟩
      · have ho : o < us.size := by
          rcases p with p | ⟨_, p⟩
          · obtain ⟨v, hv⟩ := ok.free o p
            have := (List.getElem?_eq_some_iff.1 hv).1
            simp at hlen0; omega
          · exact p
        have ho2 : o < cs1.length := by simp at hlen; omega
        exact ⟨cs1[o], by simp [ho2]⟩
      · refine All2.of_get (by simpa using hlen) fun i x u hx hu => ?_
        rw [List.getElem?_map] at hx
        cases hq : cs1[i]? with
        | none => rw [hq] at hx; cases hx
        | some v =>
          rw [hq] at hx
          simp only [Option.map_some, Option.some.injEq] at hx
          subst hx
          obtain ⟨u', hu', hp⟩ := hc.get i v hq
          rw [hu] at hu'; cases hu'
          exact PR.keeps hk.pr hp
    · simp only [S.put, upd_ne _ _ _ _ eb] at hb'
      obtain ⟨i, ei, ab, free, us2, el2, f, q1, q2, q3⟩ := h.bx b' cs2 hb'
      have hne : i ≠ k := fun e' => eb (h.binj b' b k (by rw [ei, e']) hβ)
      refine ⟨i, ei, ab, ?_, us2, el2, f, q1, q2, q3.imp fun _ _ => LR.keeps hk⟩
      rintro o (p | ⟨e, _⟩)
      · exact free o p
      · exact absurd e hne
  · intro t sh T l ht
    obtain ⟨tg, e, ez, r⟩ := h.tk t sh T l ht
    refine ⟨tg, e, ez, r.imp id ?_⟩
    rintro ⟨i, cap, a1, a2, a3⟩
    have hl : (s.toks t).isLive = true := by rw [show s.toks t = _ from ht]; rfl
    have hne : i ≠ k := fun e' => h.tbx t tg k b hl e (by rw [a2, e']) hβ
    obtain ⟨us2, el2, f, q1, q2, q3, q4⟩ := a3.row
    have hno : ∀ o, (g.pr i o ∨ (i = k ∧ o < us.size)) → g.pr i o := by
      rintro o (p | ⟨e, _⟩)
      · exact p
      · exact absurd e hne
    exact ⟨i, cap, a1, a2, a3.above, a3.len, ⟨us2, el2, f, q1, q2, q3, q4.keeps hk.pr⟩, fun o p => a3.prlt o (hno o p), fun e o p => .inl (a3.prsh e o p), fun e o p => a3.prno e o (hno o p)⟩
  · intro k' o hm
    rw [← h.prB k' o hm]
    refine ⟨?_, .inl⟩
    rintro (p | ⟨rfl, _⟩)
    · exact p
    · exact absurd ok.above hm
  · by_cases eb : b' = b
    · rw [eb, hb]; simp
    · simpa [S.put, upd_ne _ _ _ _ eb] using hb'

def Capt (w : World) (g : Gh) (bs : List (Nat × List AV)) (v : AV) (u : Value) : Prop :=
  PV w g.pr v u ∨ ∃ (b k : Nat) (cs1 : List AV) (us : Array Value) (el : TypeId) (fr : Nat × Nat) (p : Pk), v = .imm p.T p.x ∧ (b, cs1.map .fz) ∈ bs ∧ g.β b = some k ∧ u = .pointer (some ⟨k, 0, none⟩) ∧ pack cs1 = some p ∧ w.heap[k]? = some (.cells us el fr) ∧ All2 (PV w g.pr) cs1 us.toList

def ToFz (w : World) (g : Gh) (s : S) (x : Nat × List AV) : Prop :=
  ∃ (k : Nat) (cs cs1 : List AV) (us : Array Value) (el : TypeId) (fr : Nat × Nat) (p : Pk), s.boxes x.1 = some cs ∧ x.2 = cs1.map .fz ∧ g.β x.1 = some k ∧ pack cs1 = some p ∧ w.heap[k]? = some (.cells us el fr) ∧ All2 (PV w g.pr) cs1 us.toList

theorem Capt.keeps {g g' : Gh} (hk : Keeps w g w g') {bs bs' : List (Nat × List AV)} (hb : ∀ x ∈ bs, x ∈ bs') {v : AV} {u : Value} (h : Capt w g bs v u) : Capt w g' bs' v u := by
  rcases h with h | ⟨b, k, cs1, us, el, fr, p, h1, h2, h3, h4, h5, h6, h7⟩
  · exact .inl (h.keeps hk.pr)
  · exact .inr ⟨b, k, cs1, us, el, fr, p, h1, hb _ h2, hk.β _ _ h3, h4, h5, h6, h7.imp fun _ _ => fun q => q.keeps hk.pr⟩
theorem ToFz.keeps {g g' : Gh} (hk : Keeps w g w g') {x : Nat × List AV} (h : ToFz w g s x) : ToFz w g' s x := by
  obtain ⟨k, cs, cs1, us, el, fr, p, h1, h2, h3, h4, h5, h6⟩ := h
  exact ⟨k, cs, cs1, us, el, fr, p, h1, h2, hk.β _ _ h3, h4, h5, h6.imp fun _ _ => fun q => q.keeps hk.pr⟩

theorem capts_ev : ∀ {vs : List AV} {us : List Value} {ws W : List Wr} {bs : List (Nat × List AV)} {k : List AV → List Wr → List (Nat × List AV) → Pg} {g : Gh}, Promo s (s.puts ws) → Rel B g (s.puts ws) w a N → All2 (VR w g) vs us → (∀ x ∈ bs, ToFz w g s x) →
    (capts vs ws bs k).Ev C Rd s W → ∃ vs' ws' bs' g', (k vs' ws' bs').Ev C Rd s W ∧ Promo s (s.puts ws') ∧ Rel B g' (s.puts ws') w a N ∧ Keeps w g w g' ∧ All2 (Capt w g' bs') vs' us ∧ (∀ x ∈ bs', ToFz w g' s x) ∧ (∀ x ∈ bs, x ∈ bs')
  | [], [], ws, W, bs, k, g, hp, h, _, hb, he => ⟨[], ws, bs, g, he, hp, h, Keeps.refl _ _, trivial, hb, fun _ h => h⟩
  | v :: vs, u :: us, ws, W, bs, k, g, hp, h, hv, hb, he => by
    by_cases hptr : ∃ b off, v = .ptr b off
    · obtain ⟨b, off, rfl⟩ := hptr
      simp only [capts] at he
      obtain ⟨h0, _, he⟩ := he
      have h0 := Nat.eq_of_beq_eq_true h0
      subst h0
      cases hbx : s.boxes b with
      | none => rw [hbx] at he; exact he.elim
      | some cs =>
        rw [hbx] at he
        obtain ⟨kb, hβ, hu⟩ := hv.1
        obtain ⟨k1, e1, ok⟩ := h.bx b cs (by rw [hp.boxes]; exact hbx)
        rw [hβ] at e1; cases e1
        obtain ⟨cus, el, fr, r1, r2, r3⟩ := ok.row
        obtain ⟨cs1, ws1, g1, he, hp1, h1, hk1, hc1⟩ := snaps_ev hp h ((unfz_all r3).imp fun _ _ => VR_of_LR) he
        cases hpk : pack cs1 with
        | none => rw [hpk] at he; exact he.elim
        | some p =>
          rw [hpk] at he
          have hfz : ToFz w g1 s (b, cs1.map .fz) := ⟨kb, cs, cs1, cus, el, fr, p, hbx, rfl, hk1.β _ _ hβ, hpk, r1, hc1⟩
          obtain ⟨vs', ws2, bs', g2, he, hp2, h2, hk2, hv2, hb2, hb3⟩ := capts_ev (bs := bs ++ [(b, cs1.map .fz)]) hp1 h1 (hv.2.imp fun _ _ => VR.keeps hk1) (fun x hx => by
            rcases List.mem_append.1 hx with hx | hx
            · exact (hb x hx).keeps hk1
            · rw [List.mem_singleton.1 hx]; exact hfz) he
          have hin : (b, cs1.map .fz) ∈ bs' := hb3 _ (by simp)
          refine ⟨.imm p.T p.x :: vs', ws2, bs', g2, he, hp2, h2, hk1.trans hk2, ⟨.inr ⟨b, kb, cs1, cus, el, fr, p, rfl, hin, (hk1.trans hk2).β _ _ hβ, hu, hpk, r1, hc1.imp fun _ _ => fun q => q.keeps hk2.pr⟩, hv2⟩, hb2, fun x hx => hb3 x (by simp [hx])⟩
    · have he' : (snap1 v ws fun v' ws' => capts vs ws' bs fun vs' ws'' bs' => k (v' :: vs') ws'' bs').Ev C Rd s W := by
        cases v <;> first | exact he | exact absurd ⟨_, _, rfl⟩ hptr
      obtain ⟨v', ws1, g1, he, hp1, h1, hk1, hv1⟩ := snap1_ev hp h hv.1 he'
      obtain ⟨vs', ws2, bs', g2, he, hp2, h2, hk2, hv2, hb2, hb3⟩ := capts_ev hp1 h1 (hv.2.imp fun _ _ => VR.keeps hk1) (fun x hx => (hb x hx).keeps hk1) he
      exact ⟨v' :: vs', ws2, bs', g2, he, hp2, h2, hk1.trans hk2, ⟨.inl (hv1.keeps hk2.pr), hv2⟩, hb2, hb3⟩
  | [], _ :: _, _, _, _, _, _, _, _, hv, _, _ => hv.elim
  | _ :: _, [], _, _, _, _, _, _, _, hv, _, _ => hv.elim

theorem nodupB0_spec : ∀ {l : List Nat}, nodupB0 l = true → l.Nodup
  | [], _ => List.nodup_nil
  | a :: l, h => by
    simp only [nodupB0, Bool.and_eq_true, Bool.not_eq_true'] at h
    refine List.nodup_cons.2 ⟨fun hm => ?_, nodupB0_spec h.2⟩
    have := List.any_eq_false.1 h.1 a hm
    exact this (Nat.beq_refl a)

theorem freezes_ok : ∀ {bs : List (Nat × List AV)} {ws : List Wr} {g : Gh}, Rel B g (s.puts ws) w a N → (bs.map (·.1)).Nodup → (∀ x ∈ bs, ToFz w g (s.puts ws) x) →
    ∃ g', Rel B g' (s.puts (ws ++ bs.map fun x => .box x.1 x.2)) w a N ∧ Keeps w g w g' ∧ ∀ x ∈ bs, ∀ k, g.β x.1 = some k → ∀ us el fr, w.heap[k]? = some (.cells us el fr) → ∀ o, o < us.size → g'.pr k o
  | [], ws, g, h, _, _ => ⟨g, by simpa using h, Keeps.refl _ _, fun x hx => by cases hx⟩
  | x :: bs, ws, g, h, hn, hb => by
    obtain ⟨k, cs, cs1, us, el, fr, p, b1, b2, b3, b4, b5, b6⟩ := hb x (.head _)
    obtain ⟨h1, hk1⟩ := h.freeze b1 b3 b5 (PV_plain b6 (pack_plain b4))
    have hn' := List.nodup_cons.1 (show ((x.1) :: bs.map (·.1)).Nodup from hn)
    obtain ⟨g2, h2, hk2, hp2⟩ := freezes_ok (bs := bs) (ws := ws ++ [.box x.1 x.2]) (g := { g with pr := fun k' o => g.pr k' o ∨ (k' = k ∧ o < us.size) }) (by rw [S.puts_one, b2]; exact h1) hn'.2 (fun y hy => by
      have hne : y.1 ≠ x.1 := fun e => hn'.1 (e ▸ List.mem_map.2 ⟨y, hy, rfl⟩)
      obtain ⟨k', cs', cs1', us', el', fr', p', c1, c2, c3, c4, c5, c6⟩ := (hb y (.tail _ hy)).keeps hk1
      exact ⟨k', cs', cs1', us', el', fr', p', by rw [S.puts_one]; simp only [S.put, upd_ne _ _ _ _ hne]; exact c1, c2, c3, c4, c5, c6⟩)
    refine ⟨g2, by rw [List.map_cons, ← List.singleton_append, ← List.append_assoc]; exact h2, hk1.trans hk2, fun y hy k' e' us' el' fr' hr' o ho => ?_⟩
    rcases List.mem_cons.1 hy with rfl | hy
    · rw [b3] at e'; cases e'
      rw [b5] at hr'; cases hr'
      exact (hk2.pr k o (.inr ⟨rfl, ho⟩)).1
    · exact hp2 y hy k' e' us' el' fr' hr' o ho

theorem goes_makeFunc (h : Rel B g s w a N) (hd : ∀ t, o.dst = some t → t < N) {f : FuncId} {cap : Array Operand} (ho : o.op = .makeFunc (.func f) #[] cap)
    (he0 : (rdvs cap.toList fun vs => capts vs [] [] fun vs ws bs => .chk (nodupB0 (bs.map (·.1))) (match pack vs with
      | some p => .ret (ws ++ (bs.map fun x => .box x.1 x.2) ++ wrd o.dst (.fnv f p.T p.x))
      | none => .fail)).Ev C Rd s ws) : Goes P B N o s w a ws := by
  obtain ⟨vs, hv, he⟩ := rdvs_ev h he0
  clear he0
  obtain ⟨vs', ws', bs', g1, he, hp, h2, hk, hv2, hb2, _⟩ := capts_ev (bs := []) (Promo.refl s) (by simpa [S.puts] using h) hv (fun x hx => by cases hx) he
  obtain ⟨hnd, he⟩ := he
  cases hpk : pack vs' with
  | none => rw [hpk] at he; exact he.elim
  | some p =>
    rw [hpk] at he
    have : ws = _ := he
    subst this
    obtain ⟨g3, h3, hk3, hp3⟩ := freezes_ok h2 (nodupB0_spec hnd) (fun x hx => by
      obtain ⟨k, cs, cs1, us, el, fr, p, b1, b2, b3, b4, b5, b6⟩ := hb2 x hx
      exact ⟨k, cs, cs1, us, el, fr, p, by rw [hp.boxes]; exact b1, b2, b3, b4, b5, b6⟩)
    have hv3 : All2 (PV w g3.pr) vs' (cap.toList.map a.eval) := by
      refine hv2.imp fun v u hc => ?_
      rcases hc with hc | ⟨b, k, cs1, us, el, fr, q, rfl, c2, c3, rfl, c5, c6, c7⟩
      · exact hc.keeps hk3.pr
      · refine .inl ?_
        show TR w g3.pr (.ref q.T) q.x [_]
        refine ⟨⟨k, 0, none⟩, us.toList, rfl, fun i u hu => ?_, (pack_TR c5 c7).keeps hk3.pr⟩
        have hu' : us[i]? = some u := by simpa using hu
        have hi : i < us.size := (Array.getElem?_eq_some_iff.1 hu').1
        rw [addr_add, Nat.zero_add]
        exact ⟨by rw [cell_of c6]; exact hu', hp3 _ c2 k c3 us el fr c6 i hi⟩
    have hend := h3.wrd (d := o.dst) (v := .fnv f p.T p.x) (VR_of_LR (LR_of_PR (show PR w g3.pr (.fnv f p.T p.x) (.func (.func f) #[] (cap.toList.map a.eval).toArray) from ⟨_, rfl, pack_TR hpk hv3⟩))) hd
    refine goes_value (g' := g3) ?_ (by rw [S.puts_append]; exact hend) (BelowB.refl _ _)
    simp only [execOp, ho, Instr.makeFunc, Sem.run_bind, Sem.run_pure, Result.andThen_ok]
    congr 3
    · simp
    · apply Array.ext'; simp


def OwnC (B : Bd) (w : World) (pr : Nat → Nat → Prop) (v : AV) (u : Value) (b : Option Nat) : Prop :=
  match v with
  | .own T l => ∃ tg, TokOK B w pr false T l tg ∧ u = tg.val ∧ tg.blk = b ∧ (∀ k, b = some k → k < w.heap.size)
  | v => PV w pr v u ∧ b = none

def ResR (B : Bd) (w : World) (pr : Nat → Nat → Prop) (v : AV) (r : Value) : Prop :=
  match v with
  | .tup vs => ∃ (us : List Value) (bs : List (Option Nat)), r = .tuple us.toArray ∧ vs.length = us.length ∧ bs.length = us.length ∧
      (∀ (i : Nat) (x : AV) (u : Value) (b : Option Nat), vs[i]? = some x → us[i]? = some u → bs[i]? = some b → OwnC B w pr x u b) ∧
      (∀ (i j : Nat) (k : Nat), bs[i]? = some (some k) → bs[j]? = some (some k) → i = j)
  | v => ∃ b, OwnC B w pr v r b

def HasBody (P : Program) (f : FuncId) : Prop := ∃ fn, P.funcs[f]? = some fn ∧ (fn.name == "runtime.NumGoroutine") = false ∧ fn.body.isNone = false

def CallPlain (P : Program) (f : FuncId) (args : List AV) (v : AV) : Prop :=
  HasBody P f ∧
  ∀ (w : World) (pr : Nat → Nat → Prop) (us : List Value), (∀ k o, pr k o → k < w.heap.size) → GlobOK w pr → All2 (PV w pr) args us →
    Calls P f us.toArray w fun e w' => ∃ r pr', e = .returned r ∧ Below w.heap.size w w' ∧ (∀ k o, k < w.heap.size → (pr' k o ↔ pr k o)) ∧ (∀ k o, pr' k o → k < w'.heap.size) ∧ ResR (bd0 w.heap.size pr) w' pr' v r

def bdL (n : Nat) (pr : Nat → Nat → Prop) (kb : Nat) (own : List (Option Nat)) : Bd := ⟨n, pr, fun k => k = kb ∨ some k ∈ own, fun b => if b = lentBox then some kb else none⟩

structure BoxC (B : Bd) (w : World) (pr : Nat → Nat → Prop) (kb : Nat) (cs : List AV) (own : List (Option Nat)) : Prop where
  row : ∃ us e fr, w.heap[kb]? = some (.cells us e fr) ∧ Thawed fr us.size ∧ cs.length = us.toList.length ∧
    ∀ (i : Nat) (x : AV) (u : Value) (b : Option Nat), cs[i]? = some x → us.toList[i]? = some u → own[i]? = some b → OwnC B w pr x u b
  free : ∀ o, ¬ pr kb o
  len : own.length = cs.length
  inj : ∀ (i j k : Nat), own[i]? = some (some k) → own[j]? = some (some k) → i = j
  ne : ∀ k, some k ∈ own → k ≠ kb

def ARg (w : World) (pr : Nat → Nat → Prop) (kb : Nat) (v : AV) (u : Value) : Prop := (∃ off, v = .ptr lentBox off ∧ u = .pointer (some ⟨kb, off, none⟩)) ∨ PV w pr v u

def RetL (w : World) (pr : Nat → Nat → Prop) (kb : Nat) (r : AV) (u : Value) : Prop := match r with
  | .tup vs => ∃ us : List Value, u = .tuple us.toArray ∧ All2 (ARg w pr kb) vs us
  | v => ARg w pr kb v u

def CallLent (P : Program) (f : FuncId) (vs cs : List AV) (r : AV) (cs' : List AV) : Prop :=
  HasBody P f ∧
  ∀ (w : World) (pr : Nat → Nat → Prop) (us : List Value) (kb : Nat) (own : List (Option Nat)), (∀ k o, pr k o → k < w.heap.size) → GlobOK w pr → BoxC (bdL w.heap.size pr kb own) w pr kb cs own → All2 (ARg w pr kb) vs us →
    Calls P f us.toArray w fun e w' => ∃ ru pr' own', e = .returned ru ∧ BelowB (bdL w.heap.size pr kb own) w w' ∧ (∀ k o, ¬ (bdL w.heap.size pr kb own).mine k → (pr' k o ↔ pr k o)) ∧ (∀ k o, pr' k o → k < w'.heap.size) ∧
      BoxC (bdL w.heap.size pr kb own) w' pr' kb cs' own' ∧ RetL w' pr' kb r ru

def AV.isBack : AV → Bool
  | .back _ _ => true
  | _ => false

def bdE (n : Nat) (pr : Nat → Nat → Prop) (b0 : Option Nat) : Bd := ⟨n, pr, fun k => b0 = some k, fun _ => none⟩

def RetE (B : Bd) (w : World) (pr : Nat → Nat → Prop) (u0 : Value) (b0 : Option Nat) (r : AV) (bk : List AV) (ru : Value) : Prop := match bk with
  | [] => ResR B w pr r ru
  | [c] => OwnC B w pr c u0 b0 ∧ r = .tup [] ∧ ru = .tuple #[]
  | _ => False

def CallEat (P : Program) (f : FuncId) (a0 : AV) (rest : List AV) (r : AV) (bk : List AV) : Prop :=
  HasBody P f ∧
  ∀ (w : World) (pr : Nat → Nat → Prop) (u0 : Value) (us : List Value) (b0 : Option Nat), (∀ k o, pr k o → k < w.heap.size) → GlobOK w pr → OwnC (bdE w.heap.size pr b0) w pr a0 u0 b0 → All2 (PV w pr) rest us →
    Calls P f (u0 :: us).toArray w fun e w' => ∃ ru pr', e = .returned ru ∧ BelowB (bdE w.heap.size pr b0) w w' ∧ (∀ k o, ¬ (bdE w.heap.size pr b0).mine k → (pr' k o ↔ pr k o)) ∧ (∀ k o, pr' k o → k < w'.heap.size) ∧
      RetE (bdE w.heap.size pr b0) w' pr' u0 b0 r bk ru

def CallOK (P : Program) (f : FuncId) (args : List AV) (v : AV) : Prop :=
  (v.isBack = false ∧ CallPlain P f args v) ∨ (∃ vs cs r cs', args = vs ++ [.lent cs] ∧ v = .back r cs' ∧ CallLent P f vs cs r cs') ∨ ∃ a0 rest r bk, args = a0 :: rest ∧ v = .back r (.lent [] :: bk) ∧ CallEat P f a0 rest r bk

theorem tokOK_keeps {pr pr' : Nat → Nat → Prop} {T : Ty} {l : List T.den} {tg : TG} {B B' : Bd} (h : TokOK B w pr false T l tg) (hB : ∀ k, B.mine k → B'.mine k) (hk : PrKeeps w pr w pr') (hno : ∀ k, tg.blk = some k → ∀ o, ¬ pr' k o) : TokOK B' w pr' false T l tg := by
  obtain ⟨ez, r⟩ := h
  refine ⟨ez, r.imp id ?_⟩
  rintro ⟨k, cap, e1, e2, r⟩
  obtain ⟨us, el, fr, r1, r2, r3, r4⟩ := r.row
  exact ⟨k, cap, e1, e2, hB _ r.above, r.len, ⟨us, el, fr, r1, r2, r3, r4.keeps hk⟩, fun o p => absurd p (hno k e2 o), (fun x => by cases x), fun _ => hno k e2⟩

theorem answers_ev {d : Nat} {B0 : Bd} : ∀ {vs vs0 : List AV} {us us0 : List Value} {bs : List (Option Nat)} {j : Nat} {ws0 : List Wr} {g : Gh}, Rel B g (s.puts ws0) w a N → (∀ i, j ≤ i → s.toks (tokAt d i) = .abs → (s.puts ws0).toks (tokAt d i) = .abs) →
    vs.length = us.length → bs.length = us.length → (∀ k, k ∈ bs.filterMap id → Fresh g (s.puts ws0) k ∧ ∀ o, ¬ g.pr k o) → (∀ k, B0.mine k → B.mine k) →
    (∀ (i : Nat) (x : AV) (u : Value) (b : Option Nat), vs[i]? = some x → us[i]? = some u → bs[i]? = some b → OwnC B0 w g.pr x u b) → (∀ (i i' : Nat) (k : Nat), bs[i]? = some (some k) → bs[i']? = some (some k) → i = i') →
    All2 (LR w g) vs0 us0 → (answers d vs j vs0 ws0).Ev C Rd s ws → ∃ g' ws' vs', ws = ws' ++ [.tmp d (.tup vs')] ∧ Rel B g' (s.puts ws') w a N ∧ All2 (LR w g') vs' (us0 ++ us) := by
  intro vs
  induction vs with
  | nil =>
    intro vs0 us us0 bs j ws0 g h ht hl hb hf hB ho hi hv he
    have hu : us = [] := List.eq_nil_of_length_eq_zero (by simpa using hl.symm)
    subst hu
    exact ⟨g, ws0, vs0, he, h, by simpa using hv⟩
  | cons v vs ih =>
    intro vs0 us us0 bs j ws0 g h ht hl hb hf hB ho hi hv he
    cases us with
    | nil => simp at hl
    | cons u us =>
      cases bs with
      | nil => simp at hb
      | cons b bs =>
        have h0 := ho 0 v u b rfl rfl rfl
        have hi' : ∀ (i i' : Nat) (k : Nat), bs[i]? = some (some k) → bs[i']? = some (some k) → i = i' := fun i i' k e e' => by
          have := hi (i + 1) (i' + 1) k (by simpa using e) (by simpa using e'); omega
        by_cases hown : ∃ T l, v = .own T l
        · obtain ⟨T, l, rfl⟩ := hown
          simp only [answers] at he
          obtain ⟨_, he⟩ := he
          obtain ⟨tg, ok, rfl, hblk, hlt⟩ := h0
          cases htk : s.toks (tokAt d j) with
          | dead => rw [htk] at he; exact he.elim
          | live _ _ _ => rw [htk] at he; exact he.elim
          | abs =>
            rw [htk] at he
            have habs : (s.puts ws0).toks (tokAt d j) = .abs := ht j (Nat.le_refl _) htk
            have hfb : ∀ k, tg.blk = some k → Fresh g (s.puts ws0) k ∧ ∀ o, ¬ g.pr k o := by
              intro k hk
              exact hf k (by rw [← hblk, hk]; simp)
            obtain ⟨h2, k2⟩ := h.newTok (sh := false) (T := T) (l := l) (tg := tg) habs (fun k hk => (hfb k hk).1) (tokOK_keeps ok hB (fun _ _ p => ⟨p, rfl⟩) fun k hk => (hfb k hk).2)
            obtain ⟨q1, _, q2, _⟩ := ok.reads.out
            have hone : tg.val.oneCell' = true := by rw [q2]; rfl
            have := ih (vs0 := vs0 ++ [.ref (tokAt d j)]) (us0 := us0 ++ [tg.val]) (us := us) (bs := bs) (j := j + 1) (ws0 := ws0 ++ [.tok (tokAt d j) (.live false T l)]) (by rw [S.puts_one]; exact h2) ?_ (by simpa using hl) (by simpa using hb) ?_ hB
              (fun i x u' b' hx hu' hb' => by
                have := ho (i + 1) x u' b' (by simpa using hx) (by simpa using hu') (by simpa using hb'); exact this) hi'
              ((hv.imp fun _ _ => LR.keeps k2).append (show All2 (LR w _) [.ref (tokAt d j)] [tg.val] from ⟨⟨tg, upd_same _ _ _, rfl, hone⟩, trivial⟩)) he
            · simpa using this
            · intro i hi hti
              rw [S.puts_one]
              have e : tokAt d i ≠ tokAt d j := by unfold tokAt; omega
              simp only [S.put, upd_ne _ _ _ _ e]
              exact ht i (by omega) hti
            · intro k hk
              have hk2 : k ∈ (b :: bs).filterMap id := by
                cases b <;> simp at hk ⊢ <;> first | exact hk | exact .inr hk
              obtain ⟨f1, f2⟩ := hf k hk2
              refine ⟨⟨f1.β, fun t tg' hl' e' hb' => ?_⟩, f2⟩
              rw [S.puts_one] at hl'
              by_cases e : t = tokAt d j
              · subst e
                simp only [upd_same] at e'; cases e'
                -- the same block twice
                obtain ⟨i, hi0⟩ : ∃ i, bs[i]? = some (some k) := by
                  have : some k ∈ bs := by simpa using hk
                  exact List.getElem?_of_mem this
                have := hi 0 (i + 1) k (by simp [← hblk, hb']) (by simpa using hi0)
                omega
              · simp only [S.put, upd_ne _ _ _ _ e] at hl' e'
                exact f1.τ t tg' hl' e' hb'
        · have hpv : PV w g.pr v u ∧ b = none := by
            cases v <;> first | exact h0 | exact absurd ⟨_, _, rfl⟩ hown
          have he2 : (answers d vs (j + 1) (vs0 ++ [v]) ws0).Ev C Rd s ws := by
            cases v <;> first | exact he | exact absurd ⟨_, _, rfl⟩ hown
          have := ih (vs0 := vs0 ++ [v]) (us0 := us0 ++ [u]) (us := us) (bs := bs) (j := j + 1) (ws0 := ws0) h (fun i hi => ht i (by omega)) (by simpa using hl) (by simpa using hb)
            (fun k hk => hf k (by rw [hpv.2]; simpa using hk)) hB
            (fun i x u' b' hx hu' hb' => ho (i + 1) x u' b' (by simpa using hx) (by simpa using hu') (by simpa using hb')) hi' (hv.append ⟨hpv.1.LR, trivial⟩) he2
          simpa using this

theorem execOp_call {f : Operand} {args : Array Operand} {ts : Array TypeId} (ho : o.op = .call { callee := .value f, args := args, argTypes := ts }) {n : FuncId} {us : List Value} (hf : a.eval f = .func (.func n) #[] us.toArray)
    {fn : Func} (h1 : P.funcs[n]? = some fn) (h2 : (fn.name == "runtime.NumGoroutine") = false) (h3 : fn.body.isNone = false) :
    (execOp a.eval o).run P w = .ok (.enter n ((args.toList.map a.eval) ++ us).toArray) w := by
  simp only [execOp, ho, resolve, hf, Deferred.ofValue, Sem.run_bind, Sem.run_pure, Result.andThen_ok, invoke, callFunc, run_program, h1, h2, h3, Bool.false_eq_true, if_false, Sem.run_ite]
  congr 2
  apply Array.ext'
  simp

theorem ownC_block {B0 : Bd} {pr : Nat → Nat → Prop} {v : AV} {u : Value} {b : Option Nat} (h : OwnC B0 w pr v u b) {k : Nat} (hk : b = some k) : B0.mine k ∧ ∀ o, ¬ pr k o := by
  by_cases hown : ∃ T l, v = .own T l
  · obtain ⟨T, l, rfl⟩ := hown
    obtain ⟨tg, ⟨_, r⟩, _, hblk, _⟩ := h
    rcases r with ⟨_, e, _⟩ | ⟨k', cap, _, e, r⟩
    · rw [hblk, hk] at e; cases e
    · rw [hblk, hk] at e; cases e
      exact ⟨r.above, r.prno rfl⟩
  · have : PV w pr v u ∧ b = none := by cases v <;> first | exact h | exact absurd ⟨_, _, rfl⟩ hown
    rw [this.2] at hk; cases hk

theorem methsOK_get {ti : TypeInfo} {d : TypeDesc} {name : String} {n : FuncId} : ∀ {l : List (String × FuncId)}, methsOK ti d l = true → findM l name = some n →
    (∀ e, d ≠ .pointer e) ∧ ∃ m, ti.methods.find? (·.name == name) = some m ∧ m.path.toList = [] ∧ m.func = some (n, false)
  | [], _, h => by simp [findM] at h
  | (nm, f) :: l, h, hf => by
    simp only [methsOK, Bool.and_eq_true] at h
    obtain ⟨⟨h1, h2⟩, h3⟩ := h
    unfold findM at hf
    cases hs : sameName nm name with
    | false => rw [hs] at hf; exact methsOK_get h3 hf
    | true =>
      rw [hs] at hf
      simp only [cond_true, Option.some.injEq] at hf
      subst hf
      have hn : nm = name := by simpa [sameName] using hs
      subst hn
      refine ⟨fun e he => by rw [he] at h1; exact Bool.noConfusion h1, ?_⟩
      split at h2
      · rename_i m hm
        simp only [Bool.and_eq_true] at h2
        obtain ⟨h4, h5⟩ := h2
        split at h5
        · rename_i g' hg
          refine ⟨m, hm, by simpa using h4, ?_⟩
          rw [hg, Nat.eq_of_beq_eq_true h5]
        · cases h5
      · cases h2

theorem run_method {t : TypeId} {i : TInfo} {ti : TypeInfo} {d : TypeDesc} {z : Value} (T : TypeIs P t i ti d z) {name : String} {n : FuncId} (hm : findM i.meths name = some n) (u : Value) (fuel : Nat) :
    (method (fuel + 1) t u name).run P w = .ok (n, u) w := by
  obtain ⟨hp, m, h1, h2, h3⟩ := methsOK_get T.meth hm
  have hu : (underlying t).run P w = .ok d w := run_underlying T.und w
  have hr : (receiverAt t (.val u) false (if m.path.isEmpty then some ((name.splitOn ".").getLastD name) else none)).run P w = .ok u w := by
    simp only [receiverAt, Sem.run_bind, hu, Result.andThen_ok]
    cases d <;> first | exact absurd rfl (hp _) | rfl
  simp only [method, Sem.run_bind, typeInfo, run_program, Result.andThen_ok, T.info, Sem.run_pure, h1, h2, follow, h3, hr]

theorem goes_answer {B0 : Bd} {g1 : Gh} {ws' : List Wr} {v : AV} {r : Value} (h3 : Rel B g1 (s.puts ws') w' a N) (hpm : ∀ i, s.toks i = .abs → (s.puts ws').toks i = .abs) (hd : ∀ t, o.dst = some t → t < N)
    (hB : BelowB B w w') (hmine : ∀ k, B0.mine k → B.mine k) (hfr : ∀ k, B0.mine k → Fresh g1 (s.puts ws') k) (hr : ResR B0 w' g1.pr v r) (he : (answer o.dst ws' v).Ev C Rd s ws)
    {K : Act → World → Prop} (hK : ∀ (g' : Gh) (a' : Act) (w' : World), Rel B g' (s.puts ws) w' a' N → BelowB B w w' → K a' w') : K (a.put o.dst r) w' := by
  have hplain : ∀ (he : (Pg.ret (ws' ++ wrd o.dst v)).Ev C Rd s ws), PV w' g1.pr v r → K (a.put o.dst r) w' := by
    intro he hpv
    have : ws = _ := he
    subst this
    refine hK g1 _ _ ?_ hB
    rw [S.puts_append]
    exact h3.wrd (VR_of_LR hpv.LR) hd
  by_cases hown : ∃ T l, v = .own T l
  · -- an own row
    obtain ⟨T, l, rfl⟩ := hown
    cases hdst : o.dst with
    | none => rw [hdst] at he; exact he.elim
    | some tt =>
    rw [hdst] at he
    obtain ⟨_, he⟩ := he
    obtain ⟨b, tg, ok, rfl, hblk, _⟩ := hr
    cases htk : s.toks (tokAt tt 0) with
    | dead => rw [htk] at he; exact he.elim
    | live _ _ _ => rw [htk] at he; exact he.elim
    | abs =>
      rw [htk] at he
      have : ws = _ := he
      subst this
      have habs : (s.puts ws').toks (tokAt tt 0) = .abs := hpm _ htk
      have hb := fun k (hk : tg.blk = some k) => ownC_block (v := .own T l) (u := tg.val) (B0 := B0) (w := w') (pr := g1.pr) ⟨tg, ok, rfl, rfl, fun k hk => by
        obtain ⟨_, r⟩ := ok
        rcases r with ⟨_, e, _⟩ | ⟨k', cap, _, e, r⟩
        · rw [hk] at e; cases e
        · rw [hk] at e; cases e
          obtain ⟨us, el, fr, r1, _⟩ := r.row
          exact (Array.getElem?_eq_some_iff.1 r1).1⟩ hk
      obtain ⟨h4, _⟩ := h3.newTok (sh := false) (T := T) (l := l) (tg := tg) habs (fun k hk => hfr k (hb k hk).1) (tokOK_keeps ok hmine (fun _ _ p => ⟨p, rfl⟩) fun k hk => (hb k hk).2)
      obtain ⟨q1, q3, q2, _⟩ := ok.reads.out
      have h5 := h4.tmp (t := tt) (v := .ref (tokAt tt 0)) (u := tg.val) ⟨tg, upd_same _ _ _, rfl, by rw [q2]; rfl⟩ (hd tt hdst)
      refine hK ?gg _ _ ?hh hB
      case hh => rw [S.puts_append]; exact h5
  by_cases htup : ∃ vs2, v = .tup vs2
  · -- several results
    obtain ⟨vs2, rfl⟩ := htup
    cases hdst : o.dst with
    | none => rw [hdst] at he; exact he.elim
    | some tt =>
    rw [hdst] at he
    obtain ⟨us, bs, rfl, l1, l2, hall, hinj⟩ := hr
    have hfb : ∀ k, k ∈ bs.filterMap id → Fresh g1 (s.puts ws') k ∧ ∀ o, ¬ g1.pr k o := by
      intro k hk
      have hk2 : some k ∈ bs := by simpa using hk
      obtain ⟨i, hi⟩ := List.getElem?_of_mem hk2
      have hlt : i < bs.length := (List.getElem?_eq_some_iff.1 hi).1
      have := ownC_block (hall i vs2[i] us[i] (some k) (by simp [show i < vs2.length by omega]) (by simp [show i < us.length by omega]) hi) rfl
      exact ⟨hfr k this.1, this.2⟩
    have hsame : ∀ i, 0 ≤ i → s.toks (tokAt tt i) = .abs → (s.puts ws').toks (tokAt tt i) = .abs := fun i _ e => hpm _ e
    obtain ⟨g2, ws2, vs3, rfl, h4, hvs3⟩ := answers_ev (B0 := B0) (vs0 := []) (us0 := []) h3 hsame l1 l2 hfb hmine hall hinj trivial he
    have h5 := h4.tmp (t := tt) (v := .tup vs3) (u := .tuple us.toArray) ⟨us, rfl, by simpa using hvs3⟩ (hd tt hdst)
    refine hK ?gg2 _ _ ?hh2 hB
    case hh2 => rw [S.puts_append]; exact h5
  · refine hplain ?_ ?_
    · cases v <;> first | exact he | exact absurd ⟨_, _, rfl⟩ hown | exact absurd ⟨_, rfl⟩ htup | (cases hdd : o.dst <;> rw [hdd] at he <;> exact he.elim)
    · cases v <;> first | (obtain ⟨b, q⟩ := hr; exact q.1) | exact absurd ⟨_, _, rfl⟩ hown | exact absurd ⟨_, rfl⟩ htup

theorem goes_enter {n : FuncId} {vargs : List AV} {us0 : List Value} {g1 : Gh} {ws' : List Wr} {v : AV} (hc0 : CallOK P n vargs v) (h2 : Rel B g1 (s.puts ws') w a N) (hpm : Promo s (s.puts ws')) (hd : ∀ t, o.dst = some t → t < N)
    (hargs : All2 (PV w g1.pr) vargs us0) (hex : HasBody P n → (execOp a.eval o).run P w = .ok (.enter n us0.toArray) w)
    (he : (answer o.dst ws' v).Ev C Rd s ws) : Goes P B N o s w a ws := by
  have hc : CallPlain P n vargs v := by
    rcases hc0 with h | ⟨_, _, r, c, _, rfl, _⟩ | ⟨_, _, r, c, _, rfl, _⟩
    · exact h.2
    · cases hd : o.dst <;> rw [hd] at he <;> exact he.elim
    · cases hd : o.dst <;> rw [hd] at he <;> exact he.elim
  obtain ⟨hfn, hcall⟩ := hc
  intro K Q hK
  unfold Oper.wp
  rw [hex hfn, Oper.upon_enter]
  refine (hcall w g1.pr _ h2.prlt h2.ex.gl hargs).mono ?_
  rintro e w' ⟨r, pr', rfl, hbel, hp1, hp2, hr⟩
  show K (a.put o.dst r) w'
  obtain ⟨h3, k3⟩ := h2.grow hbel.size (fun k hk => hbel.block k hk) hp1 hp2
  exact goes_answer (B0 := bd0 w.heap.size g1.pr) h3 (fun i e => by
    rcases hpm.toks i with e' | ⟨_, _, e', _⟩
    · rw [e', e]
    · rw [e] at e'; cases e') hd (.of (hbel.mono h2.hB)) (fun k hk => .inl (Nat.le_trans h2.hB (bd0_mine.1 hk))) (fun k hk => ⟨(h2.fresh (bd0_mine.1 hk)).β, (h2.fresh (bd0_mine.1 hk)).τ⟩) hr he hK

theorem goes_invoke (hT : TIok P TI) (hC : ∀ f args v, C f args v → CallOK P f args v) (h : Rel B g s w a N) (hd : ∀ t, o.dst = some t → t < N) {r : Operand} {name : String} {args : Array Operand} {ts : Array TypeId}
    (ho : o.op = .call { callee := .invoke r name, args := args, argTypes := ts }) {vs : List AV} (hv : All2 (VR w g) vs (args.toList.map a.eval))
    (he0 : (rdv r fun
      | .ifv t T x => tinf TI t fun i => match findM i.meths name with
        | some n => snaps vs [] fun vs ws => .call n (T.av x :: vs) fun v => answer o.dst ws v
        | none => .fail
      | _ => .fail).Ev C Rd s ws) : Goes P B N o s w a ws := by
  obtain ⟨p, hp, he⟩ := rdv_ev h he0
  clear he0
  cases p with
  | ifv t T x =>
    simp only [] at he
    unfold tinf at he
    cases hi : TI t with
    | none => rw [hi] at he; exact he.elim
    | some i =>
      rw [hi] at he
      simp only [] at he
      obtain ⟨ti, d, z, TT⟩ := hT.get hi
      cases hm : findM i.meths name with
      | none => rw [hm] at he; exact he.elim
      | some n =>
        rw [hm] at he
        simp only [] at he
        obtain ⟨vs', ws', g1, he, hpm, h2, hk, hv2⟩ := snaps_ev (Promo.refl s) (by simpa [S.puts] using h) hv he
        obtain ⟨v, hc, he⟩ := he
        have hp' : TR w g1.pr (.ifc t T) x [a.eval r] := TR.keeps hk.pr hp
        obtain ⟨u, us, e1, e2, e3⟩ := hp'
        have e1 : a.eval r = .iface t u := by simpa using e1
        have hpv : PV w g1.pr (T.av x) u := by
          cases hst : T.isSt with
          | true =>
            rw [hst] at e2
            refine .inr ⟨T.cells x, us, ?_, e2, cells_PR e3⟩
            unfold Ty.av; simp only [hst]
          | false =>
            rw [hst] at e2
            have e2 : us = [u] := e2
            subst e2
            have := cells_PR e3
            have hl := this.len
            cases hcc : T.cells x with
            | nil => rw [hcc] at hl; simp at hl
            | cons c cs =>
              rw [hcc] at this
              left
              unfold Ty.av
              simp only [hst, hcc, List.headD_cons]
              exact this.1
        exact goes_enter (hC _ _ _ hc) h2 hpm hd (vargs := T.av x :: vs') (us0 := u :: args.toList.map a.eval) ⟨hpv, hv2⟩ (fun ⟨fn, f1, f2, f3⟩ => by
          have e0 : (#[Value.iface t u] ++ args.map a.eval)[0]? = some (.iface t u) := by rw [Array.getElem?_append_left (by simp)]; rfl
          have e4 : (#[Value.iface t u] ++ args.map a.eval).extract 1 (#[Value.iface t u] ++ args.map a.eval).size = args.map a.eval := by apply Array.ext'; simp; rw [List.take_of_length_le (by simp)]
          obtain ⟨k, hk⟩ : ∃ k, P.types.size + Made.depth = k + 1 := ⟨P.types.size + 99, rfl⟩
          have hme := run_method (P := P) (w := w) TT hm u k
          have hcm : (callMethod (.iface t u) name (args.map a.eval)).run P w = .ok (.enter n (u :: args.toList.map a.eval).toArray) w := by
            simp only [callMethod, Sem.run_bind, run_program, Result.andThen_ok, hk, hme, callFunc, f1, f2, f3, Bool.false_eq_true, if_false, Sem.run_ite, Sem.run_pure]
            congr 2
            apply Array.ext'
            simp
          simp only [execOp, ho, resolve, e1, Sem.run_bind, Sem.run_pure, Result.andThen_ok, invoke, e0, e4, hcm]) he
  | _ => exact he.elim

end
end Go.Proofs.Ytjgnpmdbkgeakaa.Th
set_option linter.unusedVariables false
set_option linter.unusedSimpArgs false
namespace Go.Proofs.Ytjgnpmdbkgeakaa.Th
open Go Go.RowKit

section
variable {P : Program} {TI : TEnv} {C : FuncId → List AV → AV → Prop} {Rd : Rs → Prop} {B : Bd} {N : Nat} {g g' : Gh} {s : S} {w w' : World} {a : Act} {o : Oper} {ws : List Wr}

theorem Rel.lendBack (h : Rel B g s w a N) {b kb : Nat} {cs cs' : List AV} (hb : s.boxes b = some cs) (hβ : g.β b = some kb) (hno : ∀ o, ¬ g.pr kb o) {own : List (Option Nat)} (hf : ∀ k, some k ∈ own → Fresh g s k ∧ B.mine k ∧ ∀ o, ¬ g.pr k o)
    (hbel : BelowB (bdL w.heap.size g.pr kb own) w w') {pr' : Nat → Nat → Prop} (hp : ∀ k o, ¬ (bdL w.heap.size g.pr kb own).mine k → (pr' k o ↔ g.pr k o)) (hlt : ∀ k o, pr' k o → k < w'.heap.size) (hkb : ∀ o, ¬ pr' kb o)
    {us : Array Value} {e : TypeId} {fr : Nat × Nat} (hr : w'.heap[kb]? = some (.cells us e fr)) (ht : Thawed fr us.size) (hc : All2 (LR w' { g with pr := pr' }) cs' us.toList) :
    Rel B { g with pr := pr' } (s.put (.box b cs')) w' a N ∧ Keeps w g w' { g with pr := pr' } := by
  obtain ⟨k0, e0, ok⟩ := h.bx b cs hb
  rw [hβ] at e0; cases e0
  have hnm : ∀ k, k < w.heap.size → k ≠ kb → (∀ q, some q ∈ own → q ≠ k) → ¬ (bdL w.heap.size g.pr kb own).mine k := by
    rintro k h1 h2 h3 (h4 | h4 | h4)
    · have : w.heap.size ≤ k := h4; omega
    · exact h2 h4
    · exact h3 k h4 rfl
  have hnp : ∀ k o, g.pr k o → ¬ (bdL w.heap.size g.pr kb own).mine k := fun k o p =>
    hnm k (h.prlt k o p) (fun e => hno o (e ▸ p)) (fun q hq e => (hf q hq).2.2 o (e ▸ p))
  have hk : Keeps w g w' { g with pr := pr' } :=
    ⟨fun k o p => ⟨(hp k o (hnp k o p)).2 p, cell_heap (hbel.block k (hnp k o p)) o⟩, fun _ _ x => x, fun _ _ x => x⟩
  have lt_of : ∀ {k : Nat} {o : Obj}, w.heap[k]? = some o → k < w.heap.size := fun e => (Array.getElem?_eq_some_iff.1 e).1
  refine ⟨⟨h.df, h.nt, Nat.le_trans h.hB hbel.size, fun t => (h.tm t).keeps hk, hlt, ?_, ?_, h.binj, h.tk0, ?_, h.tinj, h.tbx, ?_, h.ex.keep hk (fun b' hb' => ?_)⟩, hk⟩
  · intro b' e'
    by_cases eb : b' = b
    · subst eb; simp [S.put, upd_same] at e'
    · simp only [S.put, upd_ne _ _ _ _ eb] at e'; exact h.bx0 b' e'
  · intro b' cs2 hb'
    by_cases eb : b' = b
    · subst eb
      simp only [S.put, upd_same] at hb'; cases hb'
      exact ⟨kb, hβ, ok.above, fun o p => absurd p (hkb o), us, e, fr, hr, ht, hc⟩
    · simp only [S.put, upd_ne _ _ _ _ eb] at hb'
      obtain ⟨i, ei, ab, free, us2, el, f, r1, r2, r3⟩ := h.bx b' cs2 hb'
      have hn := hnm i (lt_of r1) (fun e' => eb (h.binj b' b kb (by rw [ei, e']) hβ)) (fun q hq e' => (hf q hq).1.β b' (by rw [ei, e']))
      exact ⟨i, ei, ab, fun o p => free o ((hp i o hn).1 p), us2, el, f, (hbel.block i hn).trans r1, r2, r3.imp fun _ _ => LR.keeps hk⟩
  · intro t sh T l hts
    have hts' : s.toks t = .live sh T l := hts
    obtain ⟨tg, et, ez, r⟩ := h.tk t sh T l hts'
    refine ⟨tg, et, ez, r.imp id ?_⟩
    rintro ⟨i, cap, a1, a2, a3⟩
    have hl : (s.toks t).isLive = true := by rw [hts']; rfl
    obtain ⟨us2, el, f, r1, r2, r3, r4⟩ := a3.row
    have hn := hnm i (lt_of r1) (fun e' => h.tbx t tg kb b hl et (by rw [a2, e']) hβ) (fun q hq e' => (hf q hq).1.τ t tg hl et (by rw [a2, e']))
    exact ⟨i, cap, a1, a2, a3.above, a3.len, ⟨us2, el, f, (hbel.block i hn).trans r1, r2, r3, r4.keeps hk.pr⟩, fun o p => a3.prlt o ((hp i o hn).1 p), fun e o p => (hp i o hn).2 (a3.prsh e o p), fun e o p => a3.prno e o ((hp i o hn).1 p)⟩
  · intro k o hm
    have hn := hnm k (Nat.lt_of_lt_of_le (Bd.mine_lt hm) h.hB) (fun e => hm (e ▸ ok.above)) (fun q hq e => hm (e ▸ (hf q hq).2.1))
    exact (hp k o hn).trans (h.prB k o hm)
  · by_cases eb : b' = b
    · rw [eb, hb]; simp
    · simpa [S.put, upd_ne _ _ _ _ eb] using hb'

theorem lendArgs_ev {b : Nat} : ∀ {vs : List AV} {us : List Value} {ws W : List Wr} {k : List AV → List Wr → Pg} {g : Gh}, Promo s (s.puts ws) → Rel B g (s.puts ws) w a N → All2 (VR w g) vs us →
    (lendArgs b vs ws k).Ev C Rd s W → ∃ vs' ws' g', (k vs' ws').Ev C Rd s W ∧ Promo s (s.puts ws') ∧ Rel B g' (s.puts ws') w a N ∧ Keeps w g w g' ∧ All2 (fun v u => (∃ off kb, v = .ptr lentBox off ∧ g'.β b = some kb ∧ u = .pointer (some ⟨kb, off, none⟩)) ∨ PV w g'.pr v u) vs' us
  | [], [], ws, W, k, g, hp, h, _, he => ⟨[], ws, g, he, hp, h, Keeps.refl _ _, trivial⟩
  | v :: vs, u :: us, ws, W, k, g, hp, h, hv, he => by
    by_cases hptr : ∃ b' off, v = .ptr b' off
    · obtain ⟨b', off, rfl⟩ := hptr
      simp only [lendArgs] at he
      obtain ⟨hbb, he⟩ := he
      have := Nat.eq_of_beq_eq_true hbb
      subst this
      obtain ⟨kb, hβ, hu⟩ := hv.1
      obtain ⟨vs', ws2, g2, he, hp2, h2, hk2, hv2⟩ := lendArgs_ev hp h hv.2 he
      exact ⟨_, ws2, g2, he, hp2, h2, hk2, .inl ⟨off, kb, rfl, hk2.β _ _ hβ, hu⟩, hv2⟩
    · have he' : (snap1 v ws fun v' ws' => lendArgs b vs ws' fun vs' ws'' => k (v' :: vs') ws'').Ev C Rd s W := by
        cases v <;> first | exact he | exact absurd ⟨_, _, rfl⟩ hptr
      obtain ⟨v', ws1, g1, he, hp1, h1, hk1, hv1⟩ := snap1_ev hp h hv.1 he'
      obtain ⟨vs', ws2, g2, he, hp2, h2, hk2, hv2⟩ := lendArgs_ev hp1 h1 (hv.2.imp fun _ _ => VR.keeps hk1) he
      exact ⟨v' :: vs', ws2, g2, he, hp2, h2, hk1.trans hk2, .inr (hv1.keeps hk2.pr), hv2⟩
  | [], _ :: _, _, _, _, _, _, _, hv, _ => hv.elim
  | _ :: _, [], _, _, _, _, _, _, hv, _ => hv.elim

theorem ownC_plain {B0 : Bd} {pr : Nat → Nat → Prop} {v : AV} {u : Value} (h : PR w pr v u) : OwnC B0 w pr v u none := by
  cases v <;> first | exact ⟨.inl h, rfl⟩ | exact h.elim

theorem LR_plain {v : AV} {u : Value} (hp : isPlainCell v = true) (h : LR w g v u) : PR w g.pr v u := by
  cases v <;> first | exact h | (simp [isPlainCell] at hp)

theorem lendCells_ev : ∀ {cs : List AV} {us : List Value} {ws W : List Wr} {k : List AV → List Wr → Pg}, Rel B g (s.puts ws) w a N → All2 (LR w g) cs us →
    (lendCells cs ws k).Ev C Rd s W → ∃ (cs' : List AV) (ws' : List Wr) (own : List (Option Nat)), (k cs' ws').Ev C Rd s W ∧ Rel B g (s.puts ws') w a N ∧ (s.puts ws').boxes = (s.puts ws).boxes ∧ cs'.length = us.length ∧ own.length = us.length ∧
      (∀ (i : Nat) (x : AV) (u : Value) (q : Option Nat), cs'[i]? = some x → us[i]? = some u → own[i]? = some q → OwnC B w g.pr x u q) ∧
      (∀ (i j k : Nat), own[i]? = some (some k) → own[j]? = some (some k) → i = j) ∧ (∀ k, some k ∈ own → Fresh g (s.puts ws') k ∧ B.mine k ∧ (∀ o, ¬ g.pr k o) ∧ ∃ t tg, ((s.puts ws).toks t).isLive = true ∧ g.τ t = some tg ∧ tg.blk = some k) ∧
      (∀ t, (s.puts ws').toks t = (s.puts ws).toks t ∨ ((s.puts ws).toks t ≠ .abs ∧ (s.puts ws').toks t = .dead)) ∧
      (∀ (i t : Nat), cs[i]? = some (.ref t) → ∀ (T : Ty) (l : List T.den), s.toks t = .live false T l → (s.puts ws').toks t = .dead ∧ ∀ tg, g.τ t = some tg → own[i]? = some tg.blk) ∧ (∀ (i : Nat) (v : AV), cs[i]? ≠ some (.fz v))
  | [], [], ws, W, k, h, _, he => ⟨[], ws, [], he, h, rfl, rfl, rfl, (fun i x u q h => by simp at h), (fun i j k h => by simp at h), (fun k h => by simp at h), (fun _ => .inl rfl), (fun i t h => by simp at h), fun i v h => by simp at h⟩
  | v :: cs, u :: us, ws, W, k, h, hv, he => by
    by_cases href : ∃ t, v = .ref t
    · obtain ⟨t, rfl⟩ := href
      simp only [lendCells] at he
      obtain ⟨_, he⟩ := he
      cases ht : s.toks t with
      | abs => rw [ht] at he; exact he.elim
      | dead => rw [ht] at he; exact he.elim
      | live sh T l =>
        rw [ht] at he
        obtain ⟨htc, he⟩ := he
        have htc : touches t ws = false := by simpa using htc
        have hlive : (s.puts ws).toks t = .live sh T l := by rw [touches_toks htc, ht]
        obtain ⟨tg, hτ, hu, hone⟩ := hv.1
        cases sh with
        | true =>
          simp only [] at he
          obtain ⟨tg', e1, e2⟩ := h.shared hlive
          rw [hτ] at e1; cases e1
          obtain ⟨cs', ws', own, he, h2, hbx, l1, l2, p1, p2, p3, p4, p5, p6⟩ := lendCells_ev h hv.2 he
          refine ⟨.sl T l :: cs', ws', none :: own, he, h2, hbx, by simp [l1], by simp [l2], ?_, ?_, ?_, p4, fun i t' hi T' l' ht' => ?_, fun i v' hv' => ?_⟩
          · intro i x u' q hx hu' hq
            cases i with
            | zero => simp at hx hu' hq; subst hx hu' hq; exact ⟨.inl (by rw [hu]; exact e2), rfl⟩
            | succ i => exact p1 i x u' q (by simpa using hx) (by simpa using hu') (by simpa using hq)
          · intro i j k' hi hj
            cases i with
            | zero => simp at hi
            | succ i => cases j with
              | zero => simp at hj
              | succ j => rw [p2 i j k' (by simpa using hi) (by simpa using hj)]
          · intro k' hk'
            exact p3 k' (by simpa using hk')
          · cases i with
            | zero =>
              simp only [List.getElem?_cons_zero, Option.some.injEq, AV.ref.injEq] at hi
              subst hi
              rw [ht] at ht'; cases ht'
            | succ i => exact p5 i t' (by simpa using hi) T' l' ht'
          · cases i with
            | zero => simp at hv'
            | succ i => exact p6 i v' (by simpa using hv')
        | false =>
          simp only [] at he
          obtain ⟨tg', e1, hok⟩ := h.tk t false T l hlive
          rw [hτ] at e1; cases e1
          have hkill := h.kill t (by rw [hlive]; simp)
          obtain ⟨cs', ws', own, he, h2, hbx, l1, l2, p1, p2, p3, p4, p5, p6⟩ := lendCells_ev (ws := ws ++ [.tok t .dead]) (by rw [S.puts_one]; exact hkill) hv.2 he
          have hdead : ∀ i, ((s.puts (ws ++ [.tok t .dead])).toks i).isLive = true → i ≠ t ∧ ((s.puts ws).toks i).isLive = true := by
            intro i hi
            rw [S.puts_one] at hi
            by_cases e : i = t
            · subst e; simp [S.put, upd_same, Tok.isLive] at hi
            · simp only [S.put, upd_ne _ _ _ _ e] at hi; exact ⟨e, hi⟩
          have hlv : ((s.puts ws).toks t).isLive = true := by rw [hlive]; rfl
          have hf0 : ∀ k', tg.blk = some k' → Fresh g (s.puts (ws ++ [.tok t .dead])) k' := by
            intro k' hk'
            refine ⟨fun b' e' => h.tbx t tg k' b' hlv hτ hk' e', fun i tgi hi ei hbi => ?_⟩
            obtain ⟨hne, hi'⟩ := hdead i hi
            exact hne (h.tinj i t tgi tg k' hi' hlv ei hτ hbi hk')
          have hmine : ∀ k', tg.blk = some k' → B.mine k' ∧ (∀ o, ¬ g.pr k' o) ∧ k' < w.heap.size := by
            intro k' hk'
            obtain ⟨_, r⟩ := hok
            rcases r with ⟨_, e, _⟩ | ⟨k2, cap, _, e, r⟩
            · rw [hk'] at e; cases e
            · rw [hk'] at e; cases e
              obtain ⟨us2, el, fr, r1, _⟩ := r.row
              exact ⟨r.above, r.prno rfl, (Array.getElem?_eq_some_iff.1 r1).1⟩
          refine ⟨.own T l :: cs', ws', tg.blk :: own, he, h2, hbx.trans (by rw [S.puts_one]; rfl), by simp [l1], by simp [l2], ?_, ?_, ?_, ?_, fun i t' hi T' l' ht' => ?_, fun i v' hv' => ?_⟩
          · intro i x u' q hx hu' hq
            cases i with
            | zero =>
              simp at hx hu' hq; subst hx hu' hq
              exact ⟨tg, hok, hu, rfl, fun k' hk' => (hmine k' hk').2.2⟩
            | succ i => exact p1 i x u' q (by simpa using hx) (by simpa using hu') (by simpa using hq)
          · intro i j k' hi hj
            have hno : ∀ j : Nat, tg.blk = some k' → own[j]? = some (some k') → False := by
              intro j h1 h2
              obtain ⟨_, _, _, t2, tg2, q1, q2, q3⟩ := p3 k' (List.mem_of_getElem? h2)
              exact (hf0 k' h1).τ t2 tg2 q1 q2 q3
            cases i with
            | zero => cases j with
              | zero => rfl
              | succ j => exact (hno j (by simpa using hi) (by simpa using hj)).elim
            | succ i => cases j with
              | zero => exact (hno i (by simpa using hj) (by simpa using hi)).elim
              | succ j => rw [p2 i j k' (by simpa using hi) (by simpa using hj)]
          · intro k' hk'
            rcases List.mem_cons.1 hk' with e | e
            · have hblk : tg.blk = some k' := e.symm
              obtain ⟨m1, m2, m3⟩ := hmine k' hblk
              refine ⟨⟨(hf0 k' hblk).β, fun i tgi hi ei hbi => ?_⟩, m1, m2, t, tg, hlv, hτ, hblk⟩
              rcases p4 i with e5 | ⟨_, e5⟩
              · rw [e5] at hi; exact (hf0 k' hblk).τ i tgi hi ei hbi
              · rw [e5] at hi; cases hi
            · obtain ⟨q1, q2, q3, t2, tg2, q4, q5, q6⟩ := p3 k' e
              exact ⟨q1, q2, q3, t2, tg2, (hdead t2 q4).2, q5, q6⟩
          · intro i
            by_cases e : i = t
            · subst e
              right
              refine ⟨by rw [hlive]; simp, ?_⟩
              rcases p4 i with e5 | ⟨_, e5⟩
              · rw [e5, S.puts_one]; simp [S.put, upd_same]
              · exact e5
            · have e6 : (s.puts (ws ++ [.tok t .dead])).toks i = (s.puts ws).toks i := by rw [S.puts_one]; simp only [S.put, upd_ne _ _ _ _ e]
              have := p4 i
              rw [e6] at this; exact this
          · cases i with
            | zero =>
              simp only [List.getElem?_cons_zero, Option.some.injEq, AV.ref.injEq] at hi
              subst hi
              refine ⟨?_, fun tg' e' => ?_⟩
              · rcases p4 t with e5 | ⟨_, e5⟩
                · rw [e5, S.puts_one]; simp [S.put, upd_same]
                · exact e5
              · rw [hτ] at e'; cases e'; rfl
            | succ i => exact p5 i t' (by simpa using hi) T' l' ht'
          · cases i with
            | zero => simp at hv'
            | succ i => exact p6 i v' (by simpa using hv')
    · have he' : (match isPlainCell v with
        | true => lendCells cs ws fun cs' ws' => k (v :: cs') ws'
        | false => .fail).Ev C Rd s W := by
        cases v <;> first | exact he | exact absurd ⟨_, rfl⟩ href
      cases hpl : isPlainCell v with
      | false => rw [hpl] at he'; exact he'.elim
      | true =>
        rw [hpl] at he'
        obtain ⟨cs', ws', own, he, h2, hbx, l1, l2, p1, p2, p3, p4, p5, p6⟩ := lendCells_ev h hv.2 he'
        refine ⟨v :: cs', ws', none :: own, he, h2, hbx, by simp [l1], by simp [l2], ?_, ?_, ?_, p4, fun i t' hi T' l' ht' => ?_, fun i v' hv' => ?_⟩
        · intro i x u' q hx hu' hq
          cases i with
          | zero => simp at hx hu' hq; subst hx hu' hq; exact ownC_plain (LR_plain hpl hv.1)
          | succ i => exact p1 i x u' q (by simpa using hx) (by simpa using hu') (by simpa using hq)
        · intro i j k' hi hj
          cases i with
          | zero => simp at hi
          | succ i => cases j with
            | zero => simp at hj
            | succ j => rw [p2 i j k' (by simpa using hi) (by simpa using hj)]
        · intro k' hk'
          exact p3 k' (by simpa using hk')
        · cases i with
          | zero =>
            simp only [List.getElem?_cons_zero, Option.some.injEq] at hi
            exact absurd ⟨_, hi⟩ href
          | succ i => exact p5 i t' (by simpa using hi) T' l' ht'
        · cases i with
          | zero =>
            simp only [List.getElem?_cons_zero, Option.some.injEq] at hv'
            rw [hv'] at hpl; cases hpl
          | succ i => exact p6 i v' (by simpa using hv')
  | [], _ :: _, _, _, _, _, hv, _ => hv.elim
  | _ :: _, [], _, _, _, _, hv, _ => hv.elim

theorem backCells_ev {d : Nat} {B0 : Bd} : ∀ {cs : List AV} {us : List Value} {own : List (Option Nat)} {j : Nat} {ws0 W : List Wr} {k : List AV → List Wr → Pg} {g : Gh}, Rel B g (s.puts ws0) w a N → (∀ i, j ≤ i → s.toks (tokL d i) = .abs → (s.puts ws0).toks (tokL d i) = .abs) →
    cs.length = us.length → own.length = us.length → (∀ k, some k ∈ own → Fresh g (s.puts ws0) k ∧ ∀ o, ¬ g.pr k o) → (∀ k, B0.mine k → B.mine k) →
    (∀ (i : Nat) (x : AV) (u : Value) (b : Option Nat), cs[i]? = some x → us[i]? = some u → own[i]? = some b → OwnC B0 w g.pr x u b) → (∀ (i i' k : Nat), own[i]? = some (some k) → own[i']? = some (some k) → i = i') →
    (backCells d cs j ws0 k).Ev C Rd s W → ∃ g' ws' cs', (k cs' ws').Ev C Rd s W ∧ Rel B g' (s.puts ws') w a N ∧ Keeps w g w g' ∧ All2 (LR w g') cs' us ∧ (s.puts ws').boxes = (s.puts ws0).boxes := by
  intro cs
  induction cs with
  | nil =>
    intro us own j ws0 W k g h ht hl hb hf hB ho hi he
    have hu : us = [] := List.eq_nil_of_length_eq_zero (by simpa using hl.symm)
    subst hu
    exact ⟨g, ws0, [], he, h, Keeps.refl _ _, trivial, rfl⟩
  | cons v cs ih =>
    intro us own j ws0 W k g h ht hl hb hf hB ho hi he
    cases us with
    | nil => simp at hl
    | cons u us =>
      cases own with
      | nil => simp at hb
      | cons b own =>
        have h0 := ho 0 v u b rfl rfl rfl
        have hi' : ∀ (i i' k : Nat), own[i]? = some (some k) → own[i']? = some (some k) → i = i' := fun i i' k e e' => by
          have := hi (i + 1) (i' + 1) k (by simpa using e) (by simpa using e'); omega
        by_cases hown : ∃ T l, v = .own T l
        · obtain ⟨T, l, rfl⟩ := hown
          simp only [backCells] at he
          obtain ⟨_, he⟩ := he
          obtain ⟨tg, ok, rfl, hblk, hlt⟩ := h0
          cases htk : s.toks (tokL d j) with
          | dead => rw [htk] at he; exact he.elim
          | live _ _ _ => rw [htk] at he; exact he.elim
          | abs =>
            rw [htk] at he
            have habs : (s.puts ws0).toks (tokL d j) = .abs := ht j (Nat.le_refl _) htk
            have hfb : ∀ k, tg.blk = some k → Fresh g (s.puts ws0) k ∧ ∀ o, ¬ g.pr k o := by
              intro k hk
              exact hf k (by rw [← hblk, hk]; simp)
            obtain ⟨h2, k2⟩ := h.newTok (sh := false) (T := T) (l := l) (tg := tg) habs (fun k hk => (hfb k hk).1) (tokOK_keeps ok hB (fun _ _ p => ⟨p, rfl⟩) fun k hk => (hfb k hk).2)
            obtain ⟨q1, _, q2, _⟩ := ok.reads.out
            have hone : tg.val.oneCell' = true := by rw [q2]; rfl
            obtain ⟨g', ws', cs', r1, r2, r3, r4, r5⟩ := ih (g := { g with τ := upd g.τ (tokL d j) (some tg) }) (us := us) (own := own) (j := j + 1) (ws0 := ws0 ++ [.tok (tokL d j) (.live false T l)]) (by rw [S.puts_one]; exact h2) (by
                intro i hi hti
                rw [S.puts_one]
                have e : tokL d i ≠ tokL d j := by unfold tokL; omega
                simp only [S.put, upd_ne _ _ _ _ e]
                exact ht i (by omega) hti) (by simpa using hl) (by simpa using hb) (by
                intro k hk
                obtain ⟨f1, f2⟩ := hf k (List.mem_cons_of_mem _ hk)
                refine ⟨⟨f1.β, fun t tg' hl' e' hb' => ?_⟩, f2⟩
                rw [S.puts_one] at hl'
                by_cases e : t = tokL d j
                · subst e
                  simp only [upd_same] at e'; cases e'
                  obtain ⟨i, hi0⟩ := List.getElem?_of_mem hk
                  have := hi 0 (i + 1) k (by simp [← hblk, hb']) (by simpa using hi0)
                  omega
                · simp only [S.put, upd_ne _ _ _ _ e] at hl' e'
                  exact f1.τ t tg' hl' e' hb') hB
              (fun i x u' b' hx hu' hb' => ho (i + 1) x u' b' (by simpa using hx) (by simpa using hu') (by simpa using hb')) hi' he
            exact ⟨g', ws', _, r1, r2, k2.trans r3, ⟨⟨tg, r3.τ _ _ (upd_same _ _ _), rfl, hone⟩, r4⟩, by rw [r5, S.puts_one]; rfl⟩
        · have hpv : PV w g.pr v u ∧ b = none := by
            cases v <;> first | exact h0 | exact absurd ⟨_, _, rfl⟩ hown
          have he2 : (match isPlainCell v with
            | true => backCells d cs (j + 1) ws0 fun cs' ws' => k (v :: cs') ws'
            | false => .fail).Ev C Rd s W := by
            cases v <;> first | exact he | exact absurd ⟨_, _, rfl⟩ hown
          cases hpl : isPlainCell v with
          | false => rw [hpl] at he2; exact he2.elim
          | true =>
            rw [hpl] at he2
            obtain ⟨g', ws', cs', r1, r2, r3, r4, r5⟩ := ih (us := us) (own := own) (j := j + 1) (ws0 := ws0) h (fun i hi => ht i (by omega)) (by simpa using hl) (by simpa using hb)
              (fun k hk => hf k (List.mem_cons_of_mem _ hk)) hB
              (fun i x u' b' hx hu' hb' => ho (i + 1) x u' b' (by simpa using hx) (by simpa using hu') (by simpa using hb')) hi' he2
            exact ⟨g', ws', _, r1, r2, r3, ⟨(hpv.1.keeps r3.pr).LR, r4⟩, r5⟩

theorem backV1_LR {b kb : Nat} {v r : AV} {u : Value} (h : backV1 b v = some r) (hβ : g.β b = some kb) (hv : ARg w g.pr kb v u) : LR w g r u := by
  by_cases hptr : ∃ b' off, v = .ptr b' off
  · obtain ⟨b', off, rfl⟩ := hptr
    rcases hv with ⟨off', e, rfl⟩ | hv
    · cases e
      simp only [backV1, beq_self, cond_true, Option.some.injEq] at h
      subst h
      exact ⟨kb, hβ, rfl⟩
    · rcases hv with hv | ⟨_, _, e, _⟩
      · exact hv.elim
      · cases e
  · have hpv : PV w g.pr v u := by
      rcases hv with ⟨off', e, _⟩ | hv
      · exact absurd ⟨_, _, e⟩ hptr
      · exact hv
    have : r = v := by
      cases v with
      | agg cs =>
        simp only [backV1] at h
        cases hc : cs.all isPlainCell <;> rw [hc] at h <;> cases h; rfl
      | ptr b' off => exact absurd ⟨_, _, rfl⟩ hptr
      | _ => simp [backV1, isPlainCell] at h <;> exact h.symm
    rw [this]; exact hpv.LR

theorem backVs_LR {b kb : Nat} (hβ : g.β b = some kb) : ∀ {vs rs : List AV} {us : List Value}, backVs b vs = some rs → All2 (ARg w g.pr kb) vs us → All2 (LR w g) rs us
  | [], rs, [], h, _ => by simp [backVs] at h; subst h; trivial
  | v :: vs, rs, u :: us, h, hv => by
    unfold backVs at h
    cases h1 : backV1 b v with
    | none => rw [h1] at h; simp at h
    | some r =>
      cases h2 : backVs b vs with
      | none => rw [h1, h2] at h; simp at h
      | some rs' =>
        rw [h1, h2] at h
        simp only [Option.some.injEq] at h
        subst h
        exact ⟨backV1_LR h1 hβ hv.1, backVs_LR hβ h2 hv.2⟩
  | [], _, _ :: _, _, hv => hv.elim
  | _ :: _, _, [], _, hv => hv.elim

theorem backV_VR {b kb : Nat} {v r : AV} {u : Value} (h : backV b v = some r) (hβ : g.β b = some kb) (hv : RetL w g.pr kb v u) : VR w g r u := by
  by_cases htup : ∃ vs, v = .tup vs
  · obtain ⟨vs, rfl⟩ := htup
    obtain ⟨us, rfl, hv⟩ := hv
    have h : (match backVs b vs with
      | some vs' => some (AV.tup vs')
      | none => none) = some r := h
    cases h1 : backVs b vs with
    | none => rw [h1] at h; simp at h
    | some rs =>
      rw [h1] at h
      simp only [Option.some.injEq] at h
      subst h
      exact ⟨us, rfl, backVs_LR hβ h1 hv⟩
  · have h' : backV1 b v = some r := by
      cases v <;> first | exact h | exact absurd ⟨_, rfl⟩ htup
    have hv' : ARg w g.pr kb v u := by
      cases v <;> first | exact hv | exact absurd ⟨_, rfl⟩ htup
    exact VR_of_LR (backV1_LR h' hβ hv')

theorem blanks_LR {B0 : Bd} {cs : List AV} {us : List Value} {own : List (Option Nat)} (hl : cs.length = us.length) (hb : own.length = us.length)
    (ho : ∀ (i : Nat) (x : AV) (u : Value) (b : Option Nat), cs[i]? = some x → us[i]? = some u → own[i]? = some b → OwnC B0 w g.pr x u b) : All2 (LR w g) (blanks cs) us := by
  refine All2.of_get (by simp [blanks, hl]) fun i x u hx hu => ?_
  simp only [blanks, List.getElem?_map] at hx
  cases hc : cs[i]? with
  | none => rw [hc] at hx; cases hx
  | some v =>
    rw [hc] at hx
    simp only [Option.map_some, Option.some.injEq] at hx
    subst hx
    have hi : i < own.length := by rw [hb]; exact (List.getElem?_eq_some_iff.1 hu).1
    have h0 := ho i v u own[i] hc hu (by simp [hi])
    by_cases hown : ∃ T l, v = .own T l
    · obtain ⟨T, l, rfl⟩ := hown; trivial
    · have hpv : PV w g.pr v u := by
        cases v <;> first | exact h0.1 | exact absurd ⟨_, _, rfl⟩ hown
      have : blank v = v := by cases v <;> first | rfl | exact absurd ⟨_, _, rfl⟩ hown
      rw [this]; exact hpv.LR

theorem blanks_nofz {B0 : Bd} {pr : Nat → Nat → Prop} {cs : List AV} {us : List Value} {own : List (Option Nat)} (hl : cs.length = us.length) (hb : own.length = us.length)
    (ho : ∀ (i : Nat) (x : AV) (u : Value) (b : Option Nat), cs[i]? = some x → us[i]? = some u → own[i]? = some b → OwnC B0 w pr x u b) : ∀ (i : Nat) (v : AV), (blanks cs)[i]? ≠ some (.fz v) := by
  intro i v hx
  simp only [blanks, List.getElem?_map] at hx
  cases hc : cs[i]? with
  | none => rw [hc] at hx; cases hx
  | some x =>
    rw [hc] at hx
    simp only [Option.map_some, Option.some.injEq] at hx
    have hi : i < cs.length := (List.getElem?_eq_some_iff.1 hc).1
    have h0 := ho i x us[i] own[i] hc (by simp [show i < us.length by omega]) (by simp [show i < own.length by omega])
    cases x with
    | fz c => rcases h0.1 with h | ⟨_, _, e, _⟩ <;> first | exact h.elim | cases e
    | _ => cases hx

theorem goes_lend (hC : ∀ f args v, C f args v → CallOK P f args v) (h : Rel B g s w a N) (hd : ∀ t, o.dst = some t → t < N) {n : FuncId} {b : Nat} {vs cap : List AV} {us cu : List Value} (hv : All2 (VR w g) vs us) (hcap : All2 (PR w g.pr) cap cu)
    (hex : HasBody P n → (execOp a.eval o).run P w = .ok (.enter n (us ++ cu).toArray) w)
    (he0 : (lendArgs b vs [] fun vs ws => .box b fun
      | some cs => lendCells cs ws fun cs' ws' => .call n (vs ++ cap ++ [.lent cs']) fun v => lendTo o.dst b ws' v
      | none => .fail).Ev C Rd s ws) : Goes P B N o s w a ws := by
  obtain ⟨vs', ws1, g1, he, hpm, h1, hk1, hv1⟩ := lendArgs_ev (Promo.refl s) (by simpa [S.puts] using h) hv he0
  clear he0
  obtain ⟨_, he⟩ := he
  cases hbx : s.boxes b with
  | none => rw [hbx] at he; exact he.elim
  | some cs =>
    rw [hbx] at he
    have hbx1 : (s.puts ws1).boxes b = some cs := by rw [hpm.boxes]; exact hbx
    obtain ⟨kb, hβ, ok⟩ := h1.bx b cs hbx1
    obtain ⟨cus, el, fr, r1, r2, r3⟩ := ok.row
    obtain ⟨cs1, ws2, own, he, h2, hbx2, l1, l2, p1, p2, p3, p4, p5, p6⟩ := lendCells_ev h1 r3 he
    obtain ⟨v, hc, he⟩ := he
    -- the call's answer
    rcases hC _ _ _ hc with ⟨hnb, _⟩ | ⟨vs0, cs0, r, cs2, e1, rfl, hfn, hcall⟩ | ⟨_, _, r, bk, _, rfl, _⟩
    · have : ∀ v : AV, v.isBack = false → (lendTo o.dst b ws2 v).Ev C Rd s ws → False := by
        intro v hv hh
        unfold lendTo at hh
        split at hh
        · simp [AV.isBack] at hv
        · exact hh
      exact (this _ hnb he).elim
    rotate_left
    · unfold lendTo at he
      cases hdst : o.dst with
      | none => rw [hdst] at he; exact he.elim
      | some tt =>
        rw [hdst] at he
        simp only [] at he
        cases hbv : backV b r with
        | none => rw [hbv] at he; exact he.elim
        | some r' => rw [hbv] at he; exact he.elim
    obtain ⟨e2, e3⟩ := List.append_inj' e1 rfl
    have e3 : cs1 = cs0 := by simpa using e3
    subst e2 e3
    have hno : ∀ o, ¬ g1.pr kb o := fun o p => by obtain ⟨v, hv⟩ := ok.free o p; exact p6 o v hv
    have hbm : B.mine kb := ok.above
    have hkb : kb < w.heap.size := (Array.getElem?_eq_some_iff.1 r1).1
    have hsub : ∀ k, (bdL w.heap.size g1.pr kb own).mine k → B.mine k := by
      rintro k (hk | hk | hk)
      · exact .inl (Nat.le_trans h2.hB hk)
      · rw [hk]; exact hbm
      · exact (p3 k hk).2.1
    have hbox : BoxC (bdL w.heap.size g1.pr kb own) w g1.pr kb cs1 own := by
      refine ⟨⟨cus, el, fr, r1, r2, l1, fun i x u q hx hu hq => ?_⟩, hno, by rw [l2, l1], p2, fun k hk e => (p3 k hk).1.β b (by rw [hβ, e])⟩
      have h0 := p1 i x u q hx hu hq
      by_cases hown : ∃ T l, x = .own T l
      · obtain ⟨T, l, rfl⟩ := hown
        obtain ⟨tg, q1, q2, q3, q4⟩ := h0
        refine ⟨tg, ?_, q2, q3, q4⟩
        obtain ⟨ez, q1⟩ := q1
        refine ⟨ez, q1.imp id ?_⟩
        rintro ⟨k, cap', a1, a2, a3⟩
        refine ⟨k, cap', a1, a2, .inr (.inr ?_), a3.len, a3.row, a3.prlt, a3.prsh, a3.prno⟩
        have : q = some k := by rw [← q3, a2]
        subst this
        exact List.mem_of_getElem? hq
      · cases x <;> first | exact h0 | exact absurd ⟨_, _, rfl⟩ hown
    have hargs : All2 (ARg w g1.pr kb) (vs' ++ cap) (us ++ cu) := by
      refine (hv1.imp fun v u hh => ?_).append ((hcap.imp fun _ _ hh => PR.keeps hk1.pr hh).imp fun _ _ hh => .inr (.inl hh))
      rcases hh with ⟨off, kb', e, hβ', e'⟩ | hh
      · rw [hβ] at hβ'; cases hβ'
        exact .inl ⟨off, e, e'⟩
      · exact .inr hh
    intro K Q hK
    unfold Oper.wp
    rw [hex hfn, Oper.upon_enter]
    refine (hcall w g1.pr _ kb own h2.prlt h2.ex.gl hbox hargs).mono ?_
    rintro e w' ⟨ru, pr', own', rfl, hbel, hp1, hp2, hbox', hret⟩
    show K (a.put o.dst ru) w'
    unfold lendTo at he
    cases hdst : o.dst with
    | none => rw [hdst] at he; exact he.elim
    | some tt =>
    rw [hdst] at he
    simp only [] at he
    cases hbv : backV b r with
    | none => rw [hbv] at he; exact he.elim
    | some r' =>
    rw [hbv] at he
    simp only [] at he
    obtain ⟨⟨us2, e2, fr2, x1, x2, x3, x4⟩, f1, f2, f3, f4⟩ := hbox'
    have hbx3 : (s.puts ws2).boxes b = some cs := by rw [hbx2]; exact hbx1
    obtain ⟨h3, k3⟩ := h2.lendBack (own := own) hbx3 hβ hno (fun k hk => ⟨(p3 k hk).1, (p3 k hk).2.1, (p3 k hk).2.2.1⟩) hbel hp1 hp2 f1 x1 x2
      (blanks_LR (g := { g1 with pr := pr' }) x3 (by rw [f2, x3]) x4)
    have hfresh : ∀ k, some k ∈ own' → Fresh { g1 with pr := pr' } ((s.puts ws2).put (.box b (blanks cs2))) k ∧ ∀ o, ¬ pr' k o := by
      intro k hk
      obtain ⟨i, hi⟩ := List.getElem?_of_mem hk
      have hlt : i < own'.length := (List.getElem?_eq_some_iff.1 hi).1
      have := ownC_block (x4 i cs2[i] us2.toList[i] (some k) (by simp [show i < cs2.length by omega]) (by
        have : i < us2.toList.length := by omega
        simp [this]) hi) rfl
      refine ⟨?_, this.2⟩
      have hF : Fresh g1 (s.puts ws2) k := by
        rcases this.1 with hm | hm | hm
        · exact h2.fresh hm
        · exact absurd hm (f4 k hk)
        · exact (p3 k hm).1
      exact ⟨hF.β, hF.τ⟩
    obtain ⟨g4, ws4, cs4, he, h4, k4, hcs4, hbx4⟩ := backCells_ev (B0 := bdL w.heap.size g1.pr kb own) (ws0 := ws2 ++ [.box b (blanks cs2)]) (by rw [S.puts_one]; exact h3) (by
        intro i _ hti
        rw [S.puts_one]
        show (s.puts ws2).toks (tokL tt i) = .abs
        have h5 : (s.puts ws1).toks (tokL tt i) = .abs := by
          rcases hpm.toks (tokL tt i) with e | ⟨_, _, e, _⟩
          · rw [e, hti]
          · rw [hti] at e; cases e
        rcases p4 (tokL tt i) with e | ⟨e, _⟩
        · rw [e, h5]
        · exact absurd h5 e) (us := us2.toList) x3 (by rw [f2, x3]) (by rw [S.puts_one]; exact hfresh) hsub x4 f3 he
    have hw : ws = ws4 ++ [.box b cs4, .tmp tt r'] := he
    subst hw
    have hβ4 : g4.β b = some kb := k4.β b kb hβ
    have hbx5 : (s.puts ws4).boxes b = some (blanks cs2) := by
      rw [hbx4, S.puts_one]; simp [S.put, upd_same]
    obtain ⟨h5, k5⟩ := h4.setBox (w' := w') hbx5 hβ4 ⟨rfl, fun _ _ => rfl⟩ x1 x2 hcs4 (fun _ _ => rfl) (fun o p => by
      obtain ⟨k5, e5, ok5⟩ := h4.bx b _ hbx5
      rw [hβ4] at e5; cases e5
      obtain ⟨v, hv⟩ := ok5.free o p
      exact absurd hv (blanks_nofz x3 (by rw [f2, x3]) x4 o v))
    have h6 := h5.tmp (t := tt) (v := r') (u := ru) (backV_VR (g := g4) (kb := kb) hbv hβ4 (by
      have hkp : PrKeeps w' pr' w' g4.pr := k4.pr
      revert hret
      have hA : ∀ v u, ARg w' pr' kb v u → ARg w' g4.pr kb v u := fun v u hh => hh.imp id fun q => q.keeps hkp
      cases r <;> first | exact hA _ _ | (rintro ⟨us', q1, q2⟩; exact ⟨us', q1, q2.imp hA⟩))) (hd tt hdst)
    refine hK g4 _ _ ?_ ⟨hbel.os, hbel.tape, hbel.output, hbel.size, fun k hk => hbel.block k fun hm => hk (hsub k hm)⟩
    rw [S.puts_append]
    exact h6

theorem Rel.eatBack (h : Rel B g s w a N) {b0 : Option Nat} (hf : ∀ k, b0 = some k → Fresh g s k ∧ B.mine k ∧ ∀ o, ¬ g.pr k o)
    (hbel : BelowB (bdE w.heap.size g.pr b0) w w') {pr' : Nat → Nat → Prop} (hp : ∀ k o, ¬ (bdE w.heap.size g.pr b0).mine k → (pr' k o ↔ g.pr k o)) (hlt : ∀ k o, pr' k o → k < w'.heap.size) :
    Rel B { g with pr := pr' } s w' a N ∧ Keeps w g w' { g with pr := pr' } := by
  have hnm : ∀ k, k < w.heap.size → (∀ q, b0 = some q → q ≠ k) → ¬ (bdE w.heap.size g.pr b0).mine k := by
    rintro k h1 h3 (h4 | h4)
    · have : w.heap.size ≤ k := h4; omega
    · exact h3 k h4 rfl
  have hnp : ∀ k o, g.pr k o → ¬ (bdE w.heap.size g.pr b0).mine k := fun k o p => hnm k (h.prlt k o p) (fun q hq e => (hf q hq).2.2 o (e ▸ p))
  have hk : Keeps w g w' { g with pr := pr' } :=
    ⟨fun k o p => ⟨(hp k o (hnp k o p)).2 p, cell_heap (hbel.block k (hnp k o p)) o⟩, fun _ _ x => x, fun _ _ x => x⟩
  have lt_of : ∀ {k : Nat} {o : Obj}, w.heap[k]? = some o → k < w.heap.size := fun e => (Array.getElem?_eq_some_iff.1 e).1
  refine ⟨⟨h.df, h.nt, Nat.le_trans h.hB hbel.size, fun t => (h.tm t).keeps hk, hlt, h.bx0, ?_, h.binj, h.tk0, ?_, h.tinj, h.tbx, ?_, h.ex.keep hk (fun _ h => h)⟩, hk⟩
  · intro b' cs2 hb'
    obtain ⟨i, ei, ab, free, us2, el, f, r1, r2, r3⟩ := h.bx b' cs2 hb'
    have hn := hnm i (lt_of r1) (fun q hq e' => (hf q hq).1.β b' (by rw [ei, e']))
    exact ⟨i, ei, ab, fun o p => free o ((hp i o hn).1 p), us2, el, f, (hbel.block i hn).trans r1, r2, r3.imp fun _ _ => LR.keeps hk⟩
  · intro t sh T l hts
    obtain ⟨tg, et, ez, r⟩ := h.tk t sh T l hts
    refine ⟨tg, et, ez, r.imp id ?_⟩
    rintro ⟨i, cap, a1, a2, a3⟩
    have hl : (s.toks t).isLive = true := by rw [hts]; rfl
    obtain ⟨us2, el, f, r1, r2, r3, r4⟩ := a3.row
    have hn := hnm i (lt_of r1) (fun q hq e' => (hf q hq).1.τ t tg hl et (by rw [a2, e']))
    exact ⟨i, cap, a1, a2, a3.above, a3.len, ⟨us2, el, f, (hbel.block i hn).trans r1, r2, r3, r4.keeps hk.pr⟩, fun o p => a3.prlt o ((hp i o hn).1 p), fun e o p => (hp i o hn).2 (a3.prsh e o p), fun e o p => a3.prno e o ((hp i o hn).1 p)⟩
  · intro k o hm
    have hn := hnm k (Nat.lt_of_lt_of_le (Bd.mine_lt hm) h.hB) (fun q hq e => hm (e ▸ (hf q hq).2.1))
    exact (hp k o hn).trans (h.prB k o hm)

theorem Rel.revive (h : Rel B g s w a N) {t : Nat} {T : Ty} {l : List T.den} {tg : TG} (ht : s.toks t = .dead) (hτ : g.τ t = some tg) (hf : ∀ k, tg.blk = some k → Fresh g s k) (hok : TokOK B w g.pr false T l tg) :
    Rel B g (s.put (.tok t (.live false T l))) w a N := by
  refine ⟨h.df, h.nt, h.hB, h.tm, h.prlt, h.bx0, h.bx, h.binj, ?_, ?_, ?_, ?_, h.prB, h.ex.keep (Keeps.refl _ _) (fun _ h => h)⟩
  · intro b e
    by_cases eb : b = t
    · subst eb; simp [S.put, upd_same] at e
    · simp only [S.put, upd_ne _ _ _ _ eb] at e ⊢; exact h.tk0 b e
  · intro i sh' T' l' e
    by_cases eb : i = t
    · subst eb; simp only [S.put, upd_same] at e ⊢; cases e; exact ⟨tg, hτ, hok⟩
    · simp only [S.put, upd_ne _ _ _ _ eb] at e ⊢; exact h.tk i sh' T' l' e
  · intro i i' x x' k l1 l2 e1 e2 e3 e4
    by_cases eb : i = t <;> by_cases eb' : i' = t
    · rw [eb, eb']
    · subst eb; simp only [S.put, upd_ne _ _ _ _ eb'] at l2; rw [hτ] at e1; cases e1; exact absurd e4 ((hf k e3).τ i' x' l2 e2)
    · subst eb'; simp only [S.put, upd_ne _ _ _ _ eb] at l1; rw [hτ] at e2; cases e2; exact absurd e3 ((hf k e4).τ i x l1 e1)
    · simp only [S.put, upd_ne _ _ _ _ eb, upd_ne _ _ _ _ eb'] at l1 l2; exact h.tinj i i' x x' k l1 l2 e1 e2 e3 e4
  · intro i x k b hl e1 e2 e3
    by_cases eb : i = t
    · subst eb; rw [hτ] at e1; cases e1; exact (hf k e2).β b e3
    · simp only [S.put, upd_ne _ _ _ _ eb] at hl; exact h.tbx i x k b hl e1 e2 e3

theorem PV_notLent {pr : Nat → Nat → Prop} {cs : List AV} {u : Value} (h : PV w pr (.lent cs) u) : False := by
  rcases h with h | ⟨_, _, e, _⟩
  · exact h.elim
  · cases e

theorem goes_eat (hC : ∀ f args v, C f args v → CallOK P f args v) (h : Rel B g s w a N) (hd : ∀ t, o.dst = some t → t < N) {n : FuncId} {vs cap : List AV} {us cu : List Value} (hv : All2 (VR w g) vs us) (hcap : All2 (PR w g.pr) cap cu)
    (hex : HasBody P n → (execOp a.eval o).run P w = .ok (.enter n (us ++ cu).toArray) w)
    (he0 : (eatCall o.dst n cap vs).Ev C Rd s ws) : Goes P B N o s w a ws := by
  cases vs with
  | nil => exact he0.elim
  | cons a0 rest =>
  cases us with
  | nil => exact hv.elim
  | cons u0 us =>
  obtain ⟨hv0, hvr⟩ := hv
  unfold eatCall at he0
  obtain ⟨vs', ws1, g1, he, hpm, h1, hk1, hv1⟩ := snaps_ev (Promo.refl s) (by simpa [S.puts] using h) hvr he0
  clear he0
  have hl0 : LR w g1 a0 u0 := by
    rcases VR_or (hv0.keeps hk1) with ⟨vs2, rfl, _⟩ | hh
    · simp [lendCells, isPlainCell] at he
      exact he.elim
    · exact hh
  obtain ⟨cs1, ws2, own, he, h2, hbx2, l1, l2, p1, p2, p3, p4, p5, p6⟩ := lendCells_ev h1 (cs := [a0]) (us := [u0]) ⟨hl0, trivial⟩ he
  obtain ⟨c0, rfl⟩ : ∃ c0, cs1 = [c0] := List.length_eq_one_iff.1 (by simpa using l1)
  obtain ⟨b0, rfl⟩ : ∃ b0, own = [b0] := List.length_eq_one_iff.1 (by simpa using l2)
  obtain ⟨v, hc, he⟩ := he
  have h0 := p1 0 c0 u0 b0 rfl rfl rfl
  have hcap1 : All2 (PV w g1.pr) cap cu := (hcap.imp fun _ _ hh => PR.keeps hk1.pr hh).imp fun _ _ => Or.inl
  have hargs : All2 (PV w g1.pr) (vs' ++ cap) (us ++ cu) := hv1.append hcap1
  have hnl : ∀ vs0 cs0, [c0] ++ vs' ++ cap ≠ vs0 ++ [.lent cs0] := by
    intro vs0 cs0 e
    have hm : AV.lent cs0 ∈ c0 :: (vs' ++ cap) := by
      have : AV.lent cs0 ∈ vs0 ++ [AV.lent cs0] := by simp
      rw [← e] at this
      simpa using this
    rcases List.mem_cons.1 hm with e2 | e2
    · rw [← e2] at h0; exact PV_notLent h0.1
    · obtain ⟨i, hi⟩ := List.getElem?_of_mem e2
      obtain ⟨u, _, hu⟩ := hargs.get i _ hi
      exact PV_notLent hu
  rcases hC _ _ _ hc with ⟨hnb, _⟩ | ⟨vs0, cs0, r, cs2, e1, rfl, _⟩ | ⟨c0', rest', r, bk, e1, rfl, hfn, hcall⟩
  · exfalso
    have : ∀ v : AV, v.isBack = false → (ateTo o.dst a0 ws2 v).Ev C Rd s ws → False := by
      intro v hv hh
      unfold ateTo at hh
      split at hh
      · simp [AV.isBack] at hv
      · simp [AV.isBack] at hv
      · exact hh
    exact this _ hnb he
  · exact absurd e1 (hnl _ _)
  simp only [List.singleton_append, List.cons_append, List.cons.injEq] at e1
  obtain ⟨rfl, rfl⟩ := e1
  have hpo : ∀ k, b0 = some k → Fresh g1 (s.puts ws2) k ∧ B.mine k ∧ ∀ o, ¬ g1.pr k o := fun k hk => by
    obtain ⟨q1, q2, q3, _⟩ := p3 k (by rw [hk]; simp)
    exact ⟨q1, q2, q3⟩
  have hsub : ∀ k, (bdE w.heap.size g1.pr b0).mine k → B.mine k := by
    rintro k (hk | hk)
    · exact .inl (Nat.le_trans h2.hB hk)
    · exact (hpo k hk).2.1
  have h0E : OwnC (bdE w.heap.size g1.pr b0) w g1.pr c0 u0 b0 := by
    by_cases hown : ∃ T l, c0 = .own T l
    · obtain ⟨T, l, rfl⟩ := hown
      obtain ⟨tg, q1, q2, q3, q4⟩ := h0
      refine ⟨tg, ?_, q2, q3, q4⟩
      obtain ⟨ez, q1⟩ := q1
      refine ⟨ez, q1.imp id ?_⟩
      rintro ⟨k, cap', a1, a2, a3⟩
      exact ⟨k, cap', a1, a2, .inr (by show b0 = some k; rw [← q3, a2]), a3.len, a3.row, a3.prlt, a3.prsh, a3.prno⟩
    · cases c0 <;> first | exact h0 | exact absurd ⟨_, _, rfl⟩ hown
  intro K Q hK
  unfold Oper.wp
  rw [hex hfn, show (u0 :: us) ++ cu = u0 :: (us ++ cu) from rfl, Oper.upon_enter]
  refine (hcall w g1.pr u0 (us ++ cu) b0 h2.prlt h2.ex.gl h0E hargs).mono ?_
  rintro e w' ⟨ru, pr', rfl, hbel, hp1, hp2, hret⟩
  show K (a.put o.dst ru) w'
  obtain ⟨h3, k3⟩ := h2.eatBack hpo hbel hp1 hp2
  have hB : BelowB B w w' := ⟨hbel.os, hbel.tape, hbel.output, hbel.size, fun k hk => hbel.block k fun hm => hk (hsub k hm)⟩
  have hfr : ∀ k, (bdE w.heap.size g1.pr b0).mine k → Fresh { g1 with pr := pr' } (s.puts ws2) k := by
    rintro k (hk | hk)
    · exact ⟨(h2.fresh hk).β, (h2.fresh hk).τ⟩
    · exact ⟨(hpo k hk).1.β, (hpo k hk).1.τ⟩
  have habs : ∀ i, s.toks i = .abs → (s.puts ws2).toks i = .abs := by
    intro i hi
    have h5 : (s.puts ws1).toks i = .abs := by
      rcases hpm.toks i with e | ⟨_, _, e, _⟩
      · rw [e, hi]
      · rw [hi] at e; cases e
    rcases p4 i with e | ⟨e, _⟩
    · rw [e, h5]
    · exact absurd h5 e
  cases bk with
  | nil => exact goes_answer (B0 := bdE w.heap.size g1.pr b0) h3 habs hd hB hsub hfr hret (by
      revert he
      unfold ateTo
      exact id) hK
  | cons c bk =>
    cases bk with
    | cons _ _ => exact hret.elim
    | nil =>
    obtain ⟨hret, rfl, rfl⟩ := hret
    by_cases hcown : ∃ T l, c = .own T l
    · obtain ⟨T, l, rfl⟩ := hcown
      cases a0 with
      | ref t =>
        obtain ⟨_, he⟩ := (show (Pg.tok t fun
          | .live false T0 _ => match T.dec T0 with
            | some _ => .ret (ws2 ++ ([.tok t (.live false T l)] ++ wrd o.dst (.tup [])))
            | none => .fail
          | _ => .fail).Ev C Rd s ws from he)
        cases htk : s.toks t with
        | abs => rw [htk] at he; exact he.elim
        | dead => rw [htk] at he; exact he.elim
        | live sh T0 l0 =>
          rw [htk] at he
          cases sh with
          | true => exact he.elim
          | false =>
            simp only [] at he
            cases hdec : T.dec T0 with
            | none => rw [hdec] at he; exact he.elim
            | some hh =>
            rw [hdec] at he
            obtain ⟨rfl⟩ := hh
            have : ws = _ := he
            subst this
            obtain ⟨tg0, hτ0, hu0, _⟩ := hl0
            obtain ⟨hdead, htg⟩ := p5 0 t rfl T l0 htk
            have hb0 : tg0.blk = b0 := by have := htg tg0 hτ0; simpa using this.symm
            obtain ⟨tg1, hok, hv1', hb1, _⟩ := hret
            have hz : tg0.esz = T.size := by
              have hs : ∃ T2 l2, (s.puts ws1).toks t = .live false T2 l2 ∨ (s.puts ws1).toks t = .live true T2 l2 := by
                rcases hpm.toks t with e | ⟨T2, l2, _, e⟩
                · exact ⟨T, l0, .inl (by rw [e, htk])⟩
                · exact ⟨T2, l2, .inr e⟩
              have hT2 : ∀ sh T2 l2, (s.puts ws1).toks t = .live sh T2 l2 → T2 = T := by
                intro sh T2 l2 e
                rcases hpm.toks t with e' | ⟨T3, l3, e3, e'⟩
                · rw [e', htk] at e; cases e; rfl
                · rw [htk] at e3; cases e3
                  rw [e'] at e; cases e; rfl
              obtain ⟨T2, l2, e | e⟩ := hs
              · have := hT2 _ _ _ e; subst this
                obtain ⟨tg2, e1, e2, _⟩ := h1.tk t _ _ _ e
                rw [hτ0] at e1; cases e1; exact e2
              · have := hT2 _ _ _ e; subst this
                obtain ⟨tg2, e1, e2, _⟩ := h1.tk t _ _ _ e
                rw [hτ0] at e1; cases e1; exact e2
            have htgs : tg1 = tg0 := by
              obtain ⟨v1, b1, z1⟩ := tg1
              obtain ⟨v0, b0', z0⟩ := tg0
              simp only at hb1 hb0 hz hv1' hu0
              have hz1 : z1 = T.size := hok.1
              subst hb1 hb0 hz hz1
              rw [← hv1', ← hu0]
            subst htgs
            have hno : ∀ k, tg1.blk = some k → ∀ o, ¬ pr' k o := by
              intro k hk o ho
              obtain ⟨_, r⟩ := hok
              rcases r with ⟨_, e, _⟩ | ⟨k', cap', _, e, r⟩
              · rw [hk] at e; cases e
              · rw [hk] at e; cases e; exact r.prno rfl o ho
            have h4 := h3.revive (t := t) (T := T) (l := l) hdead hτ0 (fun k hk => hfr k (.inr (by rw [← hb1]; exact hk))) (tokOK_keeps hok hsub (fun _ _ p => ⟨p, rfl⟩) hno)
            refine hK { g1 with pr := pr' } _ _ ?_ hB
            rw [S.puts_append]
            exact Rel.wrd (s := (s.puts ws2).put (.tok t (.live false T l))) h4 (v := .tup []) (show VR w' _ (.tup []) (.tuple #[]) from ⟨[], rfl, trivial⟩) hd
      | _ => exact he.elim
    · exfalso
      revert he
      unfold ateTo
      cases c <;> first | exact fun h => h.elim | exact absurd ⟨_, _, rfl⟩ hcown

theorem goes_call (hC : ∀ f args v, C f args v → CallOK P f args v) (h : Rel B g s w a N) (hd : ∀ t, o.dst = some t → t < N) {f : Operand} {args : Array Operand} {ts : Array TypeId}
    (ho : o.op = .call { callee := .value f, args := args, argTypes := ts }) {vs : List AV} (hv : All2 (VR w g) vs (args.toList.map a.eval))
    (he0 : (rdv f fun
      | .fn n cap => snaps vs [] fun vs ws => .call n (vs ++ cap) fun v => answer o.dst ws v
      | .fnv n T x => lendCall o.dst n vs (T.cells x)
      | _ => .fail).Ev C Rd s ws) : Goes P B N o s w a ws := by
  obtain ⟨p, hp, he⟩ := rdv_ev h he0
  clear he0
  cases p with
  | fn n cap =>
    simp only [] at he
    obtain ⟨cu, hcu, hcap⟩ := hp
    obtain ⟨vs', ws', g1, he, hpm, h2, hk, hv2⟩ := snaps_ev (Promo.refl s) (by simpa [S.puts] using h) hv he
    obtain ⟨v, hc, he⟩ := he
    have hargs : All2 (PV w g1.pr) (vs' ++ cap) ((args.toList.map a.eval) ++ cu) := hv2.append ((hcap.imp fun _ _ => PR.keeps hk.pr).imp fun _ _ => Or.inl)
    exact goes_enter (hC _ _ _ hc) h2 hpm hd hargs (fun ⟨fn, f1, f2, f3⟩ => by rw [execOp_call ho hcu f1 f2 f3]) he
  | fnv n T x =>
    simp only [] at he
    obtain ⟨cu, e1, e2⟩ := id hp
    have hcu : a.eval f = .func (.func n) #[] cu.toArray := by simpa using e1
    have hcap := cells_PR e2
    unfold lendCall at he
    cases hfp : findPtr vs with
    | none =>
      rw [hfp] at he
      simp only [] at he
      cases hea : eats n with
      | true =>
        rw [hea] at he
        exact goes_eat hC h hd hv hcap (fun ⟨fn, f1, f2, f3⟩ => by rw [execOp_call ho hcu f1 f2 f3]) he
      | false =>
      rw [hea] at he
      simp only [cond_false] at he
      obtain ⟨vs', ws', g1, he, hpm, h2, hk, hv2⟩ := snaps_ev (Promo.refl s) (by simpa [S.puts] using h) hv he
      obtain ⟨v, hc, he⟩ := he
      have hargs : All2 (PV w g1.pr) (vs' ++ T.cells x) ((args.toList.map a.eval) ++ cu) := hv2.append ((hcap.imp fun _ _ => PR.keeps hk.pr).imp fun _ _ => Or.inl)
      exact goes_enter (hC _ _ _ hc) h2 hpm hd hargs (fun ⟨fn, f1, f2, f3⟩ => by rw [execOp_call ho hcu f1 f2 f3]) he
    | some b =>
      rw [hfp] at he
      simp only [] at he
      exact goes_lend hC h hd hv hcap (fun ⟨fn, f1, f2, f3⟩ => by rw [execOp_call ho hcu f1 f2 f3]) he
  | _ => exact he.elim


end
end Go.Proofs.Ytjgnpmdbkgeakaa.Th
