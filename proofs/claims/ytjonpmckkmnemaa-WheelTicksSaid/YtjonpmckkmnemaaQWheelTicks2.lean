/- THE CLAIM'S TEXTS, part 2: what its proof needs of the theory, the functions, their equations and the laws. No condition. -/
import Derived.Test.YtjonpmckkmnemaaQWheelTicks1
import Derived.Laws.StructEq
import Derived.WideKeyRuns
import Derived.Scope
section
set_option linter.unusedVariables false
set_option linter.unusedSimpArgs false
set_option linter.unusedVariables false
set_option linter.unusedSimpArgs false
set_option linter.unusedVariables false
set_option linter.unusedSimpArgs false
namespace Go.Proofs.Ytjonpmckkmnemaa.Th
open Go Go.RowKit
section
variable {P : Program} {TI : TEnv} {C : FuncId → List AV → AV → Prop} {Rd : Rs → Prop} {μ : Bool} {B : Bd μ} {N : Nat} {g g' : Gh} {s : S} {w w' : World} {a : Act} {o : Oper} {ws : List Wr}
theorem goes_makeSlice (hT : TIok P TI) (h : Rel B g s w a N) (hd : ∀ t, o.dst = some t → t < N) {t : TypeId} {x y : Operand} (ho : o.op = .makeSlice t x y)
    (he0 : (rdv x fun n => rdv y fun c => pgMakeSlice TI o.dst t n c).Ev C Rd s ws) : Goes P B N o s w a ws := by
  obtain ⟨p, hp, he1⟩ := rdv_ev h he0
  obtain ⟨q, hq, he⟩ := rdv_ev h he1
  clear he0 he1
  unfold pgMakeSlice at he
  split at he
  · rename_i tt k n k' c hdst
    have hx := VR_int hp
    have hy := VR_int hq
    unfold tinf at he
    cases hi : TI t with
    | none => rw [hi] at he; exact he.elim
    | some i =>
      rw [hi] at he
      obtain ⟨ti, d, z, T⟩ := hT.get hi
      cases hkn : i.kn with
      | slice e =>
        simp only [hkn] at he
        cases hei : TI e with
        | none => rw [hei] at he; exact he.elim
        | some ei =>
          rw [hei] at he
          simp only [] at he
          obtain ⟨ti2, d2, z2', E⟩ := hT.get hei
          obtain ⟨hrep, h0, hnc, hc47, hcb, _, he⟩ := he
          have h0 : 0 ≤ n := by simpa using h0
          have hnc : n ≤ c := by simpa using hnc
          have hc47 : c ≤ 140737488355328 := by simpa using hc47
          have hcb : c * (ei.bytes : Int) ≤ 140737488355328 := by simpa using hcb
          cases ht : s.toks tt with
          | dead => rw [ht] at he; exact he.elim
          | mlive _ _ => rw [ht] at he; exact he.elim
          | live _ _ _ => rw [ht] at he; exact he.elim
          | abs =>
            rw [ht] at he
            have : ws = _ := he
            subst this
            have hz : TR w g.pr ei.ty ei.ty.dflt z2'.cells.toList := zOf_TR (E.zrep hrep)
            have hrow0 := rowOf_zero hz c.toNat
            have hrow : RowOf w g.pr ei.ty (List.replicate n.toNat ei.ty.dflt) ((Array.range (c.toNat * ei.ty.size)).map (z2'.cells.toList.toArray[· % z2'.cells.toList.toArray.size]!)) := by
              intro j x hx
              refine hrow0 j x ?_
              rw [List.getElem?_replicate] at hx ⊢
              split at hx
              · rw [if_pos (by omega)]; exact hx
              · cases hx
            obtain ⟨g2, tg, h3, hτ, htv⟩ := h.newTokAt ht (us := (Array.range (c.toNat * ei.ty.size)).map (z2'.cells.toList.toArray[· % z2'.cells.toList.toArray.size]!)) e (fr := (0, 0)) (cap := c.toNat) (thawT0 _ _ _) (by simp; omega) (by simp) hrow
            have h4 := h3.tmp (VR_ref hτ htv) (hd tt hdst)
            rw [List.length_replicate] at h4
            refine goes_value (g' := g2) (w' := w.alloc (.cells ((Array.range (c.toNat * ei.ty.size)).map (z2'.cells.toList.toArray[· % z2'.cells.toList.toArray.size]!)) e)) (u := .slice (some ⟨w.heap.size, 0, none⟩) n.toNat c.toNat) ?_ (by rw [hdst]; exact h4) (below_alloc h _)
            have hun := T.slice hkn
            have hw1 : IntKind.i64.wrap n = n := by
              have e1 : (2 : Int) ^ IntKind.i64.bits = 18446744073709551616 := rfl
              have e2 : (2 : Int) ^ (IntKind.i64.bits - 1) = 9223372036854775808 := rfl
              unfold IntKind.wrap
              simp only [e1, e2]
              have : n % 18446744073709551616 = n := Int.emod_eq_of_lt h0 (by omega)
              rw [this]
              simp; omega
            have hw2 : IntKind.i64.wrap c = c := by
              have e1 : (2 : Int) ^ IntKind.i64.bits = 18446744073709551616 := rfl
              have e2 : (2 : Int) ^ (IntKind.i64.bits - 1) = 9223372036854775808 := rfl
              unfold IntKind.wrap
              simp only [e1, e2]
              have : c % 18446744073709551616 = c := Int.emod_eq_of_lt (by omega) (by omega)
              rw [this]
              simp; omega
            have hmul : (ei.bytes : Int) * c = c * ei.bytes := Int.mul_comm _ _
            have hbig : ((decide (c < 0) || decide ((ei.bytes : Int) * c > 2 ^ 48)) || decide (n < 0) || decide (n > c)) = false := by
              have : (2 : Int) ^ 48 = 281474976710656 := rfl
              rw [hmul, this]
              simp; omega
            have hb2 : ¬ (((c < 0 ∨ (ei.bytes : Int) * c > 2 ^ 48) ∨ n < 0) ∨ n > c) := by
              have : (2 : Int) ^ 48 = 281474976710656 := rfl
              rw [hmul, this]; omega
            simp only [execOp, ho, hx, hy, Instr.makeSlice, Sem.run_bind, run_underlying hun, Result.andThen_ok, asInt, asIntOf, Sem.run_pure, typeInfo, run_program, E.info, hw1, hw2, E.bytes, hbig, Bool.false_eq_true, if_false, run_askRoom, E.sizeOf, Sem.run_ite]
            by_cases hz0 : c.toNat * ei.size = 0
            · rw [if_pos hz0]
              simp only [Sem.run_bind, Sem.run_pure, Result.andThen_ok, newRow, run_newObj_alloc]
              congr 3
              rw [E.tysz, hz0, show Array.range 0 = #[] from rfl]; simp
            · rw [if_neg hz0]
              simp only [Sem.run_bind, Sem.run_pure, Result.andThen_ok, zeroValue, typeInfo, run_program, E.info, E.zero, newRow, run_newObj_alloc]
              congr 3
              rw [E.tysz]
      | _ => simp only [hkn] at he; exact he.elim
  · exact he.elim
structure Src (P : Program) (w : World) (xt : TypeId) (x : Value) (size m : Nat) (news : List Value) : Prop where
  und : ∃ dx, P.underlying xt = some dx ∧ (∀ k, dx ≠ .int k)
  len : ∀ w' : World, (Builtin.lenOf x).run P w' = .ok m w'
  cells : ∀ w' : World, w'.heap = w.heap → (Builtin.firstCells size m x).run P w' = .ok news.toArray w'
  sz : news.length = m * size
  one : ∀ v ∈ news, v.oneCell' = true
theorem cell_same_heap {w w' : World} (h : w'.heap = w.heap) (ad : Addr) : w'.cell? ad = w.cell? ad := by simp [World.cell?, h]
theorem notInt {dx : TypeDesc} (h : ∀ k, dx ≠ .int k) : (match dx with | .int _ => true | _ => false) = false := by
  cases dx <;> first | rfl | (rename_i k; exact absurd rfl (h k))
theorem run_append_fit {t xt ty e : TypeId} {ei : TInfo} {ti2 : TypeInfo} {d2 : TypeDesc} {z2 : Value} (E : TypeIs P e ei ti2 d2 z2) (ht : P.underlying t = some (.slice e)) {x : Value} {m : Nat} {news : List Value} (hs : Src P w xt x ei.size m news)
    {k n cap : Nat} {us : Array Value} {el : TypeId} {fr : Nat × Nat} (hr : w.heap[k]? = some (.cells us el fr)) (hfr : Thawed fr us.size) (hfit : n + m ≤ cap) (hsz : cap * ei.size ≤ us.size) :
    (Builtin.append_ #[t, xt] ty #[.slice (some ⟨k, 0, none⟩) n cap, x]).run P w = .ok (.slice (some ⟨k, 0, none⟩) (n + m) cap) (w.setRow k (over us.toList (n * ei.size) news).toArray) := by
  obtain ⟨dx, hdx, hni⟩ := hs.und
  have hfit2 : n * ei.size + m * ei.size ≤ us.size := by
    have : (n + m) * ei.size ≤ cap * ei.size := Nat.mul_le_mul_right _ hfit
    rw [Nat.add_mul] at this; omega
  have hst := run_storeRow (P := P) news (n * ei.size) 0 w us hr hfr (by rw [hs.sz]; omega) hs.one
  simp only [Nat.add_zero] at hst
  have hn := notInt hni
  unfold Builtin.append_
  simp only [List.getElem?_toArray, List.getElem?_cons_zero, List.getElem?_cons_succ, Sem.run_bind, run_underlying ht, run_underlying hdx, Result.andThen_ok, E.sizeOf, Sem.run_pure, hn, Bool.false_eq_true, if_false, hs.len, Sem.run_ite, hfit, if_true, Bool.not_false, hs.cells w rfl, addr_add, Nat.zero_add, hst]
theorem run_append_new {t xt ty e : TypeId} {ei : TInfo} {ti2 : TypeInfo} {d2 : TypeDesc} {z2 : Value} (E : TypeIs P e ei ti2 d2 z2) (ht : P.underlying t = some (.slice e)) {x : Value} {m : Nat} {news : List Value} (hs : Src P w xt x ei.size m news)
    {ad : Option Addr} {n cap : Nat} {olds : List Value} (ho : ∀ w' : World, w'.heap = w.heap → (Builtin.firstCells ei.size n (.slice ad n cap)).run P w' = .ok olds.toArray w') (hg : ¬ n + m ≤ cap)
    (hb : (n + m) * ei.bytes ≤ 140737488355328) (hpos : 0 < ei.bytes) :
    (Builtin.append_ #[t, xt] ty #[.slice ad n cap, x]).run P w = .ok (.slice (some ⟨w.heap.size, 0, none⟩) (n + m) (grownCap w (n + m) cap e))
      (w.drew.alloc (.cells (olds.toArray ++ news.toArray ++ Builtin.zeroCells z2.cells (grownCap w (n + m) cap e - (n + m))) e)) := by
  obtain ⟨dx, hdx, hni⟩ := hs.und
  have hn := notInt hni
  have hle : n + m ≤ (n + m) * ei.bytes := Nat.le_mul_of_pos_right _ hpos
  have hfit := growslice_fits (need := n + m) (old := cap) (bytes := ei.bytes) (by omega) hb
  have h48 : ¬ (Builtin.nextslicecap (n + m) cap * ei.bytes > 2 ^ 48) := by
    have : (2 : Nat) ^ 48 = 281474976710656 := rfl
    rw [this]; omega
  have h63 : ¬ (((n + m : Nat) : Int) > IntKind.i64.max ∧ (False ∨ ei.bytes = 0)) := by
    have : IntKind.i64.max = 9223372036854775807 := by decide
    rw [this]; omega
  unfold Builtin.append_
  simp only [List.getElem?_toArray, List.getElem?_cons_zero, List.getElem?_cons_succ, Sem.run_bind, run_underlying ht, run_underlying hdx, Result.andThen_ok, E.sizeOf, Sem.run_pure, hn, Bool.false_eq_true, if_false, hs.len, Sem.run_ite, hg,
    typeInfo, run_program, E.info, E.bytes, h63, h48, run_askRoom, Bool.not_false, if_true, run_choose_drew, Question.forced, hs.cells w.drew rfl, ho w.drew rfl, zeroValue, E.zero, newRow, run_newObj_alloc]
  rfl
theorem Rel.protect (h : Rel B g s w a N) {k n : Nat} (hf : Fresh g s k) (hBk : B.mine k) (hk : k < w.heap.size) :
    Rel B { g with pr := fun i o => g.pr i o ∨ (i = k ∧ o < n) } s w a N ∧ Keeps w g w { g with pr := fun i o => g.pr i o ∨ (i = k ∧ o < n) } := by
  have hke : Keeps w g w { g with pr := fun i o => g.pr i o ∨ (i = k ∧ o < n) } := ⟨fun _ _ p => ⟨.inl p, rfl⟩, fun _ _ x => x, fun _ _ x => x⟩
  refine ⟨⟨h.df, h.nt, h.hB, fun t => (h.tm t).keeps hke, ?_, h.bx0, ?_, h.binj, h.tk0, ?_, h.tinj, h.tbx, fun i o hi => (show (g.pr i o ∨ (i = k ∧ o < n)) ↔ B.pr i o from (or_iff_left (fun (q : i = k ∧ o < n) => hi (q.1.symm ▸ hBk))).trans (h.prB i o hi)), h.ex.keep hke (fun _ h => h), fun t K l e => let ⟨tg, e1, ok⟩ := h.mp t K l e; ⟨tg, e1, ok.keep hke.pr fun i hb _ => ⟨rfl, fun o p => p.elim id fun q => absurd (by rw [hb, q.1]) (hf.τ t tg (by rw [e]; rfl) e1)⟩⟩⟩, hke⟩
  · rintro i o (p | ⟨rfl, _⟩)
    · exact h.prlt i o p
    · exact hk
  · intro b cs hb
    obtain ⟨i, e, ab, fr, us, el, f, r1, r2, r3⟩ := h.bx b cs hb
    refine ⟨i, e, ab, ?_, us, el, f, r1, r2, r3.imp fun _ _ => LR.keeps hke⟩
    rintro o (p | ⟨rfl, _⟩)
    · exact fr o p
    · exact (hf.β b e).elim
  · intro t sh T l ht
    obtain ⟨tg, e, ez, r⟩ := h.tk t sh T l ht
    refine ⟨tg, e, ez, r.imp id ?_⟩
    rintro ⟨i, cap, a1, a2, a3⟩
    have hne : i ≠ k := fun e' => hf.τ t tg (by rw [ht]; rfl) e (by rw [a2, e'])
    obtain ⟨us, el, f, r1, r2, r3, r4⟩ := a3.row
    have hq : ∀ o, (g.pr i o ∨ (i = k ∧ o < n)) → g.pr i o := by
      rintro o (p | ⟨e', _⟩)
      · exact p
      · exact absurd e' hne
    exact ⟨i, cap, a1, a2, a3.above, a3.len, ⟨us, el, f, r1, r2, r3, r4.keeps hke.pr⟩, fun o p => a3.prlt o (hq o p), fun e o p => .inl (a3.prsh e o p), fun e o p => a3.prno e o (hq o p)⟩
theorem Rel.newTokSh (h : Rel B g s w a N) {t k cap : Nat} {sh : Bool} {T : Ty} {l : List T.den} (ht : s.toks t = .abs) (hf : Fresh g s k) (hB : B.mine k) {us : Array Value} {e : TypeId} {fr : Nat × Nat}
    (hr : w.heap[k]? = some (.cells us e fr)) (hfr : ThawedT sh T fr us.size) (hl : l.length ≤ cap) (hc : cap * T.size ≤ us.size) (hrow : RowOf w g.pr T l us) (hp : ∀ o, g.pr k o → o < l.length * T.size) (hno : sh = false → ∀ o, ¬ g.pr k o) :
    ∃ g' tg, Rel B g' (s.put (.tok t (.live sh T l))) w a N ∧ g'.τ t = some tg ∧ tg.val = .slice (some ⟨k, 0, none⟩) l.length cap := by
  cases sh with
  | false =>
    obtain ⟨h2, _⟩ := h.newTok (sh := false) (T := T) (l := l) (tg := ⟨.slice (some ⟨k, 0, none⟩) l.length cap, some k, T.size⟩) ht (fun k' hk => by cases hk; exact hf)
      ⟨rfl, .inr ⟨k, cap, rfl, rfl, hB, hl, ⟨us, e, fr, hr, hfr, hc, hrow⟩, hp, (fun x => by cases x), hno⟩⟩
    exact ⟨_, _, h2, by simp [upd_same]; rfl, rfl⟩
  | true =>
    obtain ⟨h1, k1⟩ := h.protect (n := l.length * T.size) hf hB (Array.getElem?_eq_some_iff.1 hr).1
    obtain ⟨h2, _⟩ := h1.newTok (sh := true) (T := T) (l := l) (tg := ⟨.slice (some ⟨k, 0, none⟩) l.length cap, some k, T.size⟩) ht (fun k' hk => by cases hk; exact ⟨hf.β, hf.τ⟩)
      ⟨rfl, .inr ⟨k, cap, rfl, rfl, hB, hl, ⟨us, e, fr, hr, hfr, hc, hrow.keeps k1.pr⟩, (fun o p => p.elim (hp o) (fun q => q.2)), (fun _ o p => .inr ⟨rfl, p⟩), (fun x => by cases x)⟩⟩
    exact ⟨_, _, h2, by simp [upd_same]; rfl, rfl⟩
theorem execOp_append {x y : Operand} {t xt : TypeId} (ho : o.op = .call { callee := .builtin .append, args := #[x, y], argTypes := #[t, xt] }) {v : Value}
    (hr : (Builtin.append_ #[t, xt] o.type #[a.eval x, a.eval y]).run P w = .ok v w') : (execOp a.eval o).run P w = .ok (.value v) w' := by
  simp [execOp, ho, resolve, invoke, builtin, hr]
theorem Src.of_reads {pr : Nat → Nat → Prop} {xt e : TypeId} {T : Ty} {m : List T.den} {x : Value} {size : Nat} (hx : P.underlying xt = some (.slice e)) (hT : T.size = size) (hr : Reads w pr T m x) :
    ∃ news, Src P w xt x size m.length news ∧ ∀ (j : Nat) (y : T.den), m[j]? = some y → ∃ vs, vs.length = T.size ∧ (∀ (i : Nat) (v : Value), vs[i]? = some v → news[j * T.size + i]? = some v) ∧ TR w pr T y vs := by
  obtain ⟨ad, c, news, rfl, hc, hl, hnil, hcell, h1, hrow⟩ := hr.flat
  refine ⟨news, ⟨⟨_, hx, fun k e => by cases e⟩, fun w' => rfl, fun w' hw' => ?_, by rw [hl, hT], h1⟩, hrow⟩
  cases ad with
  | none =>
    have := hnil rfl; subst this
    have : news = [] := List.eq_nil_of_length_eq_zero (by simpa using hl)
    subst this; rfl
  | some ad =>
    refine run_firstCells_some w' size m.length ad m.length c news (by rw [hl, hT]) ?_
    intro j v hv
    rw [cell_same_heap hw']; exact hcell ad rfl j v hv
theorem Src.of_str {pr : Nat → Nat → Prop} {xt : TypeId} {b : List UInt8} (hx : P.underlying xt = some .string) :
    ∃ news, Src P w xt (strV b) 1 b.length news ∧ ∀ (j : Nat) (y : Int), (toBytes b)[j]? = some y → ∃ vs, vs.length = (Ty.int .u8).size ∧ (∀ (i : Nat) (v : Value), vs[i]? = some v → news[j * (Ty.int .u8).size + i]? = some v) ∧ TR w pr (.int .u8) y vs := by
  refine ⟨b.map fun x => .int .u8 (x.toNat : Int), ⟨⟨_, hx, fun k e => by cases e⟩, fun w' => ?_, fun w' _ => ?_, by simp, ?_⟩, ?_⟩
  · simp [strV, Builtin.lenOf, ByteArray.size]
  · simp only [strV, Builtin.firstCells, Sem.run_pure]
    congr 1
    have hs : b.length = (⟨b.toArray⟩ : ByteArray).size := by simp [ByteArray.size]
    rw [hs]
    have : (⟨b.toArray⟩ : ByteArray).extract 0 (⟨b.toArray⟩ : ByteArray).size = ⟨b.toArray⟩ := ByteArray.extract_zero_size
    rw [this]
    simp
  · intro v hv
    simp only [List.mem_map] at hv
    obtain ⟨x, _, rfl⟩ := hv; rfl
  · intro j y hy
    simp only [toBytes, List.getElem?_map] at hy
    refine ⟨[.int .u8 y], rfl, fun i v hv => ?_, rfl⟩
    have hi : i = 0 := by have := (List.getElem?_eq_some_iff.1 hv).1; simpa using this
    subst hi
    simp at hv; subst hv
    simp only [Ty.size, Nat.mul_one, Nat.add_zero, List.getElem?_map]
    cases hb : b[j]? with
    | none => rw [hb] at hy; cases hy
    | some x => rw [hb] at hy; simp at hy ⊢; exact hy
theorem rowOf_append {pr : Nat → Nat → Prop} {T : Ty} {l m : List T.den} {us us' : Array Value} {news : List Value} (h : RowOf w pr T l us) (hn : ∀ (j : Nat) (y : T.den), m[j]? = some y → ∃ vs, vs.length = T.size ∧ (∀ (i : Nat) (v : Value), vs[i]? = some v → news[j * T.size + i]? = some v) ∧ TR w pr T y vs)
    (hold : ∀ i, i < l.length * T.size → us'[i]? = us[i]?) (hnew : ∀ i v, news[i]? = some v → us'[l.length * T.size + i]? = some v) : RowOf w pr T (l ++ m) us' := by
  intro j x hx
  by_cases hj : j < l.length
  · rw [List.getElem?_append_left hj] at hx
    obtain ⟨vs, v1, v2, v3⟩ := h j x hx
    refine ⟨vs, v1, fun i v hv => ?_, v3⟩
    have hi : i < T.size := by rw [← v1]; exact (List.getElem?_eq_some_iff.1 hv).1
    have : (j + 1) * T.size ≤ l.length * T.size := Nat.mul_le_mul_right _ hj
    have : (j + 1) * T.size = j * T.size + T.size := by rw [Nat.add_mul]; omega
    rw [hold _ (by omega)]; exact v2 i v hv
  · rw [List.getElem?_append_right (by omega)] at hx
    obtain ⟨vs, v1, v2, v3⟩ := hn _ x hx
    refine ⟨vs, v1, fun i v hv => ?_, v3⟩
    have := hnew _ v (v2 i v hv)
    rw [← this]
    congr 1
    have : j * T.size = l.length * T.size + (j - l.length) * T.size := by rw [← Nat.add_mul]; congr 1; omega
    omega
theorem grown_size (w : World) (need old : Nat) (e : TypeId) (z : Array Value) (olds news : List Value) (size : Nat) (hz : z.size = size) (hl : olds.length + news.length = need * size) :
    (grownCap w need old e) * size ≤ (olds.toArray ++ news.toArray ++ Builtin.zeroCells z (grownCap w need old e - need)).size := by
  have := grownCap_ge w need old e
  simp only [Array.size_append, List.size_toArray, size_zeroCells, hz]
  rw [hl, ← Nat.add_mul]
  exact Nat.mul_le_mul_right _ (by omega)
theorem append_own (h : Rel B g s w a N) (hd : ∀ t, o.dst = some t → t < N) {t xt e : TypeId} {x y : Operand} (ho : o.op = .call { callee := .builtin .append, args := #[x, y], argTypes := #[t, xt] })
    {ei : TInfo} {ti2 : TypeInfo} {d2 : TypeDesc} {z2 : Value} (E : TypeIs P e ei ti2 d2 z2) (ht : P.underlying t = some (.slice e)) (hpos : 0 < ei.bytes) {tt : Tmp} (hdst : o.dst = some tt)
    {m : List ei.ty.den} {news : List Value} (hs : Src P w xt (a.eval y) ei.size m.length news)
    (hn : ∀ (j : Nat) (q : ei.ty.den), m[j]? = some q → ∃ vs, vs.length = ei.ty.size ∧ (∀ (i : Nat) (v : Value), vs[i]? = some v → news[j * ei.ty.size + i]? = some v) ∧ TR w g.pr ei.ty q vs)
    {ws1 : List Wr} (s1 : S) (hs1 : s1 = s.puts ws1) {sh : Bool} {l : List ei.ty.den} (habs : s1.toks tt = .abs) (hb : (l.length + m.length) * ei.bytes ≤ 140737488355328) (h1 : Rel B g s1 w a N)
    (hrow : (a.eval x = .slice none 0 0 ∧ l = []) ∨ ∃ k cap, a.eval x = .slice (some ⟨k, 0, none⟩) l.length cap ∧ Fresh g s1 k ∧ TokRow B w g.pr sh ei.ty l k cap) :
    Goes P B N o s w a (ws1 ++ [.tok tt (.live sh ei.ty (l ++ m)), .tmp tt (.ref tt)]) := by
  have hsz := E.tysz
  have hzsz : z2.cells.size = ei.size := by have := (z0s_LR (w := w) (g := g) E.zrel).len; have := E.zlen; simp at *; omega
  -- what is left to do once the row lies there
  have fin : ∀ (w' : World) (g1 : Gh) (k cap : Nat) (us : Array Value) (el : TypeId) (fr : Nat × Nat), Rel B g1 s1 w' a N → BelowB B w w' → Fresh g1 s1 k → B.mine k → w'.heap[k]? = some (.cells us el fr) → ThawedT sh ei.ty fr us.size →
      l.length + m.length ≤ cap → cap * ei.ty.size ≤ us.size → RowOf w' g1.pr ei.ty (l ++ m) us → (∀ o, g1.pr k o → o < (l ++ m).length * ei.ty.size) → (sh = false → ∀ o, ¬ g1.pr k o) →
      (execOp a.eval o).run P w = .ok (.value (.slice (some ⟨k, 0, none⟩) (l.length + m.length) cap)) w' → Goes P B N o s w a (ws1 ++ [.tok tt (.live sh ei.ty (l ++ m)), .tmp tt (.ref tt)]) := by
    intro w' g1 k cap us el fr r1 r2 r3 r4 r5 r6 r7 r8 r9 r10 r11 r12
    obtain ⟨g2, tg, q1, q2, q3⟩ := r1.newTokSh (sh := sh) (T := ei.ty) (l := l ++ m) (cap := cap) habs r3 r4 r5 r6 (by simpa using r7) r8 r9 r10 r11
    have q4 := q1.tmp (VR_ref q2 q3) (hd tt hdst)
    refine goes_value (g' := g2) r12 ?_ r2
    rw [hdst, S.puts_append, ← hs1]
    rw [List.length_append] at q4
    exact q4
  -- a new row
  have new : ∀ (ad : Option Addr) (n cap : Nat) (olds : List Value), a.eval x = .slice ad n cap → n = l.length → olds.length = l.length * ei.size → ¬ n + m.length ≤ cap →
      (∀ w' : World, w'.heap = w.heap → (Builtin.firstCells ei.size n (.slice ad n cap)).run P w' = .ok olds.toArray w') → RowOf w g.pr ei.ty l olds.toArray →
      Goes P B N o s w a (ws1 ++ [.tok tt (.live sh ei.ty (l ++ m)), .tmp tt (.ref tt)]) := by
    intro ad n cap olds ex en el hg hf hro
    subst en
    have hrun := run_append_new (ty := o.type) E ht hs hf hg hb hpos
    rw [← ex] at hrun
    have hex := execOp_append ho hrun
    obtain ⟨d1, _⟩ := h1.heap (w' := w.drew) rfl
    obtain ⟨a1, k1⟩ := d1.alloc (.cells (olds.toArray ++ news.toArray ++ Builtin.zeroCells z2.cells (grownCap w (l.length + m.length) cap e - (l.length + m.length))) e)
    have hfr : Fresh g s1 w.heap.size := h1.fresh (Nat.le_refl _)
    have hno : ∀ o, ¬ g.pr w.heap.size o := fun o p => by have := h1.prlt _ o p; omega
    have hk : PrKeeps w g.pr (w.drew.alloc (.cells (olds.toArray ++ news.toArray ++ Builtin.zeroCells z2.cells (grownCap w (l.length + m.length) cap e - (l.length + m.length))) e)) g.pr := k1.pr
    refine fin _ g w.heap.size (grownCap w (l.length + m.length) cap e) _ e (0, 0) a1 (((BelowB.refl B w).drew).alloc h1.hB _) hfr (.inl h1.hB) (alloc_new w.drew _) (thawT0 _ _ _) (grownCap_ge _ _ _ _) ?_ ?_ (fun o p => absurd p (hno o)) (fun _ => hno) hex
    · rw [hsz]
      exact grown_size w _ cap e z2.cells olds news ei.size hzsz (by rw [el, hs.sz, Nat.add_mul])
    · refine (rowOf_append hro hn (fun i hi => ?_) (fun i v hv => ?_)).keeps hk
      · rw [hsz] at hi
        rw [Array.append_assoc, Array.getElem?_append_left (by simp [el]; exact hi)]
      · have hi : i < news.length := (List.getElem?_eq_some_iff.1 hv).1
        rw [hsz, ← el, Array.getElem?_append_left (by simp; omega), Array.getElem?_append_right (by simp)]
        simp [hv]
  rcases hrow with ⟨ex, rfl⟩ | ⟨k, cap, ex, hfk, hr⟩
  · -- nil
    by_cases hm : m.length = 0
    · have hm2 : m = [] := List.eq_nil_of_length_eq_zero hm
      subst hm2
      have hnews : news = [] := List.eq_nil_of_length_eq_zero (by rw [hs.sz]; simp)
      obtain ⟨dx, hdx, hni⟩ := hs.und
      have hn2 := notInt hni
      have hrun : (Builtin.append_ #[t, xt] o.type #[a.eval x, a.eval y]).run P w = .ok (.slice none 0 0) w := by
        rw [ex]
        unfold Builtin.append_
        simp only [List.getElem?_toArray, List.getElem?_cons_zero, List.getElem?_cons_succ, Sem.run_bind, run_underlying ht, run_underlying hdx, Result.andThen_ok, E.sizeOf, Sem.run_pure, hn2, Bool.false_eq_true, if_false, hs.len, Sem.run_ite,
          List.length_nil, Nat.add_zero, Nat.le_refl, if_true, Bool.not_false]
        have := hs.cells w rfl
        simp only [List.length_nil] at this
        rw [this]; rfl
      obtain ⟨q1, _⟩ := h1.newTok (t := tt) (sh := sh) (T := ei.ty) (l := []) (tg := ⟨.slice none 0 0, none, ei.ty.size⟩) habs (fun k hk => by cases hk) ⟨rfl, .inl ⟨rfl, rfl, rfl⟩⟩
      have q4 := q1.tmp (VR_ref (t := tt) (tg := ⟨.slice none 0 0, none, ei.ty.size⟩) (by simp [upd_same]) rfl) (hd tt hdst)
      refine goes_value (g' := { g with τ := upd g.τ tt (some ⟨.slice none 0 0, none, ei.ty.size⟩) }) (execOp_append ho hrun) ?_ (BelowB.refl _ _)
      rw [hdst, S.puts_append, ← hs1]
      exact q4
    · refine new none 0 0 [] ex rfl (by simp) (by omega) (fun w' _ => run_firstCells_none w' _ _ _ _) (fun j q hq => by simp at hq)
  · obtain ⟨us, el, fr, r1, r2, r3, r4⟩ := hr.row
    have hfit : l.length * ei.ty.size ≤ us.size := Nat.le_trans (Nat.mul_le_mul_right _ hr.len) r3
    by_cases hc : l.length + m.length ≤ cap
    · have hrun := run_append_fit (ty := o.type) E ht hs r1 r2.1 hc (by rw [← hsz]; exact r3)
      rw [← ex] at hrun
      have hex := execOp_append ho hrun
      have hnl : news.length = m.length * ei.size := hs.sz
      have hfit2 : l.length * ei.size + news.length ≤ us.toList.length := by
        have : (l.length + m.length) * ei.ty.size ≤ cap * ei.ty.size := Nat.mul_le_mul_right _ hc
        rw [Nat.add_mul, hsz] at this
        rw [hsz] at r3
        simp; omega
      have hr' := setRow_heap w k us (over us.toList (l.length * ei.size) news).toArray el fr r1
      have hsize : (over us.toList (l.length * ei.size) news).toArray.size = us.size := by rw [List.size_toArray, over_len hfit2]; simp
      have hsame : ∀ i, i < l.length * ei.size → (over us.toList (l.length * ei.size) news).toArray[i]? = us[i]? := by
        intro i hi; rw [List.getElem?_toArray, over_get hfit2, if_pos hi]; simp
      obtain ⟨o1, ok⟩ := h1.other hfk (only_setRow (w := w) k (over us.toList (l.length * ei.size) news).toArray) (fun o p => by
        rw [cell_of hr', cell_of r1]; exact hsame o (by rw [← hsz]; exact hr.prlt o p))
      refine fin _ g k cap _ el fr o1 (below_setRow hr.above _) hfk hr.above hr' (by rw [hsize]; exact r2) hc (by rw [hsize]; exact r3) ?_ (fun o p => by have := hr.prlt o p; rw [List.length_append, Nat.add_mul]; omega) hr.prno hex
      refine (rowOf_append r4 hn (fun i hi => hsame i (by rw [← hsz]; exact hi)) (fun i v hv => ?_)).keeps ok.pr
      have hi : i < news.length := (List.getElem?_eq_some_iff.1 hv).1
      rw [hsz, List.getElem?_toArray, over_get hfit2, if_neg (by omega), if_pos (by omega), show l.length * ei.size + i - l.length * ei.size = i from by omega]
      exact hv
    · refine new (some ⟨k, 0, none⟩) l.length cap (us.toList.take (l.length * ei.size)) ex rfl (by rw [List.length_take, Array.length_toList, ← hsz]; exact Nat.min_eq_left hfit) hc ?_ ?_
      · intro w' hw'
        refine run_firstCells_some w' ei.size l.length ⟨k, 0, none⟩ l.length cap _ (by rw [List.length_take, Array.length_toList, ← hsz]; exact Nat.min_eq_left hfit) ?_
        intro j v hv
        rw [cell_same_heap hw', addr_add, Nat.zero_add, cell_of r1]
        rw [List.getElem?_take] at hv
        split at hv
        · simpa using hv
        · cases hv
      · intro j q hq
        obtain ⟨vs, v1, v2, v3⟩ := r4 j q hq
        refine ⟨vs, v1, fun i v hv => ?_, v3⟩
        have hj : j < l.length := (List.getElem?_eq_some_iff.1 hq).1
        have hi : i < ei.ty.size := by rw [← v1]; exact (List.getElem?_eq_some_iff.1 hv).1
        have : (j + 1) * ei.ty.size ≤ l.length * ei.ty.size := Nat.mul_le_mul_right _ hj
        have : (j + 1) * ei.ty.size = j * ei.ty.size + ei.ty.size := by rw [Nat.add_mul]; omega
        rw [List.getElem?_toArray, List.getElem?_take, if_pos (by rw [← hsz]; omega)]
        simpa using v2 i v hv
theorem goes_appendTo (h : Rel B g s w a N) (hd : ∀ t, o.dst = some t → t < N) {t xt e : TypeId} {x y : Operand} (ho : o.op = .call { callee := .builtin .append, args := #[x, y], argTypes := #[t, xt] })
    {ei : TInfo} {ti2 : TypeInfo} {d2 : TypeDesc} {z2 : Value} (E : TypeIs P e ei ti2 d2 z2) (hun : P.underlying t = some (.slice e)) (hpos : 0 < ei.bytes) {tt : Tmp} (hdst : o.dst = some tt)
    {p : AV} (hp : VR w g p (a.eval x)) (m : List ei.ty.den) (news : List Value) (hs : Src P w xt (a.eval y) ei.size m.length news)
    (hn : ∀ (j : Nat) (q : ei.ty.den), m[j]? = some q → ∃ vs, vs.length = ei.ty.size ∧ (∀ (i : Nat) (v : Value), vs[i]? = some v → news[j * ei.ty.size + i]? = some v) ∧ TR w g.pr ei.ty q vs)
    (he : (appendTo tt ei p m).Ev C Rd s ws) : Goes P B N o s w a ws := by
  unfold appendTo at he
  cases p with
  | nilsl =>
    obtain ⟨hb, _, he⟩ := he
    have hb : m.length * ei.bytes ≤ 140737488355328 := by simpa using hb
    cases ht : s.toks tt with
    | dead => rw [ht] at he; exact he.elim
    | mlive _ _ => rw [ht] at he; exact he.elim
    | live _ _ _ => rw [ht] at he; exact he.elim
    | abs =>
      rw [ht] at he
      have : ws = _ := he
      subst this
      exact append_own h hd ho E hun hpos hdst hs hn (ws1 := []) s rfl (sh := false) (l := []) ht (by simpa using hb) h (.inl ⟨hp, rfl⟩)
  | ref t' =>
    obtain ⟨_, he⟩ := he
    cases ht' : s.toks t' with
    | abs => rw [ht'] at he; exact he.elim
    | dead => rw [ht'] at he; exact he.elim
    | mlive _ _ => rw [ht'] at he; exact he.elim
    | live sh T' l =>
      rw [ht'] at he
      simp only [] at he
      cases hdc : T'.dec ei.ty with
      | none => rw [hdc] at he; exact he.elim
      | some hh =>
        rw [hdc] at he
        obtain ⟨hb, _, he⟩ := he
        have hb : (l.length + m.length) * ei.bytes ≤ 140737488355328 := by simpa using hb
        cases ht : s.toks tt with
        | dead => rw [ht] at he; exact he.elim
        | mlive _ _ => rw [ht] at he; exact he.elim
        | live _ _ _ => rw [ht] at he; exact he.elim
        | abs =>
          rw [ht] at he
          have : ws = _ := he
          subst this
          have hne : tt ≠ t' := by rintro rfl; rw [ht] at ht'; cases ht'
          obtain ⟨tg, hτ, ez, r⟩ := h.tk t' sh T' l ht'
          obtain ⟨tg', hτ', hu, _⟩ := hp
          rw [hτ] at hτ'; cases hτ'
          have hk := h.kill t' (by rw [ht']; simp)
          have habs : (s.put (.tok t' .dead)).toks tt = .abs := by simp [S.put, upd_ne _ _ _ _ hne, ht]
          have hlive : (s.toks t').isLive = true := by rw [ht']; rfl
          clear hdc he
          obtain ⟨hTT⟩ := hh
          subst hTT
          refine append_own h hd ho E hun hpos hdst hs hn (ws1 := [.tok t' .dead]) (s.put (.tok t' .dead)) rfl (sh := sh) (l := l) habs hb hk ?_
          rcases r with ⟨e1, _, e2⟩ | ⟨k, cap, e1, e2, r⟩
          · exact .inl ⟨hu.trans e1, e2⟩
          · refine .inr ⟨k, cap, hu.trans e1, ⟨fun b eb => h.tbx t' tg k b hlive hτ e2 eb, fun t2 tg2 hl2 hτ2 hb2 => ?_⟩, r⟩
            by_cases et : t2 = t'
            · subst et; simp [S.put, upd_same, Tok.isLive] at hl2
            · simp only [S.put, upd_ne _ _ _ _ et] at hl2
              exact et (h.tinj t2 t' tg2 tg k hl2 hlive hτ2 hτ hb2 e2)
  | _ => exact he.elim
theorem content_evV (h : Rel B g s w a N) {T : Ty} {v : AV} {u : Value} {W : List Wr} {k : List T.den → Pg} (hv : VR w g v u) (he : (content T v k).Ev C Rd s W) :
    ∃ l, (k l).Ev C Rd s W ∧ Reads w g.pr T l u := by
  rcases VR_or hv with ⟨vs, rfl, _⟩ | hl
  · exact he.elim
  · exact content_ev h hl he
theorem goes_append (hT : TIok P TI) (h : Rel B g s w a N) (hd : ∀ t, o.dst = some t → t < N) {t xt : TypeId} {x y : Operand} (ho : o.op = .call { callee := .builtin .append, args := #[x, y], argTypes := #[t, xt] })
    {p q : AV} (hp : VR w g p (a.eval x)) (hq : VR w g q (a.eval y)) (he : (pgAppend TI o.dst t xt p q).Ev C Rd s ws) : Goes P B N o s w a ws := by
  unfold pgAppend at he
  cases hdst : o.dst with
  | none => rw [hdst] at he; exact he.elim
  | some tt =>
    rw [hdst] at he
    simp only [] at he
    unfold tinf at he
    cases hi : TI t with
    | none => rw [hi] at he; exact he.elim
    | some i =>
      rw [hi] at he
      obtain ⟨ti, d, z, T⟩ := hT.get hi
      cases hkn : i.kn with
      | slice e =>
        simp only [hkn] at he
        cases hei : TI e with
        | none => rw [hei] at he; exact he.elim
        | some ei =>
          rw [hei] at he
          simp only [] at he
          obtain ⟨ti2, d2, z2', E⟩ := hT.get hei
          have hun := T.slice hkn
          obtain ⟨hpos, he⟩ := he
          have hpos : 0 < ei.bytes := by simpa using hpos
          unfold appendSrc tinf at he
          cases hxi : TI xt with
          | none => rw [hxi] at he; exact he.elim
          | some xi =>
            rw [hxi] at he
            obtain ⟨_, _, _, X⟩ := hT.get hxi
            cases hxk : xi.kn with
            | slice e' =>
              simp only [hxk] at he
              obtain ⟨m, he, hr⟩ := content_evV h hq he
              obtain ⟨news, hs, hn⟩ := Src.of_reads (X.slice hxk) E.tysz hr
              exact goes_appendTo h hd ho E hun hpos hdst hp m news hs hn he
            | str =>
              simp only [hxk] at he
              cases q with
              | str b =>
                simp only [] at he
                cases hdc : (Ty.int .u8).dec ei.ty with
                | none => rw [hdc] at he; exact he.elim
                | some hh =>
                  rw [hdc] at he
                  simp only [] at he
                  have hx := X.str hxk
                  have hyy := VR_str hq
                  clear hdc
                  obtain ⟨hTT⟩ := hh
                  have hsz : ei.size = 1 := by rw [← E.tysz, ← hTT]; rfl
                  obtain ⟨news, hs, hn⟩ := Src.of_str (w := w) (pr := g.pr) (b := b) hx
                  have hlenb : (toBytes b).length = b.length := by simp [toBytes]
                  have gen : ∀ (T : Ty) (hT1 : Ty.int .u8 = T), ∀ (j : Nat) (q : T.den), (cast (congrArg (fun T => List (Ty.den T)) hT1) (toBytes b) : List T.den)[j]? = some q → ∃ vs, vs.length = T.size ∧ (∀ (i : Nat) (v : Value), vs[i]? = some v → news[j * T.size + i]? = some v) ∧ TR w g.pr T q vs := by
                    intro T hT1
                    subst hT1
                    exact hn
                  have gen2 : ∀ (T : Ty) (hT1 : Ty.int .u8 = T), (cast (congrArg (fun T => List (Ty.den T)) hT1) (toBytes b) : List T.den).length = b.length := by
                    intro T hT1
                    subst hT1
                    exact hlenb
                  refine goes_appendTo h hd ho E hun hpos hdst hp _ news ?_ (gen _ hTT) he
                  rw [gen2 _ hTT, hyy, hsz]; exact hs
              | _ => exact he.elim
            | _ => simp only [hxk] at he; exact he.elim
      | _ => simp only [hkn] at he; exact he.elim
end
end Go.Proofs.Ytjonpmckkmnemaa.Th
set_option linter.unusedVariables false
set_option linter.unusedSimpArgs false
namespace Go.Proofs.Ytjonpmckkmnemaa.Th
open Go Go.RowKit
section
variable {P : Program} {TI : TEnv} {C : FuncId → List AV → AV → Prop} {Rd : Rs → Prop} {μ : Bool} {B : Bd μ} {N : Nat} {g g' : Gh} {s : S} {w w' : World} {a : Act} {o : Oper} {ws : List Wr}
theorem TR.cut {pr : Nat → Nat → Prop} {T : Ty} {l : List T.den} {ad : Option Addr} {n c lo hi m : Nat} (h : TR w pr (.slice T) l [.slice ad n c]) (h1 : lo ≤ hi) (h2 : hi ≤ l.length) (h3 : hi ≤ m) (h4 : m ≤ c) :
    TR w pr (.slice T) ((l.take hi).drop lo) [.slice (if m = lo then ad else ad.map (·.add (lo * T.size))) (hi - lo) (m - lo)] := by
  obtain ⟨a0, c0, e, hc, hr⟩ := (show SlR _ _ _ _ _ _ from h)
  have e2 : Value.slice ad n c = .slice a0 l.length c0 := by simpa using e
  cases e2
  have hlen : ((l.take hi).drop lo).length = hi - lo := by simp; omega
  refine ⟨_, _, by rw [hlen], ⟨by rw [hlen]; omega, fun ha => ?_⟩, fun j x hx => ?_⟩
  · by_cases hm : m = lo
    · omega
    · rw [if_neg hm] at ha
      have : ad = none := by cases ad with
        | none => rfl
        | some _ => cases ha
      have := hc.2 this
      omega
  have hj : j < hi - lo := by rw [← hlen]; exact (List.getElem?_eq_some_iff.1 hx).1
  rw [List.getElem?_drop, List.getElem?_take, if_pos (by omega)] at hx
  obtain ⟨a1, vs, e1, v1, v2, v3⟩ := hr (lo + j) x hx
  refine ⟨a1.add (lo * T.size), vs, by rw [if_neg (by omega), e1]; rfl, v1, fun i v hv => ?_, v3⟩
  rw [add_add]
  have := v2 i v hv
  rwa [show lo * T.size + (j * T.size + i) = (lo + j) * T.size + i from by rw [Nat.add_mul]; omega]
theorem run_bound {k : IntKind} {n : Int} {y : Nat} {code : BoundsCode} (h0 : 0 ≤ n) (h1 : n ≤ y) : (Instr.sliceBound (.int k n) y code).run P w = .ok n.toNat w := by
  have : (0 ≤ n ∧ n ≤ (y : Int)) := ⟨h0, h1⟩
  simp only [Instr.sliceBound, asIntOf, Sem.run_bind, Sem.run_pure, Result.andThen_ok, this, and_self, if_true]
def BV (v : Option Value) (dflt : Nat) (n : Int) : Prop := (v = none ∧ n = dflt) ∨ ∃ k, v = some (.int k n)
theorem bnd_ev {v : Option AV} {u : Option Value} {dflt : Nat} {k : Int → Pg} (hv : (v = none ∧ u = none) ∨ ∃ x y, v = some x ∧ u = some y ∧ VR w g x y) (he : (bnd v dflt k).Ev C Rd s ws) :
    ∃ n, BV u dflt n ∧ (k n).Ev C Rd s ws := by
  rcases hv with ⟨rfl, rfl⟩ | ⟨x, y, rfl, rfl, h⟩
  · exact ⟨_, .inl ⟨rfl, rfl⟩, he⟩
  · unfold bnd at he
    cases x with
    | int j n => exact ⟨n, .inr ⟨j, by rw [VR_int h]⟩, he⟩
    | _ => exact he.elim
theorem run_bounds {isSlice : Bool} {len cap : Nat} {lo hi mx : Option Value} {x y z : Int} (hlo : BV lo 0 x) (hhi : BV hi len y) (hmx : BV mx len z) (h0 : 0 ≤ x) (h1 : x ≤ y) (h2 : y ≤ z) (h3 : z ≤ len) (hc : len ≤ cap)
    (hm : mx.isSome = true → hi.isSome = true) :
    ∃ m : Nat, (Instr.sliceBounds isSlice len cap lo hi mx).run P w = .ok (x.toNat, y.toNat, m) w ∧ y.toNat ≤ m ∧ m ≤ cap := by
  rcases hmx with ⟨rfl, rfl⟩ | ⟨km, rfl⟩
  · refine ⟨cap, ?_, by omega, Nat.le_refl _⟩
    rcases hhi with ⟨rfl, rfl⟩ | ⟨kh, rfl⟩
    · rcases hlo with ⟨rfl, rfl⟩ | ⟨kl, rfl⟩
      · simp [Instr.sliceBounds]
      · simp only [Instr.sliceBounds, Sem.run_bind, Sem.run_pure, Result.andThen_ok, Option.isSome_none, Bool.false_eq_true, if_false, run_bound h0 h1]
        simp
    · rcases hlo with ⟨rfl, rfl⟩ | ⟨kl, rfl⟩
      · simp only [Instr.sliceBounds, Sem.run_bind, Sem.run_pure, Result.andThen_ok, run_bound (by omega : 0 ≤ y) (by omega : y ≤ (cap : Int))]
        simp
      · simp only [Instr.sliceBounds, Sem.run_bind, Sem.run_pure, Result.andThen_ok, Option.isSome_none, Bool.false_eq_true, if_false, run_bound (by omega : 0 ≤ y) (by omega : y ≤ (cap : Int)), run_bound h0 (by omega : x ≤ (y.toNat : Int))]
  · have hh := hm rfl
    rcases hhi with ⟨rfl, _⟩ | ⟨kh, rfl⟩
    · cases hh
    · refine ⟨z.toNat, ?_, by omega, by omega⟩
      rcases hlo with ⟨rfl, rfl⟩ | ⟨kl, rfl⟩
      · simp only [Instr.sliceBounds, Sem.run_bind, Sem.run_pure, Result.andThen_ok, run_bound (by omega : 0 ≤ z) (by omega : z ≤ (cap : Int)), run_bound (by omega : 0 ≤ y) (by omega : y ≤ (z.toNat : Int))]
        simp
      · simp only [Instr.sliceBounds, Sem.run_bind, Sem.run_pure, Result.andThen_ok, Option.isSome_some, if_true, run_bound (by omega : 0 ≤ z) (by omega : z ≤ (cap : Int)), run_bound (by omega : 0 ≤ y) (by omega : y ≤ (z.toNat : Int)), run_bound h0 (by omega : x ≤ (y.toNat : Int))]
theorem strV_extract (l : List UInt8) (i j : Nat) : Value.string ((⟨l.toArray⟩ : ByteArray).extract i j) = strV ((l.take j).drop i) := by
  unfold strV
  congr 1
  apply ByteArray.ext
  rw [ByteArray.data_extract]
  simp [List.extract_toArray, List.extract_eq_take_drop, List.drop_take]
theorem goes_slice (hT : TIok P TI) (h : Rel B g s w a N) (hd : ∀ t, o.dst = some t → t < N) {t : TypeId} {x : Operand} {lo hi mx : Option Operand} (ho : o.op = .slice t x lo hi mx)
    {p : AV} {vl vh vm : Option AV} (hp : VR w g p (a.eval x))
    (hl : (vl = none ∧ lo.map a.eval = none) ∨ ∃ x y, vl = some x ∧ lo.map a.eval = some y ∧ VR w g x y) (hh : (vh = none ∧ hi.map a.eval = none) ∨ ∃ x y, vh = some x ∧ hi.map a.eval = some y ∧ VR w g x y)
    (hm : (vm = none ∧ mx.map a.eval = none) ∨ ∃ x y, vm = some x ∧ mx.map a.eval = some y ∧ VR w g x y) (hmh : (mx.map a.eval).isSome = true → (hi.map a.eval).isSome = true)
    (he : (pgSlice TI o.dst t p vl vh vm).Ev C Rd s ws) : Goes P B N o s w a ws := by
  unfold pgSlice at he
  split at he
  · rename_i b
    have hx := VR_str hp
    unfold tinf at he
    cases hi' : TI t with
    | none => rw [hi'] at he; exact he.elim
    | some i =>
    rw [hi'] at he
    obtain ⟨ti, d, z, T⟩ := hT.get hi'
    simp only [] at he
    split at he
    case h_2 => exact he.elim
    case h_1 hkn =>
      have hun := T.str hkn
      have hmn : mx.map a.eval = none := by rcases hm with ⟨_, e⟩ | ⟨_, _, e, _⟩
                                            · exact e
                                            · cases e
      obtain ⟨n1, b1, he⟩ := bnd_ev hl he
      obtain ⟨n2, b2, he⟩ := bnd_ev hh he
      obtain ⟨c1, c2, c3, he⟩ := he
      have c1 : 0 ≤ n1 := by simpa using c1
      have c2 : n1 ≤ n2 := by simpa using c2
      have c3 : n2 ≤ b.length := by simpa using c3
      have hsz : (⟨b.toArray⟩ : ByteArray).size = b.length := by simp [ByteArray.size]
      obtain ⟨m, hrun, _, _⟩ := run_bounds (P := P) (w := w) (isSlice := false) (len := b.length) (cap := b.length) b1 b2 (mx := none) (z := b.length) (.inl ⟨rfl, rfl⟩) c1 c2 c3 (Int.le_refl _) (Nat.le_refl _) (by simp)
      refine goes_str h hd ?_ he
      rw [← strV_extract]
      simp only [execOp, ho, hx, strV, Instr.sliceAt, Sem.run_bind, run_underlying hun, Result.andThen_ok, Instr.slice, hmn, Option.isSome_none, Bool.false_eq_true, if_false, hsz, hrun, Sem.run_pure]
  · rename_i cs off
    unfold tinf at he
    cases hi' : TI t with
    | none => rw [hi'] at he; exact he.elim
    | some i =>
    rw [hi'] at he
    obtain ⟨ti, d, z, T⟩ := hT.get hi'
    simp only [] at he
    split at he
    case h_2 => exact he.elim
    case h_1 m et hkn =>
      cases hei : TI et with
      | none => rw [hei] at he; exact he.elim
      | some ei =>
        rw [hei] at he
        simp only [] at he
        obtain ⟨_, _, _, E⟩ := hT.get hei
        have hun := T.arrd hkn
        cases hty : ei.ty with
        | slice e =>
          simp only [hty] at he
          have hsz : ei.size = 1 := by rw [← E.tysz, hty]; rfl
          have e1 : lo.map a.eval = none := by rcases hl with ⟨_, e⟩ | ⟨_, _, e, _⟩
                                               · exact e
                                               · cases e
          have e2 : hi.map a.eval = none := by rcases hh with ⟨_, e⟩ | ⟨_, _, e, _⟩
                                               · exact e
                                               · cases e
          have e3 : mx.map a.eval = none := by rcases hm with ⟨_, e⟩ | ⟨_, _, e, _⟩
                                               · exact e
                                               · cases e
          cases hoa : oArr e m ((cs.drop off).take m) with
          | none => rw [hoa] at he; exact he.elim
          | some l =>
            rw [hoa] at he
            simp only [] at he
            obtain ⟨ad, us, hu, hc, hcell⟩ := hp
            have hlen := (oArr_len hoa).1
            have htr := oArr_TR hoa ((hc.drop off).take m)
            refine goes_pure h hd (VR_of_LR (show LR w g (.sl (.slice e) l) (.slice (some (ad.add off)) l.length l.length) from ⟨_, _, rfl, ⟨Nat.le_refl _, fun e => by cases e⟩, fun j x hj => ?_⟩)) ?_ he
            · obtain ⟨u, hu2, hr⟩ := htr.get j x hj
              have hjl : j < m := hlen ▸ (List.getElem?_eq_some_iff.1 hj).1
              rw [List.getElem?_take_of_lt hjl, List.getElem?_drop] at hu2
              refine ⟨_, [u], rfl, rfl, fun i v hv => ?_, hr⟩
              have hi : i = 0 := by have := (List.getElem?_eq_some_iff.1 hv).1; simpa using this
              subst hi
              cases hv
              rw [add_add, show (Ty.slice e).size = 1 from rfl, Nat.mul_one, Nat.add_zero]
              exact hcell _ _ hu2
            · simp only [execOp, ho, hu, Instr.sliceAt, Sem.run_bind, run_underlying hun, Result.andThen_ok, Instr.sureAddr, e1, e2, e3, Instr.sliceBounds, Sem.run_pure, E.sizeOf, Nat.zero_mul, Nat.sub_zero, hlen]
              simp [Addr.add]
        | _ => simp only [hty] at he; exact he.elim
  · unfold tinf at he
    cases hi' : TI t with
    | none => rw [hi'] at he; exact he.elim
    | some i =>
      rw [hi'] at he
      obtain ⟨ti, d, z, T⟩ := hT.get hi'
      cases hkn : i.kn with
      | slice e =>
        simp only [hkn] at he
        cases hei : TI e with
        | none => rw [hei] at he; exact he.elim
        | some ei =>
          rw [hei] at he
          simp only [] at he
          obtain ⟨ti2, d2, z2', E⟩ := hT.get hei
          have hun := T.slice hkn
          obtain ⟨v', ws', g1, he, hpm, h2, hk, hpv⟩ := snap1_ev (Promo.refl s) (by simpa [S.puts] using h) hp he
          have hlist : ∃ l, TR w g1.pr (.slice ei.ty) l [a.eval x] ∧ (bnd vl 0 fun a => bnd vh l.length fun b => bnd vm l.length fun m =>
              .chk (decide (0 ≤ a)) (.chk (decide (a ≤ b)) (.chk (decide (b ≤ m)) (.chk (decide (m ≤ l.length)) (.ret (ws' ++ wrd o.dst (.sl ei.ty ((l.take b.toNat).drop a.toNat)))))))).Ev C Rd s ws := by
            unfold plainList at he
            split at he
            · refine ⟨[], ?_, he⟩
              rcases hpv with e1 | ⟨_, _, e1, _⟩
              · rw [show a.eval x = _ from e1]; exact TR_nilsl _ _ _
              · cases e1
            · rename_i T' l'
              cases hdc : T'.dec ei.ty with
              | none => rw [hdc] at he; exact he.elim
              | some hh' =>
                rw [hdc] at he
                clear hdc
                obtain ⟨hTT⟩ := hh'
                subst hTT
                refine ⟨l', ?_, he⟩
                rcases hpv with e1 | ⟨_, _, e1, _⟩
                · exact e1
                · cases e1
            · exact he.elim
          obtain ⟨l, htr, he⟩ := hlist
          obtain ⟨n1, b1, he⟩ := bnd_ev hl he
          obtain ⟨n2, b2, he⟩ := bnd_ev hh he
          obtain ⟨n3, b3, he⟩ := bnd_ev hm he
          obtain ⟨c1, c2, c3, c4, he⟩ := he
          have c1 : 0 ≤ n1 := by simpa using c1
          have c2 : n1 ≤ n2 := by simpa using c2
          have c3 : n2 ≤ n3 := by simpa using c3
          have c4 : n3 ≤ l.length := by simpa using c4
          have : ws = _ := he
          subst this
          obtain ⟨ad, c, e0, hc, _⟩ := (show SlR _ _ _ _ _ _ from htr)
          have e0 : a.eval x = .slice ad l.length c := by simpa using e0
          rw [e0] at htr
          obtain ⟨m, hrun, hm1, _⟩ := run_bounds (P := P) (w := w) (isSlice := true) (len := l.length) (cap := c) b1 b2 b3 c1 c2 c3 c4 hc.1 hmh
          have hcut := htr.cut (lo := n1.toNat) (hi := n2.toNat) (m := m) (by omega) (by omega) hm1 (by assumption)
          have hend := h2.wrd (d := o.dst) (v := .sl ei.ty ((l.take n2.toNat).drop n1.toNat)) (VR_of_LR (show LR w g1 (.sl ei.ty _) _ from hcut)) hd
          refine goes_value (g' := g1) ?_ (by rw [S.puts_append]; exact hend) (BelowB.refl _ _)
          simp only [execOp, ho, e0, Instr.sliceAt, Sem.run_bind, run_underlying hun, Result.andThen_ok, Instr.slice, hrun, E.sizeOf, E.tysz, Sem.run_pure]
      | _ => simp only [hkn] at he; exact he.elim
theorem goes_view (hT : TIok P TI) (h : Rel B g s w a N) (hd : ∀ t, o.dst = some t → t < N) {t : TypeId} {x y : Operand} (ho : o.op = .slice t x (some y) none none)
    {p q : AV} (hp : VR w g p (a.eval x)) (hq : VR w g q (a.eval y)) (he : (pgView TI o.dst t p q).Ev C Rd s ws) : Goes P B N o s w a ws := by
  unfold pgView at he
  split at he
  case h_2 => exact he.elim
  rename_i tk kk n
  have hy := VR_int hq
  unfold tinf at he
  cases hi' : TI t with
  | none => rw [hi'] at he; exact he.elim
  | some i =>
  rw [hi'] at he
  obtain ⟨ti, d, z, T⟩ := hT.get hi'
  simp only [] at he
  split at he
  case h_2 => exact he.elim
  case h_1 e hkn =>
  cases hei : TI e with
  | none => rw [hei] at he; exact he.elim
  | some ei =>
  rw [hei] at he
  obtain ⟨ti2, d2, z2', E⟩ := hT.get hei
  simp only [] at he
  obtain ⟨_, he⟩ := he
  cases ht : s.toks tk with
  | abs => rw [ht] at he; exact he.elim
  | dead => rw [ht] at he; exact he.elim
  | mlive _ _ => rw [ht] at he; exact he.elim
  | live sh T' l =>
  rw [ht] at he
  cases sh with
  | true => exact he.elim
  | false =>
  simp only [] at he
  cases hdc : T'.dec ei.ty with
  | none => rw [hdc] at he; exact he.elim
  | some hh =>
  rw [hdc] at he
  clear hdc
  obtain ⟨hTT⟩ := hh
  subst hTT
  obtain ⟨c1, c2, he⟩ := he
  have c1 : 0 ≤ n := by simpa using c1
  have c2 : n ≤ l.length := by simpa using c2
  obtain ⟨tg, hτ, hv, hone⟩ := (show LR w g (.ref tk) _ from hp)
  obtain ⟨tg', e', ez, r⟩ := h.tk tk false _ l ht
  rw [hτ] at e'; cases e'
  obtain ⟨A0, c, hval, hlc, hA⟩ : ∃ A0 c, tg.val = .slice A0 l.length c ∧ l.length ≤ c ∧ (0 < l.length → ∃ k, tg.blk = some k ∧ A0 = some ⟨k, 0, none⟩) := by
    rcases r with ⟨r1, r2, r3⟩ | ⟨k, cap, r1, r2, r3⟩
    · subst r3; exact ⟨none, 0, r1, Nat.le_refl _, fun h0 => absurd h0 (Nat.lt_irrefl _)⟩
    · exact ⟨_, cap, r1, r3.len, fun _ => ⟨k, r2, rfl⟩⟩
  have hun := T.slice hkn
  obtain ⟨m, hrun, hm1, _⟩ := run_bounds (P := P) (w := w) (isSlice := true) (len := l.length) (cap := c) (lo := some (a.eval y)) (hi := none) (mx := none) (x := n) (y := l.length) (z := l.length) (.inr ⟨_, by rw [hy]⟩) (.inl ⟨rfl, rfl⟩) (.inl ⟨rfl, rfl⟩) c1 c2 (Int.le_refl _) (Int.le_refl _) hlc (by simp)
  rw [Int.toNat_natCast] at hrun hm1
  rw [hval] at hv
  refine goes_pure h hd (show VR w g (.view tk n.toNat) (.slice (if m = n.toNat then A0 else A0.map (·.add (n.toNat * ei.ty.size))) (l.length - n.toNat) (m - n.toNat)) from ⟨tg, _, A0, l.length, c, _, hτ, hval, rfl, fun hlt => ?_⟩) ?_ he
  · obtain ⟨k, hk1, hk2⟩ := hA (by omega)
    refine ⟨k, hk1, ?_⟩
    rw [if_neg (by omega), hk2, ez]
    simp [Addr.add_lit]
  · simp only [execOp, ho, hv, Instr.sliceAt, Sem.run_bind, run_underlying hun, Result.andThen_ok, Instr.slice, Option.map_some, Option.map_none, hrun, E.sizeOf, E.tysz, Sem.run_pure]
theorem zc_mem {z : Array Value} {n : Nat} {v : Value} (h : v ∈ (Builtin.zeroCells z n).toList) : v ∈ z.toList := by
  unfold Builtin.zeroCells at h
  rw [Array.toList_map, List.mem_map] at h
  obtain ⟨i, hi, rfl⟩ := h
  rw [Array.toList_range, List.mem_range] at hi
  have hz : 0 < z.size := by
    rcases Nat.eq_zero_or_pos z.size with h0 | h0
    · rw [h0, Nat.mul_zero] at hi; exact absurd hi (Nat.not_lt_zero _)
    · exact h0
  rw [getElem!_pos z (i % z.size) (Nat.mod_lt _ hz)]
  simp
theorem run_clr {P : Program} (w : World) (t e ty : TypeId) (z : Value) (ht : P.underlying t = some (.slice e)) (hv : ∀ w, (zeroValue e).run P w = .ok z w) (h1 : ∀ v ∈ z.cells.toList, v.oneCell' = true) {b : Nat} {us : Array Value} {e0 : TypeId} {fr : Nat × Nat} (hr : w.heap[b]? = some (.cells us e0 fr)) (hth : Thawed fr us.size)
    (o n c : Nat) (hn : 0 < n) (hfit : o + n * z.cells.size ≤ us.size) :
    (Builtin.clear_ #[t] ty #[.slice (some ⟨b, o, none⟩) n c]).run P w = .ok (.tuple #[]) (w.setRow b (over us.toList o (Builtin.zeroCells z.cells n).toList).toArray) := by
  have hst := run_storeRow (P := P) (Builtin.zeroCells z.cells n).toList o 0 w us hr hth (by simpa [Builtin.zeroCells] using hfit) (fun v hv => h1 v (zc_mem hv))
  simp only [Nat.add_zero] at hst
  obtain ⟨m, rfl⟩ : ∃ m, n = m + 1 := ⟨n - 1, by omega⟩
  simp [Builtin.clear_, run_underlying ht, hv, hst]
theorem rowOf_clr {pr : Nat → Nat → Prop} {T : Ty} {l : List T.den} {us : Array Value} {zs : List Value} (h : RowOf w pr T l us) (hz : TR w pr T T.dflt zs) {i : Nat} (hi : i ≤ l.length) (hfit : l.length * T.size ≤ us.size) :
    RowOf w pr T (l.take i ++ List.replicate (l.length - i) T.dflt) (over us.toList (i * T.size) (Builtin.zeroCells zs.toArray (l.length - i)).toList).toArray := by
  have hl := hz.len
  have hzl : (Builtin.zeroCells zs.toArray (l.length - i)).toList.length = (l.length - i) * T.size := by simp [Builtin.zeroCells, hl]
  have hsum : (l.length - i) * T.size + i * T.size = l.length * T.size := by rw [← Nat.add_mul]; congr 1; omega
  have hfit2 : i * T.size + (Builtin.zeroCells zs.toArray (l.length - i)).toList.length ≤ us.toList.length := by rw [hzl, Array.length_toList (xs := us)]; omega
  have hlt : (l.take i).length = i := by rw [List.length_take]; omega
  intro j x hx
  by_cases hj : j < i
  · rw [List.getElem?_append_left (by omega), List.getElem?_take_of_lt hj] at hx
    obtain ⟨vs, v1, v2, v3⟩ := h j x hx
    refine ⟨vs, v1, fun y v hv => ?_, v3⟩
    have hy : y < T.size := by rw [← v1]; exact (List.getElem?_eq_some_iff.1 hv).1
    have : (j + 1) * T.size ≤ i * T.size := Nat.mul_le_mul_right _ hj
    have : (j + 1) * T.size = j * T.size + T.size := by rw [Nat.add_mul]; omega
    rw [List.getElem?_toArray, over_get hfit2, if_pos (by omega), Array.getElem?_toList]
    exact v2 y v hv
  · rw [List.getElem?_append_right (by omega), hlt] at hx
    obtain ⟨vs, v1, v2, v3⟩ := rowOf_zero hz (l.length - i) (j - i) x hx
    refine ⟨vs, v1, fun y v hv => ?_, v3⟩
    have hv2 := v2 y v hv
    have hb := (Array.getElem?_eq_some_iff.1 hv2).1
    simp only [Array.size_map, Array.size_range] at hb
    have hji : (j - i) * T.size + i * T.size = j * T.size := by rw [← Nat.add_mul]; congr 1; omega
    rw [List.getElem?_toArray, over_get hfit2, if_neg (by omega), if_pos (by rw [hzl]; omega), show j * T.size + y - i * T.size = (j - i) * T.size + y by omega, Array.getElem?_toList]
    rw [← hv2]
    simp only [Builtin.zeroCells, List.size_toArray, hl]
theorem execOp_clear {t : TypeId} {x : Operand} (ho : o.op = .call { callee := .builtin .clear, args := #[x], argTypes := #[t] }) {u v : Value} (hu : a.eval x = u) (hr : (Builtin.clear_ #[t] o.type #[u]).run P w = .ok v w') :
    (execOp a.eval o).run P w = .ok (.value v) w' := by
  simp [execOp, ho, resolve, invoke, builtin, hu, hr, Result.andThen]
theorem goes_clear (hT : TIok P TI) (h : Rel B g s w a N) {t : TypeId} {x : Operand} (ho : o.op = .call { callee := .builtin .clear, args := #[x], argTypes := #[t] }) {p : AV} (hp : VR w g p (a.eval x))
    (he : (pgClear TI o.dst t p).Ev C Rd s ws) : Goes P B N o s w a ws := by
  unfold pgClear at he
  split at he
  case h_2 => exact he.elim
  rename_i tk n hdst
  unfold tinf at he
  cases hi' : TI t with
  | none => rw [hi'] at he; exact he.elim
  | some i =>
  rw [hi'] at he
  obtain ⟨ti, d, z, T⟩ := hT.get hi'
  simp only [] at he
  split at he
  case h_2 => exact he.elim
  case h_1 e hkn =>
  cases hei : TI e with
  | none => rw [hei] at he; exact he.elim
  | some ei =>
  rw [hei] at he
  obtain ⟨ti2, d2, z2, E⟩ := hT.get hei
  simp only [] at he
  obtain ⟨hrep, _, he⟩ := he
  cases ht : s.toks tk with
  | abs => rw [ht] at he; exact he.elim
  | dead => rw [ht] at he; exact he.elim
  | mlive _ _ => rw [ht] at he; exact he.elim
  | live sh T' l =>
  rw [ht] at he
  cases sh with
  | true => exact he.elim
  | false =>
  simp only [] at he
  cases hdc : T'.dec ei.ty with
  | none => rw [hdc] at he; exact he.elim
  | some hh =>
  rw [hdc] at he
  clear hdc
  obtain ⟨hTT⟩ := hh
  subst hTT
  obtain ⟨c2, he⟩ := he
  have c2 : n ≤ l.length := by simpa using c2
  have : ws = _ := he
  subst this
  have hun := T.slice hkn
  obtain ⟨tg, A, A0, n', c, c', hτ, hval, hu, hA⟩ := (show LR w g (.view tk n) _ from hp)
  obtain ⟨tg', e', ez, r⟩ := h.tk tk false _ l ht
  rw [hτ] at e'; cases e'
  have hn' : n' = l.length := by
    rcases r with ⟨r1, _, r3⟩ | ⟨k, cap, r1, _, _⟩
    · rw [hval] at r1; cases r1; subst r3; rfl
    · rw [hval] at r1; cases r1; rfl
  subst hn'
  have hz : TR w g.pr ei.ty ei.ty.dflt z2.cells.toList := zOf_TR (E.zrep hrep)
  have hzs : z2.cells.size = ei.ty.size := by have := hz.len; simpa using this
  by_cases hlt : n < l.length
  · obtain ⟨k, hblk, hA⟩ := hA hlt
    rcases r with ⟨_, e, _⟩ | ⟨k', cap, r1, e, r⟩
    · rw [hblk] at e; cases e
    rw [hblk] at e; cases e
    obtain ⟨us, el, fr, q1, q2, q3, q4⟩ := r.row
    have hfit : l.length * ei.ty.size ≤ us.size := Nat.le_trans (Nat.mul_le_mul_right _ r.len) q3
    have hsum : (l.length - n) * ei.ty.size + n * ei.ty.size = l.length * ei.ty.size := by rw [← Nat.add_mul]; congr 1; omega
    have hrun := run_clr (P := P) w t e o.type z2 hun (fun w => by simp [zeroValue, typeInfo, E.info, E.zero]) hz.one q1 q2.1 (n * ei.ty.size) (l.length - n) c' (by omega) (by rw [hzs]; omega)
    rw [ez] at hA
    rw [hA] at hu
    have hr' := setRow_heap w k us (over us.toList (n * ei.ty.size) (Builtin.zeroCells z2.cells (l.length - n)).toList).toArray el fr q1
    have hsize : (over us.toList (n * ei.ty.size) (Builtin.zeroCells z2.cells (l.length - n)).toList).toArray.size = us.size := by
      rw [List.size_toArray, over_len (by simp [Builtin.zeroCells, hzs]; omega)]; simp
    have hrow := rowOf_clr q4 hz c2 hfit
    rw [Array.toArray_toList] at hrow
    obtain ⟨h3, _⟩ := h.setTok ht hτ r1 hblk (l' := l.take n ++ List.replicate (l.length - n) ei.ty.dflt) (by simp; omega) (only_setRow k _) hr' (by rw [hsize]; exact q2) (by rw [hsize]; exact q3) hrow
    refine goes_value (g' := g) (u := .tuple #[]) ?_ (by rw [hdst]; exact h3) (below_setRow r.above _)
    exact execOp_clear ho hu hrun
  · have hnl : n = l.length := by omega
    subst hnl
    have hl : l.take l.length ++ List.replicate (l.length - l.length) ei.ty.dflt = l := by simp
    rw [hl]
    rw [Nat.sub_self] at hu
    have hrun : (Builtin.clear_ #[t] o.type #[.slice A 0 c']).run P w = .ok (.tuple #[]) w := by
      cases A <;> simp [Builtin.clear_, run_underlying hun]
    refine goes_value (g' := g) (u := .tuple #[]) ?_ (by rw [hdst, show s.puts [Wr.tok tk (.live false ei.ty l)] = s from put_tok_self _ _ _ ht]; exact h) (BelowB.refl _ _)
    exact execOp_clear ho hu hrun
theorem shape_alloc (W : World) (us : Array Value) (e : TypeId) : (W.alloc (.cells us e)).shape? W.heap.size = some (e, us.size) := by
  unfold World.shape?
  rw [show (W.alloc (.cells us e)).heap[W.heap.size]? = some (.cells us e) from alloc_new W _]
theorem world_heap {w : World} {h1 h2 : Array Obj} (h : h1 = h2) : ({ w with heap := h1 } : World) = { w with heap := h2 } := by rw [h]
theorem freeze_alloc (W : World) (us : Array Value) (e : TypeId) : (W.alloc (.cells us e)).freeze ⟨W.heap.size, us.size, none⟩ 1 = W.alloc (.cells us e (us.size, us.size + 1)) := by
  unfold World.freeze
  rw [if_neg (by omega)]
  refine (world_heap (w := W) (h1 := _) (h2 := W.heap.push (.cells us e (us.size, us.size + 1))) ?_)
  apply Array.ext_getElem?
  intro i
  have : (W.alloc (.cells us e)).heap = W.heap.push (.cells us e) := rfl
  rw [this]
  simp only [Array.getElem?_modify, Array.getElem?_push]
  by_cases e1 : i = W.heap.size
  · subst e1; simp
  · have : ¬ W.heap.size = i := fun h => e1 h.symm
    simp [this, e1]
theorem goes_s2b (h : Rel B g s w a N) (hd : ∀ t, o.dst = some t → t < N) {src dst e : TypeId} {x : Operand} (ho : o.op = .convert src dst x) (hdst : P.underlying dst = some (.slice e)) (he8 : P.underlying e = some (.int .u8)) (hsrc : ∃ d, P.underlying src = some d) {b : List UInt8}
    (hx : a.eval x = strV b) {tt : Tmp} (hdt : o.dst = some tt) (ht : s.toks tt = .abs) : Goes P B N o s w a [.tok tt (.live false (.int .u8) (toBytes b)), .tmp tt (.ref tt)] := by
  obtain ⟨d, hd1⟩ := hsrc
  let cap := grownCap w b.length 0 e
  let us : Array Value := (⟨b.toArray⟩ : ByteArray).data.map (fun b => Value.int .u8 b.toNat) ++ Array.replicate (cap - b.length) (.int .u8 0)
  have hge : b.length ≤ cap := grownCap_ge w b.length 0 e
  have hus : us.size = cap := by simp [us]; omega
  obtain ⟨h1, _⟩ := h.heap (w' := w.drew) rfl
  have hrow : RowOf w.drew g.pr (.int .u8) (toBytes b) us := by
    intro j y hy0
    have hy : (List.map (fun q : UInt8 => (q.toNat : Int)) b)[j]? = some y := hy0
    rw [List.getElem?_map] at hy
    refine ⟨[.int .u8 y], rfl, fun i v hv => ?_, rfl⟩
    have hi : i = 0 := by have := (List.getElem?_eq_some_iff.1 hv).1; simpa using this
    subst hi
    simp at hv; subst hv
    cases hb : b[j]? with
    | none => rw [hb] at hy; cases hy
    | some q =>
      rw [hb] at hy; simp only [Option.map_some] at hy
      have hy : (q.toNat : Int) = y := by injection hy
      subst hy
      have hj : j < b.length := (List.getElem?_eq_some_iff.1 hb).1
      have hbj : b[j] = q := (List.getElem?_eq_some_iff.1 hb).2
      simp only [Ty.size, Nat.mul_one, Nat.add_zero, us]
      rw [Array.getElem?_append_left (by simpa using hj)]
      simp [hj, hbj]
  have hlen : List.length (α := (Ty.int .u8).den) (toBytes b) = b.length := by show (toBytes b).length = _; simp [toBytes]
  obtain ⟨g2, tg, h3, hτ, htv⟩ := h1.newTokAt ht (us := us) e (fr := (us.size, us.size + 1)) (cap := cap) ⟨⟨Nat.le_succ _, by intro o' ho'; simp; omega⟩, fun _ h => absurd rfl h⟩ (by rw [hlen]; exact hge) (by simp [Ty.size, hus]) hrow
  have h4 := h3.tmp (VR_ref hτ htv) (hd tt hdt)
  refine goes_value (g' := g2) (w' := w.drew.alloc (.cells us e (us.size, us.size + 1))) (u := .slice (some ⟨w.heap.size, 0, none⟩) b.length cap) ?_ (by rw [hdt]; rw [hlen] at h4; exact h4) (((BelowB.refl B w).drew).alloc h1.hB _)
  have hsz : (⟨b.toArray⟩ : ByteArray).size = b.length := by simp [ByteArray.size]
  have hconv : (Conv.stringToBytes e ⟨b.toArray⟩).run P w = .ok (.slice (some ⟨w.heap.size, 0, none⟩) b.length cap) (w.drew.alloc (.cells us e (us.size, us.size + 1))) := by
    have hsh := shape_alloc w.drew us e
    have hfz := freeze_alloc w.drew us e
    simp only [Conv.stringToBytes, Sem.run_bind, run_choose_drew, Question.forced, Bool.false_eq_true, if_false, Result.andThen_ok, newRow, run_newObj_alloc, Sem.run_pure, markStringish, run_shape, hsz]
    have e0 : (Question.appendCap b.length 0 e).cut (w.tape w.drawn (Question.appendCap b.length 0 e)) = cap := rfl
    rw [e0]
    have hus2 : (⟨b.toArray⟩ : ByteArray).data.map (fun b => Value.int .u8 b.toNat) ++ Array.replicate (cap - b.length) (.int .u8 0) = us := rfl
    rw [hus2]
    simp only [hsh, run_freeze, hfz, Result.andThen_ok]
    rfl
  simp only [execOp, ho, hx, strV, Sem.run_bind, convert, run_underlying hd1, run_underlying hdst, Result.andThen_ok, run_underlying he8, hconv, Sem.run_pure]
end
end Go.Proofs.Ytjonpmckkmnemaa.Th
set_option linter.unusedVariables false
set_option linter.unusedSimpArgs false
namespace Go.Proofs.Ytjonpmckkmnemaa.Th
open Go Go.RowKit
section
variable {P : Program} {TI : TEnv} {C : FuncId → List AV → AV → Prop} {Rd : Rs → Prop} {μ : Bool} {B : Bd μ} {N : Nat} {g g' : Gh} {s : S} {w w' : World} {a : Act} {o : Oper} {ws : List Wr}
theorem push_fold (l : List Int) : ∀ b : ByteArray, (l.foldl (fun r n => r.push (UInt8.ofNat n.toNat)) b) = ⟨b.data ++ (ofBytes l).toArray⟩ := by
  induction l with
  | nil => intro b; simp [ofBytes]
  | cons n l ih =>
    intro b
    rw [List.foldl_cons, ih]
    apply ByteArray.ext
    simp [ofBytes, ByteArray.data_push]
theorem goes_b2s (h : Rel B g s w a N) (hd : ∀ t, o.dst = some t → t < N) {src dst e : TypeId} {x : Operand} (ho : o.op = .convert src dst x) (hs : P.underlying src = some (.slice e)) (he8 : P.underlying e = some (.int .u8)) (hdst : P.underlying dst = some .string)
    {l : List Int} (hr : Reads w g.pr (.int .u8) l (a.eval x)) (he : (retv o.dst (.str (ofBytes l))).Ev C Rd s ws) : Goes P B N o s w a ws := by
  refine goes_str h hd ?_ he
  obtain ⟨ad, c, news, e00, hc0, hl0, hnil0, hcell, h1, hrow0⟩ := hr.flat
  have e0 : a.eval x = .slice ad (List.length (α := Int) l) c := e00
  have hl : news.length = List.length (α := Int) l * 1 := hl0
  have hnil : ad = none → (l : List Int) = [] := hnil0
  have hrow : ∀ (j : Nat) (y : Int), (l : List Int)[j]? = some y → ∃ vs : List Value, vs.length = 1 ∧ (∀ (i : Nat) (v : Value), vs[i]? = some v → news[j * 1 + i]? = some v) ∧ vs = [.int .u8 y] := hrow0
  clear e00 hc0 hl0 hnil0 hrow0
  have hnews : news = l.map (Value.int .u8) := by
    have hl' : news.length = l.length := by omega
    apply List.ext_getElem?
    intro j
    rw [List.getElem?_map]
    cases hj : l[j]? with
    | none =>
      have : l.length ≤ j := by simpa using hj
      simp; omega
    | some y =>
      obtain ⟨vs, v1, v2, v3⟩ := hrow j y hj
      have := v2 0 (.int .u8 y) (by rw [v3]; rfl)
      simpa using this
  simp only [execOp, ho, e0, Sem.run_bind, run_convert_bytes_string w src dst e _ _ _ hs he8 hdst]
  cases ad with
  | none =>
    have := hnil rfl; subst this
    simp [Conv.bytesToString, strV, ofBytes]
    rfl
  | some ad =>
    have hload := run_loadCells_list (P := P) w ad news (fun j v hv => hcell ad rfl j v hv)
    have hl' : news.length = l.length := by rw [hnews]; simp
    rw [hl', hnews] at hload
    rw [run_bytesToString w ad l.length c l hload]
    simp only [Result.andThen_ok, Sem.run_pure, push_fold, strV]
    congr 4
    simp
theorem thawed_mark {fr : Nat × Nat} {n : Nat} (h : Thawed fr n) : Thawed (if fr.1 == fr.2 then (n, n + 1) else (min fr.1 n, max fr.2 (n + 1))) n := by
  obtain ⟨hle, h⟩ := h
  split
  · exact ⟨Nat.le_succ _, fun o ho => by simp; omega⟩
  · rename_i hne
    have hne : fr.1 ≠ fr.2 := by simpa using hne
    refine ⟨by simp; omega, fun o ho => ?_⟩
    by_cases h1 : fr.1 < n
    · have := h fr.1 h1
      simp at this
      omega
    · simp; omega
theorem remark_freeze {w : World} {k : Nat} {us : Array Value} {e : TypeId} {fr : Nat × Nat} (hr : w.heap[k]? = some (.cells us e fr)) : Remark w (w.freeze ⟨k, us.size, none⟩ 1) := by
  have hf : w.freeze ⟨k, us.size, none⟩ 1 = { w with heap := w.heap.modify k fun
      | .cells c elem (lo, hi) => .cells c elem (if lo == hi then (us.size, us.size + 1) else (min lo us.size, max hi (us.size + 1)))
      | o => o } := rfl
  rw [hf]
  refine ⟨by simp, fun i => ?_⟩
  by_cases e1 : i = k
  · subst e1
    right
    exact ⟨us, e, fr, _, hr, by simp only [Array.getElem?_modify, if_true, hr, Option.map_some], thawed_mark⟩
  · left
    have : ¬ k = i := fun h => e1 h.symm
    simp [Array.getElem?_modify, this]
theorem goes_s2s (h : Rel B g s w a N) (hd : ∀ t, o.dst = some t → t < N) {src e : TypeId} {x : Operand} (ho : o.op = .convert src src x) (hs : P.underlying src = some (.slice e)) (he8 : P.underlying e = some (.int .u8))
    {t : Nat} (hp : VR w g (.ref t) (a.eval x)) {sh : Bool} {T : Ty} (hT8 : T = .int .u8) {y : T.den} {l : List T.den} (ht : s.toks t = .live sh T (y :: l)) (he : (retv o.dst (.ref t)).Ev C Rd s ws) : Goes P B N o s w a ws := by
  obtain ⟨tg, e1, e2, e3⟩ := hp
  obtain ⟨tg', q1, q2, q3⟩ := h.tk t sh T (y :: l) ht
  rw [e1] at q1; cases q1
  rcases q3 with ⟨_, _, q⟩ | ⟨k, cap, v1, v2, v3⟩
  · cases q
  · obtain ⟨us, el, fr, r1, r2, r3, r4⟩ := v3.row
    obtain ⟨h2, hk⟩ := h.remark (remark_freeze r1) fun t2 T2 l2 h2 n2 tg2 k2 e2 b2 => by
      have hne : ¬ k = k2 := fun e => by
        subst e
        have := h.tinj t2 t tg2 tg k (by rw [h2]; rfl) (by rw [ht]; rfl) e2 e1 b2 v2
        subst this
        rw [ht] at h2
        cases h2
        exact n2 hT8
      show (w.heap.modify k _)[k2]? = _
      simp [Array.getElem?_modify, hne]
    have hv : VR (w.freeze ⟨k, us.size, none⟩ 1) g (.ref t) (a.eval x) := VR.keeps hk (show VR w g (.ref t) (a.eval x) from ⟨tg, e1, e2, e3⟩)
    have hx : a.eval x = .slice (some ⟨k, 0, none⟩) (y :: l).length cap := by rw [e2, v1]
    have : ws = wrd o.dst (.ref t) := he
    subst this
    refine goes_value (g' := g) (w' := w.freeze ⟨k, us.size, none⟩ 1) (u := a.eval x) ?_ (h2.wrd hv hd) ?_
    · have hsh : w.shape? k = some (el, us.size) := by unfold World.shape?; rw [r1]
      simp only [execOp, ho, hx, Sem.run_bind, convert, run_underlying hs, run_underlying he8, Result.andThen_ok, beq_self_eq_true, markStringish, run_shape, hsh, run_freeze, Sem.run_pure]
    · have hab := v3.above
      refine ⟨rfl, rfl, rfl, ?_, fun i hi => ?_, fun _ => Nat.le_refl _⟩
      · rw [(remark_freeze r1).1]; exact Nat.le_refl _
      · have : ¬ k = i := fun e => hi (e ▸ hab)
        show (w.heap.modify k _)[i]? = _
        simp [Array.getElem?_modify, this]
theorem goes_convert (hT : TIok P TI) (h : Rel B g s w a N) (hd : ∀ t, o.dst = some t → t < N) {src dst : TypeId} {x : Operand} (ho : o.op = .convert src dst x)
    (he0 : (rdv x fun x => pgConvert TI o.dst src dst x).Ev C Rd s ws) : Goes P B N o s w a ws := by
  obtain ⟨p, hp, he⟩ := rdv_ev h he0
  clear he0
  unfold pgConvert tinf at he
  cases hisrc : TI src with
  | none => rw [hisrc] at he; exact he.elim
  | some isrc =>
  rw [hisrc] at he
  simp only [] at he
  obtain ⟨_, ds, _, SR0⟩ := hT.get hisrc
  have hds := SR0.und
  cases hi : TI dst with
  | none => rw [hi] at he; exact he.elim
  | some i =>
    rw [hi] at he
    obtain ⟨ti, d, z, T⟩ := hT.get hi
    simp only [] at he
    split at he
    · rename_i k _ n hk
      have hx := VR_int hp
      have hud := T.int hk
      refine goes_int h hd ?_ he
      simp only [execOp, ho, hx, Sem.run_bind, convert, run_underlying hds, run_underlying hud, Result.andThen_ok, Conv.intToInt, Sem.run_pure]
    · rename_i n hk
      have hx := VR_int hp
      have hud := T.flt hk
      refine goes_flt h hd ?_ he
      simp only [execOp, ho, hx, Sem.run_bind, run_convert_int_float w src dst _ .f64 n (by rw [hds]; rfl) hud, Result.andThen_ok, Sem.run_pure]
      rfl
    · rename_i k b hk
      have hx := VR_flt hp
      have hud := T.int hk
      obtain ⟨h1, he⟩ := he
      have hv : floatToIntVal .f64 b k = some (iVal k b) := by
        unfold iOK at h1; unfold iVal
        cases hf : floatToIntVal .f64 b k with
        | none => rw [hf] at h1; cases h1
        | some v => rfl
      refine goes_int h hd ?_ he
      simp only [execOp, ho, hx, Sem.run_bind, run_convert_float_int w src dst .f64 k b _ (by rw [hds]; rfl) hud hv, Result.andThen_ok, Sem.run_pure]
    · rename_i b hk
      have hx := VR_str hp
      have hud := T.str hk
      refine goes_str h hd ?_ he
      simp only [execOp, ho, hx, strV, Sem.run_bind, convert, run_underlying hds, run_underlying hud, Result.andThen_ok, Sem.run_pure]
    · rename_i e b hk
      have hx := VR_str hp
      have hud := T.slice hk
      cases hei : TI e with
      | none => rw [hei] at he; exact he.elim
      | some ei =>
        rw [hei] at he
        simp only [] at he
        obtain ⟨_, _, _, E⟩ := hT.get hei
        split at he
        · rename_i tt hek hdt
          obtain ⟨_, he⟩ := he
          cases ht : s.toks tt with
          | dead => rw [ht] at he; exact he.elim
          | mlive _ _ => rw [ht] at he; exact he.elim
          | live _ _ _ => rw [ht] at he; exact he.elim
          | abs =>
            rw [ht] at he
            have : ws = _ := he
            subst this
            exact goes_s2b h hd ho hud (E.int hek) ⟨ds, hds⟩ hx hdt ht
        · exact he.elim
    · rename_i e t hk
      have hud := T.slice hk
      split at he
      · rename_i hsd
        have hsd : src = dst := eq_of_beq (by simpa using hsd)
        subst hsd
        cases hei : TI e with
        | none => rw [hei] at he; exact he.elim
        | some ei =>
          rw [hei] at he
          simp only [] at he
          obtain ⟨_, _, _, E⟩ := hT.get hei
          split at he
          · rename_i hek
            obtain ⟨_, he⟩ := he
            cases ht : s.toks t with
            | abs => rw [ht] at he; exact he.elim
            | dead => rw [ht] at he; exact he.elim
            | mlive _ _ => rw [ht] at he; exact he.elim
            | live sh T' l =>
              rw [ht] at he
              simp only [] at he
              cases hd8 : T'.dec (.int .u8) with
              | none => rw [hd8] at he; exact he.elim
              | some hh =>
              rw [hd8] at he
              simp only [] at he
              cases l with
              | nil => exact he.elim
              | cons y l =>
                simp only [] at he
                exact goes_s2s h hd ho hud (E.int hek) hp hh.down ht he
          · exact he.elim
      · exact he.elim
    · rename_i hk _
      have hud := T.str hk
      split at he
      · rename_i e hks
        cases hei : TI e with
        | none => rw [hei] at he; exact he.elim
        | some ei =>
          rw [hei] at he
          simp only [] at he
          obtain ⟨_, _, _, E⟩ := hT.get hei
          split at he
          · rename_i hek
            obtain ⟨l, he, hr⟩ := content_evV h hp he
            exact goes_b2s h hd ho (SR0.slice hks) (E.int hek) hud hr he
          · exact he.elim
      · exact he.elim
    · exact he.elim
theorem goes_len (hT : TIok P TI) (h : Rel B g s w a N) (hd : ∀ t, o.dst = some t → t < N) {t : TypeId} {x : Operand} (ho : o.op = .call { callee := .builtin .len, args := #[x], argTypes := #[t] })
    {p : AV} (hp : VR w g p (a.eval x)) (he : (pgCall TI o.dst (.builtin .len) [p] [t]).Ev C Rd s ws) : Goes P B N o s w a ws := by
  unfold pgCall at he
  simp only [] at he
  unfold tinf at he
  cases hi : TI t with
  | none => rw [hi] at he; exact he.elim
  | some i =>
    rw [hi] at he
    obtain ⟨ti, d, z, T⟩ := hT.get hi
    simp only [] at he
    split at he
    · rename_i b hk
      have hx := VR_str hp
      have hu := T.str hk
      refine goes_int h hd ?_ he
      simp only [execOp, ho, resolve, invoke, builtin, Builtin.len_, List.map_toArray, List.map_cons, List.map_nil, hx, strV, List.getElem?_toArray, List.getElem?_cons_zero, Sem.run_bind, Sem.run_pure, Result.andThen_ok, run_underlying hu, goInt]
      simp [ByteArray.size]
    · exact he.elim
    · rename_i p _ _ e hk hns
      have hu := T.slice hk
      have hslice : ∀ (n : Nat) (ad : Option Addr) (c : Nat), a.eval x = .slice ad n c → (execOp a.eval o).run P w = .ok (.value (.int .i64 n)) w := by
        intro n ad c hx
        simp only [execOp, ho, resolve, invoke, builtin, Builtin.len_, List.map_toArray, List.map_cons, List.map_nil, hx, List.getElem?_toArray, List.getElem?_cons_zero, Sem.run_bind, Sem.run_pure, Result.andThen_ok, run_underlying hu, goInt]
      unfold lenOf at he
      cases p with
      | nilsl => exact goes_int h hd (n := 0) (hslice 0 none 0 hp) he
      | sl T l =>
        obtain ⟨ad, c, e0, _⟩ := (show SlR _ _ _ _ _ _ from hp)
        have e0 : a.eval x = .slice ad l.length c := by simpa using e0
        exact goes_int h hd (hslice _ ad c e0) he
      | str b => exact absurd rfl (hns b)
      | ref t' =>
        simp only [] at he
        obtain ⟨_, he⟩ := he
        cases ht : s.toks t' with
        | abs => rw [ht] at he; exact he.elim
        | dead => rw [ht] at he; exact he.elim
        | mlive _ _ => rw [ht] at he; exact he.elim
        | live sh T l =>
          rw [ht] at he
          obtain ⟨tg, e, ok⟩ := h.tk t' sh T l ht
          obtain ⟨tg', e', hu2, _⟩ := hp
          rw [e] at e'; cases e'
          obtain ⟨ad, c, e2, _⟩ := ok.reads.out
          exact goes_int h hd (hslice _ ad c (hu2.trans e2)) he
      | _ => exact he.elim
    · exact he.elim
theorem pack1_TR {pr : Nat → Nat → Prop} {v : AV} {u : Value} {p : Pk} (h : pack1 v = some p) (hv : PV w pr v u) : TR w pr p.T p.x [u] := by
  rcases hv with hv | ⟨_, _, e, _⟩
  · cases v <;> first | (simp only [pack1, Option.some.injEq] at h; subst h; first | exact hv | exact congrArg (fun z => [z]) hv) | cases h
  · rw [e] at h; cases h
theorem pack_TR {pr : Nat → Nat → Prop} : ∀ {vs : List AV} {us : List Value} {p : Pk}, pack vs = some p → All2 (PV w pr) vs us → TR w pr p.T p.x us
  | [], [], p, h, _ => by simp only [pack, Option.some.injEq] at h; subst h; rfl
  | v :: vs, u :: us, p, h, hv => by
    unfold pack at h
    split at h
    · rename_i a b ha hb
      simp only [Option.some.injEq] at h
      subst h
      exact ⟨[u], us, rfl, pack1_TR ha hv.1, pack_TR hb hv.2⟩
    · cases h
  | [], _ :: _, _, _, h => h.elim
  | _ :: _, [], _, _, h => h.elim
theorem pack_isSt : ∀ {vs : List AV} {p : Pk}, pack vs = some p → p.T.isSt = false
  | [], p, h => by simp only [pack, Option.some.injEq] at h; subst h; rfl
  | v :: vs, p, h => by
    unfold pack at h
    split at h
    · simp only [Option.some.injEq] at h
      subst h; rfl
    · cases h
theorem pack_plain : ∀ {vs : List AV} {p : Pk}, pack vs = some p → vs.all isPlainCell = true
  | [], _, _ => rfl
  | v :: vs, p, h => by
    unfold pack at h
    cases h1 : pack1 v with
    | none => rw [h1] at h; simp at h
    | some a =>
      cases h2 : pack vs with
      | none => rw [h1, h2] at h; simp at h
      | some b =>
        have hv : isPlainCell v = true := by cases v <;> simp [pack1] at h1 <;> rfl
        simp only [List.all_cons, hv, pack_plain h2, Bool.and_self]
theorem Rel.freeze (h : Rel B g s w a N) {b k : Nat} {cs cs1 : List AV} (hb : s.boxes b = some cs) (hβ : g.β b = some k) {us : Array Value} {el : TypeId} {fr : Nat × Nat} (hr : w.heap[k]? = some (.cells us el fr)) (hc : All2 (PR w g.pr) cs1 us.toList) :
    Rel B { g with pr := fun k' o => g.pr k' o ∨ (k' = k ∧ o < us.size) } (s.put (.box b (cs1.map .fz))) w a N ∧ Keeps w g w { g with pr := fun k' o => g.pr k' o ∨ (k' = k ∧ o < us.size) } := by
  obtain ⟨k0, e0, ok⟩ := h.bx b cs hb
  rw [hβ] at e0; cases e0
  obtain ⟨us0, el0, fr0, r1, r2, r3⟩ := ok.row
  rw [hr] at r1; cases r1
  have hk : Keeps w g w { g with pr := fun k' o => g.pr k' o ∨ (k' = k ∧ o < us.size) } := ⟨fun _ _ p => ⟨.inl p, rfl⟩, fun _ _ x => x, fun _ _ x => x⟩
  have hlt : k < w.heap.size := (Array.getElem?_eq_some_iff.1 hr).1
  have hlen := hc.len
  have hlen0 := r3.len
  refine ⟨⟨h.df, h.nt, h.hB, fun t => (h.tm t).keeps hk, ?_, ?_, ?_, h.binj, h.tk0, ?_, h.tinj, h.tbx, ?_, h.ex.keep hk (fun b' hb' => ?_), fun t K l e => let ⟨tg, e1, ok⟩ := h.mp t K l e; ⟨tg, e1, ok.keep hk.pr fun i hi _ => ⟨rfl, fun o p => p.elim id fun q => absurd hβ (h.tbx t tg k b (by rw [show s.toks t = _ from e]; rfl) e1 (by rw [hi, q.1]))⟩⟩⟩, hk⟩
  · rintro k' o (p | ⟨rfl, _⟩)
    · exact h.prlt k' o p
    · exact hlt
  · intro b' e'
    by_cases eb : b' = b
    · subst eb; simp [S.put, upd_same] at e'
    · simp only [S.put, upd_ne _ _ _ _ eb] at e'; exact h.bx0 b' e'
  · intro b' cs2 hb'
    by_cases eb : b' = b
    · subst eb
      simp only [S.put, upd_same] at hb'; cases hb'
      refine ⟨k, hβ, ok.above, fun o p => ?_, us, el, fr, hr, r2, ?_⟩
      · have ho : o < us.size := by
          rcases p with p | ⟨_, p⟩
          · obtain ⟨v, hv⟩ := ok.free o p
            have := (List.getElem?_eq_some_iff.1 hv).1
            simp at hlen0; omega
          · exact p
        have ho2 : o < cs1.length := by simp at hlen; omega
        exact ⟨cs1[o], by simp [ho2]⟩
      · refine All2.of_get (by simpa using hlen) fun i x u hx hu => ?_
        rw [List.getElem?_map] at hx
        cases hq : cs1[i]? with
        | none => rw [hq] at hx; cases hx
        | some v =>
          rw [hq] at hx
          simp only [Option.map_some, Option.some.injEq] at hx
          subst hx
          obtain ⟨u', hu', hp⟩ := hc.get i v hq
          rw [hu] at hu'; cases hu'
          exact PR.keeps hk.pr hp
    · simp only [S.put, upd_ne _ _ _ _ eb] at hb'
      obtain ⟨i, ei, ab, free, us2, el2, f, q1, q2, q3⟩ := h.bx b' cs2 hb'
      have hne : i ≠ k := fun e' => eb (h.binj b' b k (by rw [ei, e']) hβ)
      refine ⟨i, ei, ab, ?_, us2, el2, f, q1, q2, q3.imp fun _ _ => LR.keeps hk⟩
      rintro o (p | ⟨e, _⟩)
      · exact free o p
      · exact absurd e hne
  · intro t sh T l ht
    obtain ⟨tg, e, ez, r⟩ := h.tk t sh T l ht
    refine ⟨tg, e, ez, r.imp id ?_⟩
    rintro ⟨i, cap, a1, a2, a3⟩
    have hl : (s.toks t).isLive = true := by rw [show s.toks t = _ from ht]; rfl
    have hne : i ≠ k := fun e' => h.tbx t tg k b hl e (by rw [a2, e']) hβ
    obtain ⟨us2, el2, f, q1, q2, q3, q4⟩ := a3.row
    have hno : ∀ o, (g.pr i o ∨ (i = k ∧ o < us.size)) → g.pr i o := by
      rintro o (p | ⟨e, _⟩)
      · exact p
      · exact absurd e hne
    exact ⟨i, cap, a1, a2, a3.above, a3.len, ⟨us2, el2, f, q1, q2, q3, q4.keeps hk.pr⟩, fun o p => a3.prlt o (hno o p), fun e o p => .inl (a3.prsh e o p), fun e o p => a3.prno e o (hno o p)⟩
  · intro k' o hm
    rw [← h.prB k' o hm]
    refine ⟨?_, .inl⟩
    rintro (p | ⟨rfl, _⟩)
    · exact p
    · exact absurd ok.above hm
  · by_cases eb : b' = b
    · rw [eb, hb]; simp
    · simpa [S.put, upd_ne _ _ _ _ eb] using hb'
def Capt (w : World) (g : Gh) (bs : List (Nat × List AV)) (v : AV) (u : Value) : Prop :=
  PV w g.pr v u ∨ ∃ (b k : Nat) (cs1 : List AV) (us : Array Value) (el : TypeId) (fr : Nat × Nat) (p : Pk), v = .imm p.T p.x ∧ (b, cs1.map .fz) ∈ bs ∧ g.β b = some k ∧ u = .pointer (some ⟨k, 0, none⟩) ∧ pack cs1 = some p ∧ w.heap[k]? = some (.cells us el fr) ∧ All2 (PV w g.pr) cs1 us.toList
def ToFz (w : World) (g : Gh) (s : S) (x : Nat × List AV) : Prop :=
  ∃ (k : Nat) (cs cs1 : List AV) (us : Array Value) (el : TypeId) (fr : Nat × Nat) (p : Pk), s.boxes x.1 = some cs ∧ x.2 = cs1.map .fz ∧ g.β x.1 = some k ∧ pack cs1 = some p ∧ w.heap[k]? = some (.cells us el fr) ∧ All2 (PV w g.pr) cs1 us.toList
theorem Capt.keeps {g g' : Gh} (hk : Keeps w g w g') {bs bs' : List (Nat × List AV)} (hb : ∀ x ∈ bs, x ∈ bs') {v : AV} {u : Value} (h : Capt w g bs v u) : Capt w g' bs' v u := by
  rcases h with h | ⟨b, k, cs1, us, el, fr, p, h1, h2, h3, h4, h5, h6, h7⟩
  · exact .inl (h.keeps hk.pr)
  · exact .inr ⟨b, k, cs1, us, el, fr, p, h1, hb _ h2, hk.β _ _ h3, h4, h5, h6, h7.imp fun _ _ => fun q => q.keeps hk.pr⟩
theorem ToFz.keeps {g g' : Gh} (hk : Keeps w g w g') {x : Nat × List AV} (h : ToFz w g s x) : ToFz w g' s x := by
  obtain ⟨k, cs, cs1, us, el, fr, p, h1, h2, h3, h4, h5, h6⟩ := h
  exact ⟨k, cs, cs1, us, el, fr, p, h1, h2, hk.β _ _ h3, h4, h5, h6.imp fun _ _ => fun q => q.keeps hk.pr⟩
theorem capts_ev : ∀ {vs : List AV} {us : List Value} {ws W : List Wr} {bs : List (Nat × List AV)} {k : List AV → List Wr → List (Nat × List AV) → Pg} {g : Gh}, Promo s (s.puts ws) → Rel B g (s.puts ws) w a N → All2 (VR w g) vs us → (∀ x ∈ bs, ToFz w g s x) →
    (capts vs ws bs k).Ev C Rd s W → ∃ vs' ws' bs' g', (k vs' ws' bs').Ev C Rd s W ∧ Promo s (s.puts ws') ∧ Rel B g' (s.puts ws') w a N ∧ Keeps w g w g' ∧ All2 (Capt w g' bs') vs' us ∧ (∀ x ∈ bs', ToFz w g' s x) ∧ (∀ x ∈ bs, x ∈ bs')
  | [], [], ws, W, bs, k, g, hp, h, _, hb, he => ⟨[], ws, bs, g, he, hp, h, Keeps.refl _ _, trivial, hb, fun _ h => h⟩
  | v :: vs, u :: us, ws, W, bs, k, g, hp, h, hv, hb, he => by
    by_cases hptr : ∃ b off, v = .ptr b off
    · obtain ⟨b, off, rfl⟩ := hptr
      simp only [capts] at he
      obtain ⟨h0, _, he⟩ := he
      have h0 := Nat.eq_of_beq_eq_true h0
      subst h0
      cases hbx : s.boxes b with
      | none => rw [hbx] at he; exact he.elim
      | some cs =>
        rw [hbx] at he
        obtain ⟨kb, hβ, hu⟩ := hv.1
        obtain ⟨k1, e1, ok⟩ := h.bx b cs (by rw [hp.boxes]; exact hbx)
        rw [hβ] at e1; cases e1
        obtain ⟨cus, el, fr, r1, r2, r3⟩ := ok.row
        obtain ⟨cs1, ws1, g1, he, hp1, h1, hk1, hc1⟩ := snaps_ev hp h ((unfz_all r3).imp fun _ _ => VR_of_LR) he
        cases hpk : pack cs1 with
        | none => rw [hpk] at he; exact he.elim
        | some p =>
          rw [hpk] at he
          have hfz : ToFz w g1 s (b, cs1.map .fz) := ⟨kb, cs, cs1, cus, el, fr, p, hbx, rfl, hk1.β _ _ hβ, hpk, r1, hc1⟩
          obtain ⟨vs', ws2, bs', g2, he, hp2, h2, hk2, hv2, hb2, hb3⟩ := capts_ev (bs := bs ++ [(b, cs1.map .fz)]) hp1 h1 (hv.2.imp fun _ _ => VR.keeps hk1) (fun x hx => by
            rcases List.mem_append.1 hx with hx | hx
            · exact (hb x hx).keeps hk1
            · rw [List.mem_singleton.1 hx]; exact hfz) he
          have hin : (b, cs1.map .fz) ∈ bs' := hb3 _ (by simp)
          refine ⟨.imm p.T p.x :: vs', ws2, bs', g2, he, hp2, h2, hk1.trans hk2, ⟨.inr ⟨b, kb, cs1, cus, el, fr, p, rfl, hin, (hk1.trans hk2).β _ _ hβ, hu, hpk, r1, hc1.imp fun _ _ => fun q => q.keeps hk2.pr⟩, hv2⟩, hb2, fun x hx => hb3 x (by simp [hx])⟩
    · have he' : (snap1 v ws fun v' ws' => capts vs ws' bs fun vs' ws'' bs' => k (v' :: vs') ws'' bs').Ev C Rd s W := by
        cases v <;> first | exact he | exact absurd ⟨_, _, rfl⟩ hptr
      obtain ⟨v', ws1, g1, he, hp1, h1, hk1, hv1⟩ := snap1_ev hp h hv.1 he'
      obtain ⟨vs', ws2, bs', g2, he, hp2, h2, hk2, hv2, hb2, hb3⟩ := capts_ev hp1 h1 (hv.2.imp fun _ _ => VR.keeps hk1) (fun x hx => (hb x hx).keeps hk1) he
      exact ⟨v' :: vs', ws2, bs', g2, he, hp2, h2, hk1.trans hk2, ⟨.inl (hv1.keeps hk2.pr), hv2⟩, hb2, hb3⟩
  | [], _ :: _, _, _, _, _, _, _, _, hv, _, _ => hv.elim
  | _ :: _, [], _, _, _, _, _, _, _, hv, _, _ => hv.elim
theorem nodupB0_spec : ∀ {l : List Nat}, nodupB0 l = true → l.Nodup
  | [], _ => List.nodup_nil
  | a :: l, h => by
    simp only [nodupB0, Bool.and_eq_true, Bool.not_eq_true'] at h
    refine List.nodup_cons.2 ⟨fun hm => ?_, nodupB0_spec h.2⟩
    have := List.any_eq_false.1 h.1 a hm
    exact this (Nat.beq_refl a)
theorem freezes_ok : ∀ {bs : List (Nat × List AV)} {ws : List Wr} {g : Gh}, Rel B g (s.puts ws) w a N → (bs.map (·.1)).Nodup → (∀ x ∈ bs, ToFz w g (s.puts ws) x) →
    ∃ g', Rel B g' (s.puts (ws ++ bs.map fun x => .box x.1 x.2)) w a N ∧ Keeps w g w g' ∧ ∀ x ∈ bs, ∀ k, g.β x.1 = some k → ∀ us el fr, w.heap[k]? = some (.cells us el fr) → ∀ o, o < us.size → g'.pr k o
  | [], ws, g, h, _, _ => ⟨g, by simpa using h, Keeps.refl _ _, fun x hx => by cases hx⟩
  | x :: bs, ws, g, h, hn, hb => by
    obtain ⟨k, cs, cs1, us, el, fr, p, b1, b2, b3, b4, b5, b6⟩ := hb x (.head _)
    obtain ⟨h1, hk1⟩ := h.freeze b1 b3 b5 (PV_plain b6 (pack_plain b4))
    have hn' := List.nodup_cons.1 (show ((x.1) :: bs.map (·.1)).Nodup from hn)
    obtain ⟨g2, h2, hk2, hp2⟩ := freezes_ok (bs := bs) (ws := ws ++ [.box x.1 x.2]) (g := { g with pr := fun k' o => g.pr k' o ∨ (k' = k ∧ o < us.size) }) (by rw [S.puts_one, b2]; exact h1) hn'.2 (fun y hy => by
      have hne : y.1 ≠ x.1 := fun e => hn'.1 (e ▸ List.mem_map.2 ⟨y, hy, rfl⟩)
      obtain ⟨k', cs', cs1', us', el', fr', p', c1, c2, c3, c4, c5, c6⟩ := (hb y (.tail _ hy)).keeps hk1
      exact ⟨k', cs', cs1', us', el', fr', p', by rw [S.puts_one]; simp only [S.put, upd_ne _ _ _ _ hne]; exact c1, c2, c3, c4, c5, c6⟩)
    refine ⟨g2, by rw [List.map_cons, ← List.singleton_append, ← List.append_assoc]; exact h2, hk1.trans hk2, fun y hy k' e' us' el' fr' hr' o ho => ?_⟩
    rcases List.mem_cons.1 hy with rfl | hy
    · rw [b3] at e'; cases e'
      rw [b5] at hr'; cases hr'
      exact (hk2.pr k o (.inr ⟨rfl, ho⟩)).1
    · exact hp2 y hy k' e' us' el' fr' hr' o ho
theorem goes_makeFunc (h : Rel B g s w a N) (hd : ∀ t, o.dst = some t → t < N) {f : FuncId} {cap : Array Operand} (ho : o.op = .makeFunc (.func f) #[] cap)
    (he0 : (rdvs cap.toList fun vs => capts vs [] [] fun vs ws bs => .chk (nodupB0 (bs.map (·.1))) (match pack vs with
      | some p => .ret (ws ++ (bs.map fun x => .box x.1 x.2) ++ wrd o.dst (.fnv f p.T p.x))
      | none => .fail)).Ev C Rd s ws) : Goes P B N o s w a ws := by
  obtain ⟨vs, hv, he⟩ := rdvs_ev h he0
  clear he0
  obtain ⟨vs', ws', bs', g1, he, hp, h2, hk, hv2, hb2, _⟩ := capts_ev (bs := []) (Promo.refl s) (by simpa [S.puts] using h) hv (fun x hx => by cases hx) he
  obtain ⟨hnd, he⟩ := he
  cases hpk : pack vs' with
  | none => rw [hpk] at he; exact he.elim
  | some p =>
    rw [hpk] at he
    have : ws = _ := he
    subst this
    obtain ⟨g3, h3, hk3, hp3⟩ := freezes_ok h2 (nodupB0_spec hnd) (fun x hx => by
      obtain ⟨k, cs, cs1, us, el, fr, p, b1, b2, b3, b4, b5, b6⟩ := hb2 x hx
      exact ⟨k, cs, cs1, us, el, fr, p, by rw [hp.boxes]; exact b1, b2, b3, b4, b5, b6⟩)
    have hv3 : All2 (PV w g3.pr) vs' (cap.toList.map a.eval) := by
      refine hv2.imp fun v u hc => ?_
      rcases hc with hc | ⟨b, k, cs1, us, el, fr, q, rfl, c2, c3, rfl, c5, c6, c7⟩
      · exact hc.keeps hk3.pr
      · refine .inl ?_
        show TR w g3.pr (.ref q.T) q.x [_]
        refine ⟨⟨k, 0, none⟩, us.toList, rfl, fun i u hu => ?_, (pack_TR c5 c7).keeps hk3.pr⟩
        have hu' : us[i]? = some u := by simpa using hu
        have hi : i < us.size := (Array.getElem?_eq_some_iff.1 hu').1
        rw [addr_add, Nat.zero_add]
        exact ⟨by rw [cell_of c6]; exact hu', hp3 _ c2 k c3 us el fr c6 i hi⟩
    have hend := h3.wrd (d := o.dst) (v := .fnv f p.T p.x) (VR_of_LR (LR_of_PR (show PR w g3.pr (.fnv f p.T p.x) (.func (.func f) #[] (cap.toList.map a.eval).toArray) from ⟨_, by rw [pack_isSt hpk]; rfl, pack_TR hpk hv3⟩))) hd
    refine goes_value (g' := g3) ?_ (by rw [S.puts_append]; exact hend) (BelowB.refl _ _)
    simp only [execOp, ho, Instr.makeFunc, Sem.run_bind, Sem.run_pure, Result.andThen_ok]
    congr 3
    · simp
    · apply Array.ext'; simp
theorem goes_boxImm (hT : TIok P TI) (h : Rel B g s w a N) (hd : ∀ t, o.dst = some t → t < N) {e : TypeId} {x : Operand} (ho : o.op = .box e x)
    (he0 : (rdv x fun v => match v.isVal with
      | true => snaps v.cells [] fun vs ws => tinf TI e fun i => match vs.all isPlainCell, i.ty.ofCells vs with
        | true, some x => .ret (ws ++ wrd o.dst (.imm i.ty x))
        | _, _ => .fail
      | false => .fail).Ev C Rd s ws) : Goes P B N o s w a ws := by
  obtain ⟨v, hv, he⟩ := rdv_ev h he0
  clear he0
  cases hval : v.isVal with
  | false =>
    rw [hval] at he
    exact he.elim
  | true =>
    obtain ⟨hc, _⟩ := LR_cells (VR_val hv hval) hval
    rw [hval] at he
    simp only [] at he
    obtain ⟨vs, ws', g1, he, hpm, h2, hk, hvs⟩ := snaps_ev (Promo.refl s) (by simpa [S.puts] using h) (hc.imp fun _ _ => VR_of_LR) he
    unfold tinf at he
    cases hti : TI e with
    | none => rw [hti] at he; exact he.elim
    | some i =>
    rw [hti] at he
    simp only [] at he
    cases hpl : vs.all isPlainCell with
    | false => rw [hpl] at he; exact he.elim
    | true =>
    cases hpk : i.ty.ofCells vs with
    | none => rw [hpl, hpk] at he; exact he.elim
    | some px =>
    rw [hpl, hpk] at he
    have : ws = _ := he
    subst this
    have hs : (w.alloc (.cells (a.eval x).cells e)).heap.size = w.heap.size + 1 := by show (w.heap.push _).size = _; exact Array.size_push _
    obtain ⟨h3, hk3⟩ := h2.grow (w' := w.alloc (.cells (a.eval x).cells e)) (pr' := fun k o => g1.pr k o ∨ k = w.heap.size) (by omega) (fun k hk => Below.heap_alloc w _ k hk) (fun k o hk => ⟨fun h => h.elim id fun e => absurd e (by omega), .inl⟩)
      (fun k o h => h.elim (fun h => by have := h2.prlt k o h; omega) fun e => by omega)
    have hnew := alloc_new w (.cells (a.eval x).cells e)
    have hval2 : VR (w.alloc (.cells (a.eval x).cells e)) { g1 with pr := fun k o => g1.pr k o ∨ k = w.heap.size } (.imm i.ty px) (.pointer (some ⟨w.heap.size, 0, none⟩)) := by
      refine VR_of_LR (LR_of_PR (show TR _ _ (.ref i.ty) px [_] from ⟨⟨w.heap.size, 0, none⟩, (a.eval x).cells.toList, rfl, fun i' u hu => ?_, ofCells_TR hpk ((PV_plain hvs hpl).imp fun _ _ h => h.keeps hk3.pr)⟩))
      rw [addr_add, Nat.zero_add]
      exact ⟨by rw [cell_of hnew]; simpa using hu, .inr rfl⟩
    have hend := h3.wrd (d := o.dst) hval2 hd
    refine goes_value (g' := { g1 with pr := fun k o => g1.pr k o ∨ k = w.heap.size }) (w' := w.alloc (.cells (a.eval x).cells e)) (u := .pointer (some ⟨w.heap.size, 0, none⟩)) ?_ (by rw [S.puts_append]; exact hend) (below_alloc h _)
    simp [execOp, ho, Instr.box, newVar, newRow]
theorem goes_makeBound (h : Rel B g s w a N) (hd : ∀ t, o.dst = some t → t < N) {f : FuncId} {x : Operand} (ho : o.op = .makeFunc (.func f) #[x] #[])
    (he0 : (rdv x fun v => snap1 v [] fun v' ws => match v' with
      | .agg cs => match pack cs with
        | some p => .ret (ws ++ wrd o.dst (.fnv f (.st p.T) p.x))
        | none => .fail
      | _ => .fail).Ev C Rd s ws) : Goes P B N o s w a ws := by
  obtain ⟨v, hv, he⟩ := rdv_ev h he0
  clear he0
  obtain ⟨v', ws', g1, he, hp, h2, hk, hv2⟩ := snap1_ev (Promo.refl s) (by simpa [S.puts] using h) hv he
  cases v' with
  | agg cs =>
    simp only [] at he
    cases hpk : pack cs with
    | none => rw [hpk] at he; exact he.elim
    | some p =>
      rw [hpk] at he
      have : ws = _ := he
      subst this
      obtain ⟨us, hu, hall⟩ : ∃ us : List Value, a.eval x = .agg us.toArray ∧ All2 (PR w g1.pr) cs us := by
        rcases hv2 with hc | ⟨cs', us, e, hu, hall⟩
        · exact hc.elim
        · cases e; exact ⟨us, hu, hall⟩
      have hend := h2.wrd (d := o.dst) (v := .fnv f (.st p.T) p.x) (VR_of_LR (LR_of_PR (show PR w g1.pr (.fnv f (.st p.T) p.x) (.func (.func f) #[a.eval x] #[]) from ⟨us, by rw [hu]; rfl, pack_TR hpk (hall.imp fun _ _ => Or.inl)⟩))) hd
      refine goes_value (g' := g1) ?_ (by rw [S.puts_append]; exact hend) (BelowB.refl _ _)
      simp only [execOp, ho, Instr.makeFunc, Sem.run_bind, Sem.run_pure, Result.andThen_ok]
      congr 3 <;> simp
  | _ => exact he.elim
def OwnC {μ : Bool} (B : Bd μ) (w : World) (pr : Nat → Nat → Prop) (v : AV) (u : Value) (b : Option Nat) : Prop :=
  match v with
  | .own T l => ∃ tg, TokOK B w pr false T l tg ∧ u = tg.val ∧ tg.blk = b ∧ (∀ k, b = some k → k < w.heap.size)
  | v => PV w pr v u ∧ b = none
def ResR {μ : Bool} (B : Bd μ) (w : World) (pr : Nat → Nat → Prop) (v : AV) (r : Value) : Prop :=
  match v with
  | .tup vs => ∃ (us : List Value) (bs : List (Option Nat)), r = .tuple us.toArray ∧ vs.length = us.length ∧ bs.length = us.length ∧
      (∀ (i : Nat) (x : AV) (u : Value) (b : Option Nat), vs[i]? = some x → us[i]? = some u → bs[i]? = some b → OwnC B w pr x u b) ∧
      (∀ (i j : Nat) (k : Nat), bs[i]? = some (some k) → bs[j]? = some (some k) → i = j)
  | v => ∃ b, OwnC B w pr v r b
def HasBody (P : Program) (f : FuncId) : Prop := ∃ fn, P.funcs[f]? = some fn ∧ (fn.name == "runtime.NumGoroutine") = false ∧ fn.body.isNone = false
def CallPlain (μ : Bool) (P : Program) (f : FuncId) (args : List AV) (v : AV) : Prop :=
  HasBody P f ∧
  ∀ (w : World) (pr : Nat → Nat → Prop) (us : List Value), (∀ k o, pr k o → k < w.heap.size) → GlobOK w pr → All2 (PV w pr) args us →
    Calls P f us.toArray w fun e w' => ∃ r pr', e = .returned r ∧ BelowM μ w.heap.size w w' ∧ (∀ k o, k < w.heap.size → (pr' k o ↔ pr k o)) ∧ (∀ k o, pr' k o → k < w'.heap.size) ∧ ResR (bd0 μ w.heap.size pr) w' pr' v r
def bdL (μ : Bool) (n : Nat) (pr : Nat → Nat → Prop) (kb : Nat) (own : List (Option Nat)) : Bd μ := ⟨n, pr, fun k => k = kb ∨ some k ∈ own, fun b => if b = lentBox then some kb else none⟩
structure BoxC {μ : Bool} (B : Bd μ) (w : World) (pr : Nat → Nat → Prop) (kb : Nat) (cs : List AV) (own : List (Option Nat)) : Prop where
  row : ∃ us e fr, w.heap[kb]? = some (.cells us e fr) ∧ Thawed fr us.size ∧ cs.length = us.toList.length ∧
    ∀ (i : Nat) (x : AV) (u : Value) (b : Option Nat), cs[i]? = some x → us.toList[i]? = some u → own[i]? = some b → OwnC B w pr x u b
  free : ∀ o, ¬ pr kb o
  len : own.length = cs.length
  inj : ∀ (i j k : Nat), own[i]? = some (some k) → own[j]? = some (some k) → i = j
  ne : ∀ k, some k ∈ own → k ≠ kb
def PtrR (kb : Nat) : AV → Value → Prop
  | .ptr b off, u => b = lentBox ∧ u = .pointer (some ⟨kb, off, none⟩)
  | .parr b off n _ i, u => b = lentBox ∧ i < n ∧ u = .pointer (some ⟨kb, off + i, none⟩)
  | .lev b off f, u => b = lentBox ∧ u = .agg #[.pointer (some ⟨kb, off, none⟩), .func (.func f) #[] #[]]
  | .nilptr, u => u = .pointer none
  | _, _ => False
def ARg (w : World) (pr : Nat → Nat → Prop) (kb : Nat) (v : AV) (u : Value) : Prop := PtrR kb v u ∨ PV w pr v u
theorem PtrR.LR {w : World} {g : Gh} {kb : Nat} {v : AV} {u : Value} (h : PtrR kb v u) (hβ : g.β lentBox = some kb) : LR w g v u := by
  cases v <;> first | exact h.elim | skip
  · exact h
  · obtain ⟨rfl, e⟩ := h; exact ⟨kb, hβ, e⟩
  · obtain ⟨rfl, hi, e⟩ := h; exact ⟨hi, kb, hβ, e⟩
  · obtain ⟨rfl, e⟩ := h; exact ⟨kb, hβ, e⟩
def RetL (w : World) (pr : Nat → Nat → Prop) (kb : Nat) (r : AV) (u : Value) : Prop := match r with
  | .tup vs => ∃ us : List Value, u = .tuple us.toArray ∧ All2 (ARg w pr kb) vs us
  | v => ARg w pr kb v u
def CallLent (μ : Bool) (P : Program) (f : FuncId) (vs cs : List AV) (r : AV) (cs' : List AV) : Prop :=
  HasBody P f ∧
  ∀ (w : World) (pr : Nat → Nat → Prop) (us : List Value) (kb : Nat) (own : List (Option Nat)), (∀ k o, pr k o → k < w.heap.size) → GlobOK w pr → BoxC (bdL μ w.heap.size pr kb own) w pr kb cs own → All2 (ARg w pr kb) vs us →
    Calls P f us.toArray w fun e w' => ∃ ru pr' own', e = .returned ru ∧ BelowB (bdL μ w.heap.size pr kb own) w w' ∧ (∀ k o, ¬ (bdL μ w.heap.size pr kb own).mine k → (pr' k o ↔ pr k o)) ∧ (∀ k o, pr' k o → k < w'.heap.size) ∧
      BoxC (bdL μ w.heap.size pr kb own) w' pr' kb cs' own' ∧ RetL w' pr' kb r ru
def AV.isBack : AV → Bool
  | .back _ _ => true
  | _ => false
def bdE (μ : Bool) (n : Nat) (pr : Nat → Nat → Prop) (b0 : Option Nat) : Bd μ := ⟨n, pr, fun k => b0 = some k, fun _ => none⟩
def RetE {μ : Bool} (B : Bd μ) (w : World) (pr : Nat → Nat → Prop) (u0 : Value) (b0 : Option Nat) (r : AV) (bk : List AV) (ru : Value) : Prop := match bk with
  | [] => ResR B w pr r ru
  | [c] => OwnC B w pr c u0 b0 ∧ r = .tup [] ∧ ru = .tuple #[]
  | _ => False
def CallEat (μ : Bool) (P : Program) (f : FuncId) (a0 : AV) (rest : List AV) (r : AV) (bk : List AV) : Prop :=
  HasBody P f ∧
  ∀ (w : World) (pr : Nat → Nat → Prop) (u0 : Value) (us : List Value) (b0 : Option Nat), (∀ k o, pr k o → k < w.heap.size) → GlobOK w pr → OwnC (bdE μ w.heap.size pr b0) w pr a0 u0 b0 → All2 (PV w pr) rest us →
    Calls P f (u0 :: us).toArray w fun e w' => ∃ ru pr', e = .returned ru ∧ BelowB (bdE μ w.heap.size pr b0) w w' ∧ (∀ k o, ¬ (bdE μ w.heap.size pr b0).mine k → (pr' k o ↔ pr k o)) ∧ (∀ k o, pr' k o → k < w'.heap.size) ∧
      RetE (bdE μ w.heap.size pr b0) w' pr' u0 b0 r bk ru
def CallPt (μ : Bool) (P : Program) (f : FuncId) (args : List AV) (r : AV) : Prop :=
  HasBody P f ∧
  ∀ (w : World) (pr : Nat → Nat → Prop) (us : List Value) (kb : Nat), (∀ k o, pr k o → k < w.heap.size) → GlobOK w pr → All2 (ARg w pr kb) args us →
    Calls P f us.toArray w fun e w' => ∃ ru, e = .returned ru ∧ BelowM μ w.heap.size w w' ∧ RetL w' pr kb r ru
def CallOK (μ : Bool) (P : Program) (f : FuncId) (args : List AV) (v : AV) : Prop :=
  (v.isBack = false ∧ CallPlain μ P f args v) ∨ (∃ vs cs r cs', args = vs ++ [.lent cs] ∧ v = .back r cs' ∧ CallLent μ P f vs cs r cs') ∨ (∃ a0 rest r bk, args = a0 :: rest ∧ v = .back r (.lent [] :: bk) ∧ CallEat μ P f a0 rest r bk) ∨
  ∃ r, v = .back r [.lent [.undef]] ∧ CallPt μ P f args r
theorem tokOK_keeps {pr pr' : Nat → Nat → Prop} {T : Ty} {l : List T.den} {tg : TG} {μ μ' : Bool} {B : Bd μ} {B' : Bd μ'} (h : TokOK B w pr false T l tg) (hB : ∀ k, B.mine k → B'.mine k) (hk : PrKeeps w pr w pr') (hno : ∀ k, tg.blk = some k → ∀ o, ¬ pr' k o) : TokOK B' w pr' false T l tg := by
  obtain ⟨ez, r⟩ := h
  refine ⟨ez, r.imp id ?_⟩
  rintro ⟨k, cap, e1, e2, r⟩
  obtain ⟨us, el, fr, r1, r2, r3, r4⟩ := r.row
  exact ⟨k, cap, e1, e2, hB _ r.above, r.len, ⟨us, el, fr, r1, r2, r3, r4.keeps hk⟩, fun o p => absurd p (hno k e2 o), (fun x => by cases x), fun _ => hno k e2⟩
theorem answers_ev {d : Nat} {μ0 : Bool} {B0 : Bd μ0} : ∀ {vs vs0 : List AV} {us us0 : List Value} {bs : List (Option Nat)} {j : Nat} {ws0 : List Wr} {g : Gh}, Rel B g (s.puts ws0) w a N → (∀ i, j ≤ i → s.toks (tokAt d i) = .abs → (s.puts ws0).toks (tokAt d i) = .abs) →
    vs.length = us.length → bs.length = us.length → (∀ k, k ∈ bs.filterMap id → Fresh g (s.puts ws0) k ∧ ∀ o, ¬ g.pr k o) → (∀ k, B0.mine k → B.mine k) →
    (∀ (i : Nat) (x : AV) (u : Value) (b : Option Nat), vs[i]? = some x → us[i]? = some u → bs[i]? = some b → OwnC B0 w g.pr x u b) → (∀ (i i' : Nat) (k : Nat), bs[i]? = some (some k) → bs[i']? = some (some k) → i = i') →
    All2 (LR w g) vs0 us0 → (answers d vs j vs0 ws0).Ev C Rd s ws → ∃ g' ws' vs', ws = ws' ++ [.tmp d (.tup vs')] ∧ Rel B g' (s.puts ws') w a N ∧ All2 (LR w g') vs' (us0 ++ us) := by
  intro vs
  induction vs with
  | nil =>
    intro vs0 us us0 bs j ws0 g h ht hl hb hf hB ho hi hv he
    have hu : us = [] := List.eq_nil_of_length_eq_zero (by simpa using hl.symm)
    subst hu
    exact ⟨g, ws0, vs0, he, h, by simpa using hv⟩
  | cons v vs ih =>
    intro vs0 us us0 bs j ws0 g h ht hl hb hf hB ho hi hv he
    cases us with
    | nil => simp at hl
    | cons u us =>
      cases bs with
      | nil => simp at hb
      | cons b bs =>
        have h0 := ho 0 v u b rfl rfl rfl
        have hi' : ∀ (i i' : Nat) (k : Nat), bs[i]? = some (some k) → bs[i']? = some (some k) → i = i' := fun i i' k e e' => by
          have := hi (i + 1) (i' + 1) k (by simpa using e) (by simpa using e'); omega
        by_cases hown : ∃ T l, v = .own T l
        · obtain ⟨T, l, rfl⟩ := hown
          simp only [answers] at he
          obtain ⟨_, he⟩ := he
          obtain ⟨tg, ok, rfl, hblk, hlt⟩ := h0
          cases htk : s.toks (tokAt d j) with
          | dead => rw [htk] at he; exact he.elim
          | mlive _ _ => rw [htk] at he; exact he.elim
          | live _ _ _ => rw [htk] at he; exact he.elim
          | abs =>
            rw [htk] at he
            have habs : (s.puts ws0).toks (tokAt d j) = .abs := ht j (Nat.le_refl _) htk
            have hfb : ∀ k, tg.blk = some k → Fresh g (s.puts ws0) k ∧ ∀ o, ¬ g.pr k o := by
              intro k hk
              exact hf k (by rw [← hblk, hk]; simp)
            obtain ⟨h2, k2⟩ := h.newTok (sh := false) (T := T) (l := l) (tg := tg) habs (fun k hk => (hfb k hk).1) (tokOK_keeps ok hB (fun _ _ p => ⟨p, rfl⟩) fun k hk => (hfb k hk).2)
            obtain ⟨q1, _, q2, _⟩ := ok.reads.out
            have hone : tg.val.oneCell' = true := by rw [q2]; rfl
            have := ih (vs0 := vs0 ++ [.ref (tokAt d j)]) (us0 := us0 ++ [tg.val]) (us := us) (bs := bs) (j := j + 1) (ws0 := ws0 ++ [.tok (tokAt d j) (.live false T l)]) (by rw [S.puts_one]; exact h2) ?_ (by simpa using hl) (by simpa using hb) ?_ hB
              (fun i x u' b' hx hu' hb' => by
                have := ho (i + 1) x u' b' (by simpa using hx) (by simpa using hu') (by simpa using hb'); exact this) hi'
              ((hv.imp fun _ _ => LR.keeps k2).append (show All2 (LR w _) [.ref (tokAt d j)] [tg.val] from ⟨⟨tg, upd_same _ _ _, rfl, hone⟩, trivial⟩)) he
            · simpa using this
            · intro i hi hti
              rw [S.puts_one]
              have e : tokAt d i ≠ tokAt d j := by unfold tokAt; omega
              simp only [S.put, upd_ne _ _ _ _ e]
              exact ht i (by omega) hti
            · intro k hk
              have hk2 : k ∈ (b :: bs).filterMap id := by
                cases b <;> simp at hk ⊢ <;> first | exact hk | exact .inr hk
              obtain ⟨f1, f2⟩ := hf k hk2
              refine ⟨⟨f1.β, fun t tg' hl' e' hb' => ?_⟩, f2⟩
              rw [S.puts_one] at hl'
              by_cases e : t = tokAt d j
              · subst e
                simp only [upd_same] at e'; cases e'
                -- the same block twice
                obtain ⟨i, hi0⟩ : ∃ i, bs[i]? = some (some k) := by
                  have : some k ∈ bs := by simpa using hk
                  exact List.getElem?_of_mem this
                have := hi 0 (i + 1) k (by simp [← hblk, hb']) (by simpa using hi0)
                omega
              · simp only [S.put, upd_ne _ _ _ _ e] at hl' e'
                exact f1.τ t tg' hl' e' hb'
        · have hpv : PV w g.pr v u ∧ b = none := by
            cases v <;> first | exact h0 | exact absurd ⟨_, _, rfl⟩ hown
          have he2 : (answers d vs (j + 1) (vs0 ++ [v]) ws0).Ev C Rd s ws := by
            cases v <;> first | exact he | exact absurd ⟨_, _, rfl⟩ hown
          have := ih (vs0 := vs0 ++ [v]) (us0 := us0 ++ [u]) (us := us) (bs := bs) (j := j + 1) (ws0 := ws0) h (fun i hi => ht i (by omega)) (by simpa using hl) (by simpa using hb)
            (fun k hk => hf k (by rw [hpv.2]; simpa using hk)) hB
            (fun i x u' b' hx hu' hb' => ho (i + 1) x u' b' (by simpa using hx) (by simpa using hu') (by simpa using hb')) hi' (hv.append ⟨hpv.1.LR, trivial⟩) he2
          simpa using this
theorem execOp_call {f : Operand} {args : Array Operand} {ts : Array TypeId} (ho : o.op = .call { callee := .value f, args := args, argTypes := ts }) {n : FuncId} {us : List Value} (hf : a.eval f = .func (.func n) #[] us.toArray)
    {fn : Func} (h1 : P.funcs[n]? = some fn) (h2 : (fn.name == "runtime.NumGoroutine") = false) (h3 : fn.body.isNone = false) :
    (execOp a.eval o).run P w = .ok (.enter n ((args.toList.map a.eval) ++ us).toArray) w := by
  simp only [execOp, ho, resolve, hf, Deferred.ofValue, Sem.run_bind, Sem.run_pure, Result.andThen_ok, invoke, callFunc, run_program, h1, h2, h3, Bool.false_eq_true, if_false, Sem.run_ite]
  congr 2
  apply Array.ext'
  simp
theorem execOp_callB {f : Operand} {args : Array Operand} {ts : Array TypeId} (ho : o.op = .call { callee := .value f, args := args, argTypes := ts }) {n : FuncId} {u : Value} (hf : a.eval f = .func (.func n) #[u] #[])
    {fn : Func} (h1 : P.funcs[n]? = some fn) (h2 : (fn.name == "runtime.NumGoroutine") = false) (h3 : fn.body.isNone = false) :
    (execOp a.eval o).run P w = .ok (.enter n (u :: args.toList.map a.eval).toArray) w := by
  simp only [execOp, ho, resolve, hf, Deferred.ofValue, Sem.run_bind, Sem.run_pure, Result.andThen_ok, invoke, callFunc, run_program, h1, h2, h3, Bool.false_eq_true, if_false, Sem.run_ite]
  congr 2
  apply Array.ext'
  simp
theorem ownC_block {μ0 : Bool} {B0 : Bd μ0} {pr : Nat → Nat → Prop} {v : AV} {u : Value} {b : Option Nat} (h : OwnC B0 w pr v u b) {k : Nat} (hk : b = some k) : B0.mine k ∧ ∀ o, ¬ pr k o := by
  by_cases hown : ∃ T l, v = .own T l
  · obtain ⟨T, l, rfl⟩ := hown
    obtain ⟨tg, ⟨_, r⟩, _, hblk, _⟩ := h
    rcases r with ⟨_, e, _⟩ | ⟨k', cap, _, e, r⟩
    · rw [hblk, hk] at e; cases e
    · rw [hblk, hk] at e; cases e
      exact ⟨r.above, r.prno rfl⟩
  · have : PV w pr v u ∧ b = none := by cases v <;> first | exact h | exact absurd ⟨_, _, rfl⟩ hown
    rw [this.2] at hk; cases hk
theorem methsOK_get {ti : TypeInfo} {d : TypeDesc} {name : String} {n : FuncId} : ∀ {l : List (String × FuncId)}, methsOK ti d l = true → findM l name = some n →
    (∀ e, d ≠ .pointer e) ∧ ∃ m, ti.methods.find? (·.name == name) = some m ∧ m.path.toList = [] ∧ m.func = some (n, false)
  | [], _, h => by simp [findM] at h
  | (nm, f) :: l, h, hf => by
    simp only [methsOK, Bool.and_eq_true] at h
    obtain ⟨⟨h1, h2⟩, h3⟩ := h
    unfold findM at hf
    cases hs : sameName nm name with
    | false => rw [hs] at hf; exact methsOK_get h3 hf
    | true =>
      rw [hs] at hf
      simp only [cond_true, Option.some.injEq] at hf
      subst hf
      have hn : nm = name := by simpa [sameName] using hs
      subst hn
      refine ⟨fun e he => by rw [he] at h1; exact Bool.noConfusion h1, ?_⟩
      split at h2
      · rename_i m hm
        simp only [Bool.and_eq_true] at h2
        obtain ⟨h4, h5⟩ := h2
        split at h5
        · rename_i g' hg
          refine ⟨m, hm, by simpa using h4, ?_⟩
          rw [hg, Nat.eq_of_beq_eq_true h5]
        · cases h5
      · cases h2
theorem run_method {t : TypeId} {i : TInfo} {ti : TypeInfo} {d : TypeDesc} {z : Value} (T : TypeIs P t i ti d z) {name : String} {n : FuncId} (hm : findM i.meths name = some n) (u : Value) (fuel : Nat) :
    (method (fuel + 1) t u name).run P w = .ok (n, u) w := by
  obtain ⟨hp, m, h1, h2, h3⟩ := methsOK_get T.meth hm
  have hu : (underlying t).run P w = .ok d w := run_underlying T.und w
  have hr : (receiverAt t (.val u) false (if m.path.isEmpty then some ((name.splitOn ".").getLastD name) else none)).run P w = .ok u w := by
    simp only [receiverAt, Sem.run_bind, hu, Result.andThen_ok]
    cases d <;> first | exact absurd rfl (hp _) | rfl
  simp only [method, Sem.run_bind, typeInfo, run_program, Result.andThen_ok, T.info, Sem.run_pure, h1, h2, follow, h3, hr]
theorem goes_answer {μ0 : Bool} {B0 : Bd μ0} {g1 : Gh} {ws' : List Wr} {v : AV} {r : Value} (h3 : Rel B g1 (s.puts ws') w' a N) (hpm : ∀ i, s.toks i = .abs → (s.puts ws').toks i = .abs) (hd : ∀ t, o.dst = some t → t < N)
    (hB : BelowB B w w') (hmine : ∀ k, B0.mine k → B.mine k) (hfr : ∀ k, B0.mine k → Fresh g1 (s.puts ws') k) (hr : ResR B0 w' g1.pr v r) (he : (answer o.dst ws' v).Ev C Rd s ws)
    {K : Act → World → Prop} (hK : ∀ (g' : Gh) (a' : Act) (w' : World), Rel B g' (s.puts ws) w' a' N → BelowB B w w' → K a' w') : K (a.put o.dst r) w' := by
  have hplain : ∀ (he : (Pg.ret (ws' ++ wrd o.dst v)).Ev C Rd s ws), PV w' g1.pr v r → K (a.put o.dst r) w' := by
    intro he hpv
    have : ws = _ := he
    subst this
    refine hK g1 _ _ ?_ hB
    rw [S.puts_append]
    exact h3.wrd (VR_of_LR hpv.LR) hd
  by_cases hown : ∃ T l, v = .own T l
  · -- an own row
    obtain ⟨T, l, rfl⟩ := hown
    cases hdst : o.dst with
    | none => rw [hdst] at he; exact he.elim
    | some tt =>
    rw [hdst] at he
    obtain ⟨_, he⟩ := he
    obtain ⟨b, tg, ok, rfl, hblk, _⟩ := hr
    cases htk : s.toks (tokAt tt 0) with
    | dead => rw [htk] at he; exact he.elim
    | mlive _ _ => rw [htk] at he; exact he.elim
    | live _ _ _ => rw [htk] at he; exact he.elim
    | abs =>
      rw [htk] at he
      have : ws = _ := he
      subst this
      have habs : (s.puts ws').toks (tokAt tt 0) = .abs := hpm _ htk
      have hb := fun k (hk : tg.blk = some k) => ownC_block (v := .own T l) (u := tg.val) (B0 := B0) (w := w') (pr := g1.pr) ⟨tg, ok, rfl, rfl, fun k hk => by
        obtain ⟨_, r⟩ := ok
        rcases r with ⟨_, e, _⟩ | ⟨k', cap, _, e, r⟩
        · rw [hk] at e; cases e
        · rw [hk] at e; cases e
          obtain ⟨us, el, fr, r1, _⟩ := r.row
          exact (Array.getElem?_eq_some_iff.1 r1).1⟩ hk
      obtain ⟨h4, _⟩ := h3.newTok (sh := false) (T := T) (l := l) (tg := tg) habs (fun k hk => hfr k (hb k hk).1) (tokOK_keeps ok hmine (fun _ _ p => ⟨p, rfl⟩) fun k hk => (hb k hk).2)
      obtain ⟨q1, q3, q2, _⟩ := ok.reads.out
      have h5 := h4.tmp (t := tt) (v := .ref (tokAt tt 0)) (u := tg.val) ⟨tg, upd_same _ _ _, rfl, by rw [q2]; rfl⟩ (hd tt hdst)
      refine hK ?gg _ _ ?hh hB
      case hh => rw [S.puts_append]; exact h5
  by_cases htup : ∃ vs2, v = .tup vs2
  · -- several results
    obtain ⟨vs2, rfl⟩ := htup
    cases hdst : o.dst with
    | none => rw [hdst] at he; exact he.elim
    | some tt =>
    rw [hdst] at he
    obtain ⟨us, bs, rfl, l1, l2, hall, hinj⟩ := hr
    have hfb : ∀ k, k ∈ bs.filterMap id → Fresh g1 (s.puts ws') k ∧ ∀ o, ¬ g1.pr k o := by
      intro k hk
      have hk2 : some k ∈ bs := by simpa using hk
      obtain ⟨i, hi⟩ := List.getElem?_of_mem hk2
      have hlt : i < bs.length := (List.getElem?_eq_some_iff.1 hi).1
      have := ownC_block (hall i vs2[i] us[i] (some k) (by simp [show i < vs2.length by omega]) (by simp [show i < us.length by omega]) hi) rfl
      exact ⟨hfr k this.1, this.2⟩
    have hsame : ∀ i, 0 ≤ i → s.toks (tokAt tt i) = .abs → (s.puts ws').toks (tokAt tt i) = .abs := fun i _ e => hpm _ e
    obtain ⟨g2, ws2, vs3, rfl, h4, hvs3⟩ := answers_ev (B0 := B0) (vs0 := []) (us0 := []) h3 hsame l1 l2 hfb hmine hall hinj trivial he
    have h5 := h4.tmp (t := tt) (v := .tup vs3) (u := .tuple us.toArray) ⟨us, rfl, by simpa using hvs3⟩ (hd tt hdst)
    refine hK ?gg2 _ _ ?hh2 hB
    case hh2 => rw [S.puts_append]; exact h5
  · refine hplain ?_ ?_
    · cases v <;> first | exact he | exact absurd ⟨_, _, rfl⟩ hown | exact absurd ⟨_, rfl⟩ htup | (cases hdd : o.dst <;> rw [hdd] at he <;> exact he.elim)
    · cases v <;> first | (obtain ⟨b, q⟩ := hr; exact q.1) | exact absurd ⟨_, _, rfl⟩ hown | exact absurd ⟨_, rfl⟩ htup
theorem goes_enter {n : FuncId} {vargs : List AV} {us0 : List Value} {g1 : Gh} {ws' : List Wr} {v : AV} (hc0 : CallOK μ P n vargs v) (h2 : Rel B g1 (s.puts ws') w a N) (hpm : Promo s (s.puts ws')) (hd : ∀ t, o.dst = some t → t < N)
    (hargs : All2 (PV w g1.pr) vargs us0) (hex : HasBody P n → (execOp a.eval o).run P w = .ok (.enter n us0.toArray) w)
    (he : (answer o.dst ws' v).Ev C Rd s ws) : Goes P B N o s w a ws := by
  have hc : CallPlain μ P n vargs v := by
    rcases hc0 with h | ⟨_, _, r, c, _, rfl, _⟩ | ⟨_, _, r, c, _, rfl, _⟩ | ⟨r, rfl, _⟩
    · exact h.2
    · cases hd : o.dst <;> rw [hd] at he <;> exact he.elim
    · cases hd : o.dst <;> rw [hd] at he <;> exact he.elim
    · cases hd : o.dst <;> rw [hd] at he <;> exact he.elim
  obtain ⟨hfn, hcall⟩ := hc
  intro K Q hK
  unfold Oper.wp
  rw [hex hfn, Oper.upon_enter]
  refine (hcall w g1.pr _ h2.prlt h2.ex.gl hargs).mono ?_
  rintro e w' ⟨r, pr', rfl, hbel, hp1, hp2, hr⟩
  show K (a.put o.dst r) w'
  obtain ⟨h3, k3⟩ := h2.grow hbel.size (fun k hk => hbel.block k hk) hp1 hp2
  exact goes_answer (B0 := bd0 μ w.heap.size g1.pr) h3 (fun i e => by
    rcases hpm.toks i with e' | ⟨_, _, e', _⟩
    · rw [e', e]
    · rw [e] at e'; cases e') hd (.of (hbel.toBelow.mono h2.hB) hbel.dr) (fun k hk => .inl (Nat.le_trans h2.hB (bd0_mine.1 hk))) (fun k hk => ⟨(h2.fresh (bd0_mine.1 hk)).β, (h2.fresh (bd0_mine.1 hk)).τ⟩) hr he hK
theorem goes_invoke (hT : TIok P TI) (hC : ∀ f args v, C f args v → CallOK μ P f args v) (h : Rel B g s w a N) (hd : ∀ t, o.dst = some t → t < N) {r : Operand} {name : String} {args : Array Operand} {ts : Array TypeId}
    (ho : o.op = .call { callee := .invoke r name, args := args, argTypes := ts }) {vs : List AV} (hv : All2 (VR w g) vs (args.toList.map a.eval))
    (he0 : (rdv r fun
      | .ifv t T x => tinf TI t fun i => match findM i.meths name with
        | some n => snaps vs [] fun vs ws => .call n (T.av x :: vs) fun v => answer o.dst ws v
        | none => .fail
      | _ => .fail).Ev C Rd s ws) : Goes P B N o s w a ws := by
  obtain ⟨p, hp, he⟩ := rdv_ev h he0
  clear he0
  cases p with
  | ifv t T x =>
    simp only [] at he
    unfold tinf at he
    cases hi : TI t with
    | none => rw [hi] at he; exact he.elim
    | some i =>
      rw [hi] at he
      simp only [] at he
      obtain ⟨ti, d, z, TT⟩ := hT.get hi
      cases hm : findM i.meths name with
      | none => rw [hm] at he; exact he.elim
      | some n =>
        rw [hm] at he
        simp only [] at he
        obtain ⟨vs', ws', g1, he, hpm, h2, hk, hv2⟩ := snaps_ev (Promo.refl s) (by simpa [S.puts] using h) hv he
        obtain ⟨v, hc, he⟩ := he
        have hp' : TR w g1.pr (.ifc t T) x [a.eval r] := TR.keeps hk.pr hp
        obtain ⟨u, us, e1, e2, e3⟩ := hp'
        have e1 : a.eval r = .iface t u := by simpa using e1
        have hpv : PV w g1.pr (T.av x) u := by
          cases hst : T.isSt with
          | true =>
            rw [hst] at e2
            refine .inr ⟨T.cells x, us, ?_, e2, cells_PR e3⟩
            unfold Ty.av; simp only [hst]
          | false =>
            rw [hst] at e2
            have e2 : us = [u] := e2
            subst e2
            have := cells_PR e3
            have hl := this.len
            cases hcc : T.cells x with
            | nil => rw [hcc] at hl; simp at hl
            | cons c cs =>
              rw [hcc] at this
              left
              unfold Ty.av
              simp only [hst, hcc, List.headD_cons]
              exact this.1
        exact goes_enter (hC _ _ _ hc) h2 hpm hd (vargs := T.av x :: vs') (us0 := u :: args.toList.map a.eval) ⟨hpv, hv2⟩ (fun ⟨fn, f1, f2, f3⟩ => by
          have e0 : (#[Value.iface t u] ++ args.map a.eval)[0]? = some (.iface t u) := by rw [Array.getElem?_append_left (by simp)]; rfl
          have e4 : (#[Value.iface t u] ++ args.map a.eval).extract 1 (#[Value.iface t u] ++ args.map a.eval).size = args.map a.eval := by apply Array.ext'; simp; rw [List.take_of_length_le (by simp)]
          obtain ⟨k, hk⟩ : ∃ k, P.types.size + Made.depth = k + 1 := ⟨P.types.size + 99, rfl⟩
          have hme := run_method (P := P) (w := w) TT hm u k
          have hcm : (callMethod (.iface t u) name (args.map a.eval)).run P w = .ok (.enter n (u :: args.toList.map a.eval).toArray) w := by
            simp only [callMethod, Sem.run_bind, run_program, Result.andThen_ok, hk, hme, callFunc, f1, f2, f3, Bool.false_eq_true, if_false, Sem.run_ite, Sem.run_pure]
            congr 2
            apply Array.ext'
            simp
          simp only [execOp, ho, resolve, e1, Sem.run_bind, Sem.run_pure, Result.andThen_ok, invoke, e0, e4, hcm]) he
  | _ => exact he.elim
end
end Go.Proofs.Ytjonpmckkmnemaa.Th
set_option linter.unusedVariables false
set_option linter.unusedSimpArgs false
namespace Go.Proofs.Ytjonpmckkmnemaa.Th
open Go Go.RowKit
section
variable {P : Program} {TI : TEnv} {C : FuncId → List AV → AV → Prop} {Rd : Rs → Prop} {μ : Bool} {B : Bd μ} {N : Nat} {g g' : Gh} {s : S} {w w' : World} {a : Act} {o : Oper} {ws : List Wr}
theorem Rel.lendBack (h : Rel B g s w a N) {b kb : Nat} {cs cs' : List AV} (hb : s.boxes b = some cs) (hβ : g.β b = some kb) (hno : ∀ o, ¬ g.pr kb o) {own : List (Option Nat)} (hf : ∀ k, some k ∈ own → Fresh g s k ∧ B.mine k ∧ ∀ o, ¬ g.pr k o)
    (hbel : BelowB (bdL μ w.heap.size g.pr kb own) w w') {pr' : Nat → Nat → Prop} (hp : ∀ k o, ¬ (bdL μ w.heap.size g.pr kb own).mine k → (pr' k o ↔ g.pr k o)) (hlt : ∀ k o, pr' k o → k < w'.heap.size) (hkb : ∀ o, ¬ pr' kb o)
    {us : Array Value} {e : TypeId} {fr : Nat × Nat} (hr : w'.heap[kb]? = some (.cells us e fr)) (ht : Thawed fr us.size) (hc : All2 (LR w' { g with pr := pr' }) cs' us.toList) :
    Rel B { g with pr := pr' } (s.put (.box b cs')) w' a N ∧ Keeps w g w' { g with pr := pr' } := by
  obtain ⟨k0, e0, ok⟩ := h.bx b cs hb
  rw [hβ] at e0; cases e0
  have hnm : ∀ k, k < w.heap.size → k ≠ kb → (∀ q, some q ∈ own → q ≠ k) → ¬ (bdL μ w.heap.size g.pr kb own).mine k := by
    rintro k h1 h2 h3 (h4 | h4 | h4)
    · have : w.heap.size ≤ k := h4; omega
    · exact h2 h4
    · exact h3 k h4 rfl
  have hnp : ∀ k o, g.pr k o → ¬ (bdL μ w.heap.size g.pr kb own).mine k := fun k o p =>
    hnm k (h.prlt k o p) (fun e => hno o (e ▸ p)) (fun q hq e => (hf q hq).2.2 o (e ▸ p))
  have hk : Keeps w g w' { g with pr := pr' } :=
    ⟨fun k o p => ⟨(hp k o (hnp k o p)).2 p, cell_heap (hbel.block k (hnp k o p)) o⟩, fun _ _ x => x, fun _ _ x => x⟩
  have lt_of : ∀ {k : Nat} {o : Obj}, w.heap[k]? = some o → k < w.heap.size := fun e => (Array.getElem?_eq_some_iff.1 e).1
  refine ⟨⟨h.df, h.nt, Nat.le_trans h.hB hbel.size, fun t => (h.tm t).keeps hk, hlt, ?_, ?_, h.binj, h.tk0, ?_, h.tinj, h.tbx, ?_, h.ex.keep hk (fun b' hb' => ?_), fun t K l e => ?_⟩, hk⟩
  · intro b' e'
    by_cases eb : b' = b
    · subst eb; simp [S.put, upd_same] at e'
    · simp only [S.put, upd_ne _ _ _ _ eb] at e'; exact h.bx0 b' e'
  · intro b' cs2 hb'
    by_cases eb : b' = b
    · subst eb
      simp only [S.put, upd_same] at hb'; cases hb'
      exact ⟨kb, hβ, ok.above, fun o p => absurd p (hkb o), us, e, fr, hr, ht, hc⟩
    · simp only [S.put, upd_ne _ _ _ _ eb] at hb'
      obtain ⟨i, ei, ab, free, us2, el, f, r1, r2, r3⟩ := h.bx b' cs2 hb'
      have hn := hnm i (lt_of r1) (fun e' => eb (h.binj b' b kb (by rw [ei, e']) hβ)) (fun q hq e' => (hf q hq).1.β b' (by rw [ei, e']))
      exact ⟨i, ei, ab, fun o p => free o ((hp i o hn).1 p), us2, el, f, (hbel.block i hn).trans r1, r2, r3.imp fun _ _ => LR.keeps hk⟩
  · intro t sh T l hts
    have hts' : s.toks t = .live sh T l := hts
    obtain ⟨tg, et, ez, r⟩ := h.tk t sh T l hts'
    refine ⟨tg, et, ez, r.imp id ?_⟩
    rintro ⟨i, cap, a1, a2, a3⟩
    have hl : (s.toks t).isLive = true := by rw [hts']; rfl
    obtain ⟨us2, el, f, r1, r2, r3, r4⟩ := a3.row
    have hn := hnm i (lt_of r1) (fun e' => h.tbx t tg kb b hl et (by rw [a2, e']) hβ) (fun q hq e' => (hf q hq).1.τ t tg hl et (by rw [a2, e']))
    exact ⟨i, cap, a1, a2, a3.above, a3.len, ⟨us2, el, f, (hbel.block i hn).trans r1, r2, r3, r4.keeps hk.pr⟩, fun o p => a3.prlt o ((hp i o hn).1 p), fun e o p => (hp i o hn).2 (a3.prsh e o p), fun e o p => a3.prno e o ((hp i o hn).1 p)⟩
  · intro k o hm
    have hn := hnm k (Nat.lt_of_lt_of_le (Bd.mine_lt hm) h.hB) (fun e => hm (e ▸ ok.above)) (fun q hq e => hm (e ▸ (hf q hq).2.1))
    exact (hp k o hn).trans (h.prB k o hm)
  · by_cases eb : b' = b
    · rw [eb, hb]; simp
    · simpa [S.put, upd_ne _ _ _ _ eb] using hb'
  · have hts : s.toks t = .mlive K l := e
    obtain ⟨tg, et, mok⟩ := h.mp t K l hts
    have hl : (s.toks t).isLive = true := by rw [hts]; rfl
    refine ⟨tg, et, mok.keep hk.pr fun i hi hlt' => ?_⟩
    have hn := hnm i hlt' (fun e' => h.tbx t tg kb b hl et (by rw [hi, e']) hβ) (fun q hq e' => (hf q hq).1.τ t tg hl et (by rw [hi, e']))
    exact ⟨hbel.block i hn, fun o p => (hp i o hn).1 p⟩
theorem lendArgs_ev {b : Nat} : ∀ {vs : List AV} {us : List Value} {ws W : List Wr} {k : List AV → List Wr → Pg} {g : Gh}, Promo s (s.puts ws) → Rel B g (s.puts ws) w a N → All2 (VR w g) vs us →
    (lendArgs b vs ws k).Ev C Rd s W → ∃ vs' ws' g', (k vs' ws').Ev C Rd s W ∧ Promo s (s.puts ws') ∧ Rel B g' (s.puts ws') w a N ∧ Keeps w g w g' ∧ All2 (fun v u => (∃ kb, g'.β b = some kb ∧ PtrR kb v u) ∨ PV w g'.pr v u) vs' us
  | [], [], ws, W, k, g, hp, h, _, he => ⟨[], ws, g, he, hp, h, Keeps.refl _ _, trivial⟩
  | v :: vs, u :: us, ws, W, k, g, hp, h, hv, he => by
    by_cases hptr : ∃ b' off, v = .ptr b' off
    · obtain ⟨b', off, rfl⟩ := hptr
      simp only [lendArgs] at he
      obtain ⟨hbb, he⟩ := he
      have := Nat.eq_of_beq_eq_true hbb
      subst this
      obtain ⟨kb, hβ, hu⟩ := hv.1
      obtain ⟨vs', ws2, g2, he, hp2, h2, hk2, hv2⟩ := lendArgs_ev hp h hv.2 he
      exact ⟨_, ws2, g2, he, hp2, h2, hk2, .inl ⟨kb, hk2.β _ _ hβ, rfl, hu⟩, hv2⟩
    · by_cases hpa : ∃ b' off n e i, v = .parr b' off n e i
      · obtain ⟨b', off, n, e, i, rfl⟩ := hpa
        simp only [lendArgs] at he
        obtain ⟨hbb, he⟩ := he
        have := Nat.eq_of_beq_eq_true hbb
        subst this
        obtain ⟨hi, kb, hβ, hu⟩ := hv.1
        obtain ⟨vs', ws2, g2, he, hp2, h2, hk2, hv2⟩ := lendArgs_ev hp h hv.2 he
        exact ⟨_, ws2, g2, he, hp2, h2, hk2, .inl ⟨kb, hk2.β _ _ hβ, rfl, hi, hu⟩, hv2⟩
      by_cases hle : ∃ b' off f, v = .lev b' off f
      · obtain ⟨b', off, f, rfl⟩ := hle
        simp only [lendArgs] at he
        obtain ⟨hbb, he⟩ := he
        have := Nat.eq_of_beq_eq_true hbb
        subst this
        obtain ⟨kb, hβ, hu⟩ := hv.1
        obtain ⟨vs', ws2, g2, he, hp2, h2, hk2, hv2⟩ := lendArgs_ev hp h hv.2 he
        exact ⟨_, ws2, g2, he, hp2, h2, hk2, .inl ⟨kb, hk2.β _ _ hβ, rfl, hu⟩, hv2⟩
      have he' : (snap1 v ws fun v' ws' => lendArgs b vs ws' fun vs' ws'' => k (v' :: vs') ws'').Ev C Rd s W := by
        cases v <;> first | exact he | exact absurd ⟨_, _, rfl⟩ hptr | exact absurd ⟨_, _, _, _, _, rfl⟩ hpa | exact absurd ⟨_, _, _, rfl⟩ hle
      obtain ⟨v', ws1, g1, he, hp1, h1, hk1, hv1⟩ := snap1_ev hp h hv.1 he'
      obtain ⟨vs', ws2, g2, he, hp2, h2, hk2, hv2⟩ := lendArgs_ev hp1 h1 (hv.2.imp fun _ _ => VR.keeps hk1) he
      exact ⟨v' :: vs', ws2, g2, he, hp2, h2, hk1.trans hk2, .inr (hv1.keeps hk2.pr), hv2⟩
  | [], _ :: _, _, _, _, _, _, _, hv, _ => hv.elim
  | _ :: _, [], _, _, _, _, _, _, hv, _ => hv.elim
theorem ownC_plain {μ0 : Bool} {B0 : Bd μ0} {pr : Nat → Nat → Prop} {v : AV} {u : Value} (h : PR w pr v u) : OwnC B0 w pr v u none := by
  cases v <;> first | exact ⟨.inl h, rfl⟩ | exact h.elim
theorem LR_plain {v : AV} {u : Value} (hp : isPlainCell v = true) (h : LR w g v u) : PR w g.pr v u := by
  cases v <;> first | exact h | (simp [isPlainCell] at hp)
theorem lendCells_ev : ∀ {cs : List AV} {us : List Value} {ws W : List Wr} {k : List AV → List Wr → Pg}, Rel B g (s.puts ws) w a N → All2 (LR w g) cs us →
    (lendCells cs ws k).Ev C Rd s W → ∃ (cs' : List AV) (ws' : List Wr) (own : List (Option Nat)), (k cs' ws').Ev C Rd s W ∧ Rel B g (s.puts ws') w a N ∧ (s.puts ws').boxes = (s.puts ws).boxes ∧ cs'.length = us.length ∧ own.length = us.length ∧
      (∀ (i : Nat) (x : AV) (u : Value) (q : Option Nat), cs'[i]? = some x → us[i]? = some u → own[i]? = some q → OwnC B w g.pr x u q) ∧
      (∀ (i j k : Nat), own[i]? = some (some k) → own[j]? = some (some k) → i = j) ∧ (∀ k, some k ∈ own → Fresh g (s.puts ws') k ∧ B.mine k ∧ (∀ o, ¬ g.pr k o) ∧ ∃ t tg, ((s.puts ws).toks t).isLive = true ∧ g.τ t = some tg ∧ tg.blk = some k) ∧
      (∀ t, (s.puts ws').toks t = (s.puts ws).toks t ∨ ((s.puts ws).toks t ≠ .abs ∧ (s.puts ws').toks t = .dead)) ∧
      (∀ (i t : Nat), cs[i]? = some (.ref t) → ∀ (T : Ty) (l : List T.den), s.toks t = .live false T l → (s.puts ws').toks t = .dead ∧ ∀ tg, g.τ t = some tg → own[i]? = some tg.blk) ∧ (∀ (i : Nat) (v : AV), cs[i]? ≠ some (.fz v))
  | [], [], ws, W, k, h, _, he => ⟨[], ws, [], he, h, rfl, rfl, rfl, (fun i x u q h => by simp at h), (fun i j k h => by simp at h), (fun k h => by simp at h), (fun _ => .inl rfl), (fun i t h => by simp at h), fun i v h => by simp at h⟩
  | v :: cs, u :: us, ws, W, k, h, hv, he => by
    by_cases href : ∃ t, v = .ref t
    · obtain ⟨t, rfl⟩ := href
      simp only [lendCells] at he
      obtain ⟨_, he⟩ := he
      cases ht : s.toks t with
      | abs => rw [ht] at he; exact he.elim
      | dead => rw [ht] at he; exact he.elim
      | mlive _ _ => rw [ht] at he; exact he.elim
      | live sh T l =>
        rw [ht] at he
        obtain ⟨htc, he⟩ := he
        have htc : touches t ws = false := by simpa using htc
        have hlive : (s.puts ws).toks t = .live sh T l := by rw [touches_toks htc, ht]
        obtain ⟨tg, hτ, hu, hone⟩ := hv.1
        cases sh with
        | true =>
          simp only [] at he
          obtain ⟨tg', e1, e2⟩ := h.shared hlive
          rw [hτ] at e1; cases e1
          obtain ⟨cs', ws', own, he, h2, hbx, l1, l2, p1, p2, p3, p4, p5, p6⟩ := lendCells_ev h hv.2 he
          refine ⟨.sl T l :: cs', ws', none :: own, he, h2, hbx, by simp [l1], by simp [l2], ?_, ?_, ?_, p4, fun i t' hi T' l' ht' => ?_, fun i v' hv' => ?_⟩
          · intro i x u' q hx hu' hq
            cases i with
            | zero => simp at hx hu' hq; subst hx hu' hq; exact ⟨.inl (by rw [hu]; exact e2), rfl⟩
            | succ i => exact p1 i x u' q (by simpa using hx) (by simpa using hu') (by simpa using hq)
          · intro i j k' hi hj
            cases i with
            | zero => simp at hi
            | succ i => cases j with
              | zero => simp at hj
              | succ j => rw [p2 i j k' (by simpa using hi) (by simpa using hj)]
          · intro k' hk'
            exact p3 k' (by simpa using hk')
          · cases i with
            | zero =>
              simp only [List.getElem?_cons_zero, Option.some.injEq, AV.ref.injEq] at hi
              subst hi
              rw [ht] at ht'; cases ht'
            | succ i => exact p5 i t' (by simpa using hi) T' l' ht'
          · cases i with
            | zero => simp at hv'
            | succ i => exact p6 i v' (by simpa using hv')
        | false =>
          simp only [] at he
          obtain ⟨tg', e1, hok⟩ := h.tk t false T l hlive
          rw [hτ] at e1; cases e1
          have hkill := h.kill t (by rw [hlive]; simp)
          obtain ⟨cs', ws', own, he, h2, hbx, l1, l2, p1, p2, p3, p4, p5, p6⟩ := lendCells_ev (ws := ws ++ [.tok t .dead]) (by rw [S.puts_one]; exact hkill) hv.2 he
          have hdead : ∀ i, ((s.puts (ws ++ [.tok t .dead])).toks i).isLive = true → i ≠ t ∧ ((s.puts ws).toks i).isLive = true := by
            intro i hi
            rw [S.puts_one] at hi
            by_cases e : i = t
            · subst e; simp [S.put, upd_same, Tok.isLive] at hi
            · simp only [S.put, upd_ne _ _ _ _ e] at hi; exact ⟨e, hi⟩
          have hlv : ((s.puts ws).toks t).isLive = true := by rw [hlive]; rfl
          have hf0 : ∀ k', tg.blk = some k' → Fresh g (s.puts (ws ++ [.tok t .dead])) k' := by
            intro k' hk'
            refine ⟨fun b' e' => h.tbx t tg k' b' hlv hτ hk' e', fun i tgi hi ei hbi => ?_⟩
            obtain ⟨hne, hi'⟩ := hdead i hi
            exact hne (h.tinj i t tgi tg k' hi' hlv ei hτ hbi hk')
          have hmine : ∀ k', tg.blk = some k' → B.mine k' ∧ (∀ o, ¬ g.pr k' o) ∧ k' < w.heap.size := by
            intro k' hk'
            obtain ⟨_, r⟩ := hok
            rcases r with ⟨_, e, _⟩ | ⟨k2, cap, _, e, r⟩
            · rw [hk'] at e; cases e
            · rw [hk'] at e; cases e
              obtain ⟨us2, el, fr, r1, _⟩ := r.row
              exact ⟨r.above, r.prno rfl, (Array.getElem?_eq_some_iff.1 r1).1⟩
          refine ⟨.own T l :: cs', ws', tg.blk :: own, he, h2, hbx.trans (by rw [S.puts_one]; rfl), by simp [l1], by simp [l2], ?_, ?_, ?_, ?_, fun i t' hi T' l' ht' => ?_, fun i v' hv' => ?_⟩
          · intro i x u' q hx hu' hq
            cases i with
            | zero =>
              simp at hx hu' hq; subst hx hu' hq
              exact ⟨tg, hok, hu, rfl, fun k' hk' => (hmine k' hk').2.2⟩
            | succ i => exact p1 i x u' q (by simpa using hx) (by simpa using hu') (by simpa using hq)
          · intro i j k' hi hj
            have hno : ∀ j : Nat, tg.blk = some k' → own[j]? = some (some k') → False := by
              intro j h1 h2
              obtain ⟨_, _, _, t2, tg2, q1, q2, q3⟩ := p3 k' (List.mem_of_getElem? h2)
              exact (hf0 k' h1).τ t2 tg2 q1 q2 q3
            cases i with
            | zero => cases j with
              | zero => rfl
              | succ j => exact (hno j (by simpa using hi) (by simpa using hj)).elim
            | succ i => cases j with
              | zero => exact (hno i (by simpa using hj) (by simpa using hi)).elim
              | succ j => rw [p2 i j k' (by simpa using hi) (by simpa using hj)]
          · intro k' hk'
            rcases List.mem_cons.1 hk' with e | e
            · have hblk : tg.blk = some k' := e.symm
              obtain ⟨m1, m2, m3⟩ := hmine k' hblk
              refine ⟨⟨(hf0 k' hblk).β, fun i tgi hi ei hbi => ?_⟩, m1, m2, t, tg, hlv, hτ, hblk⟩
              rcases p4 i with e5 | ⟨_, e5⟩
              · rw [e5] at hi; exact (hf0 k' hblk).τ i tgi hi ei hbi
              · rw [e5] at hi; cases hi
            · obtain ⟨q1, q2, q3, t2, tg2, q4, q5, q6⟩ := p3 k' e
              exact ⟨q1, q2, q3, t2, tg2, (hdead t2 q4).2, q5, q6⟩
          · intro i
            by_cases e : i = t
            · subst e
              right
              refine ⟨by rw [hlive]; simp, ?_⟩
              rcases p4 i with e5 | ⟨_, e5⟩
              · rw [e5, S.puts_one]; simp [S.put, upd_same]
              · exact e5
            · have e6 : (s.puts (ws ++ [.tok t .dead])).toks i = (s.puts ws).toks i := by rw [S.puts_one]; simp only [S.put, upd_ne _ _ _ _ e]
              have := p4 i
              rw [e6] at this; exact this
          · cases i with
            | zero =>
              simp only [List.getElem?_cons_zero, Option.some.injEq, AV.ref.injEq] at hi
              subst hi
              refine ⟨?_, fun tg' e' => ?_⟩
              · rcases p4 t with e5 | ⟨_, e5⟩
                · rw [e5, S.puts_one]; simp [S.put, upd_same]
                · exact e5
              · rw [hτ] at e'; cases e'; rfl
            | succ i => exact p5 i t' (by simpa using hi) T' l' ht'
          · cases i with
            | zero => simp at hv'
            | succ i => exact p6 i v' (by simpa using hv')
    · have he' : (match isPlainCell v with
        | true => lendCells cs ws fun cs' ws' => k (v :: cs') ws'
        | false => .fail).Ev C Rd s W := by
        cases v <;> first | exact he | exact absurd ⟨_, rfl⟩ href
      cases hpl : isPlainCell v with
      | false => rw [hpl] at he'; exact he'.elim
      | true =>
        rw [hpl] at he'
        obtain ⟨cs', ws', own, he, h2, hbx, l1, l2, p1, p2, p3, p4, p5, p6⟩ := lendCells_ev h hv.2 he'
        refine ⟨v :: cs', ws', none :: own, he, h2, hbx, by simp [l1], by simp [l2], ?_, ?_, ?_, p4, fun i t' hi T' l' ht' => ?_, fun i v' hv' => ?_⟩
        · intro i x u' q hx hu' hq
          cases i with
          | zero => simp at hx hu' hq; subst hx hu' hq; exact ownC_plain (LR_plain hpl hv.1)
          | succ i => exact p1 i x u' q (by simpa using hx) (by simpa using hu') (by simpa using hq)
        · intro i j k' hi hj
          cases i with
          | zero => simp at hi
          | succ i => cases j with
            | zero => simp at hj
            | succ j => rw [p2 i j k' (by simpa using hi) (by simpa using hj)]
        · intro k' hk'
          exact p3 k' (by simpa using hk')
        · cases i with
          | zero =>
            simp only [List.getElem?_cons_zero, Option.some.injEq] at hi
            exact absurd ⟨_, hi⟩ href
          | succ i => exact p5 i t' (by simpa using hi) T' l' ht'
        · cases i with
          | zero =>
            simp only [List.getElem?_cons_zero, Option.some.injEq] at hv'
            rw [hv'] at hpl; cases hpl
          | succ i => exact p6 i v' (by simpa using hv')
  | [], _ :: _, _, _, _, _, hv, _ => hv.elim
  | _ :: _, [], _, _, _, _, hv, _ => hv.elim
theorem backCells_ev {d : Nat} {μ0 : Bool} {B0 : Bd μ0} : ∀ {cs : List AV} {us : List Value} {own : List (Option Nat)} {j : Nat} {ws0 W : List Wr} {k : List AV → List Wr → Pg} {g : Gh}, Rel B g (s.puts ws0) w a N → (∀ i, j ≤ i → s.toks (tokL d i) = .abs → (s.puts ws0).toks (tokL d i) = .abs) →
    cs.length = us.length → own.length = us.length → (∀ k, some k ∈ own → Fresh g (s.puts ws0) k ∧ ∀ o, ¬ g.pr k o) → (∀ k, B0.mine k → B.mine k) →
    (∀ (i : Nat) (x : AV) (u : Value) (b : Option Nat), cs[i]? = some x → us[i]? = some u → own[i]? = some b → OwnC B0 w g.pr x u b) → (∀ (i i' k : Nat), own[i]? = some (some k) → own[i']? = some (some k) → i = i') →
    (backCells d cs j ws0 k).Ev C Rd s W → ∃ g' ws' cs', (k cs' ws').Ev C Rd s W ∧ Rel B g' (s.puts ws') w a N ∧ Keeps w g w g' ∧ All2 (LR w g') cs' us ∧ (s.puts ws').boxes = (s.puts ws0).boxes := by
  intro cs
  induction cs with
  | nil =>
    intro us own j ws0 W k g h ht hl hb hf hB ho hi he
    have hu : us = [] := List.eq_nil_of_length_eq_zero (by simpa using hl.symm)
    subst hu
    exact ⟨g, ws0, [], he, h, Keeps.refl _ _, trivial, rfl⟩
  | cons v cs ih =>
    intro us own j ws0 W k g h ht hl hb hf hB ho hi he
    cases us with
    | nil => simp at hl
    | cons u us =>
      cases own with
      | nil => simp at hb
      | cons b own =>
        have h0 := ho 0 v u b rfl rfl rfl
        have hi' : ∀ (i i' k : Nat), own[i]? = some (some k) → own[i']? = some (some k) → i = i' := fun i i' k e e' => by
          have := hi (i + 1) (i' + 1) k (by simpa using e) (by simpa using e'); omega
        by_cases hown : ∃ T l, v = .own T l
        · obtain ⟨T, l, rfl⟩ := hown
          simp only [backCells] at he
          obtain ⟨_, he⟩ := he
          obtain ⟨tg, ok, rfl, hblk, hlt⟩ := h0
          cases htk : s.toks (tokL d j) with
          | dead => rw [htk] at he; exact he.elim
          | mlive _ _ => rw [htk] at he; exact he.elim
          | live _ _ _ => rw [htk] at he; exact he.elim
          | abs =>
            rw [htk] at he
            have habs : (s.puts ws0).toks (tokL d j) = .abs := ht j (Nat.le_refl _) htk
            have hfb : ∀ k, tg.blk = some k → Fresh g (s.puts ws0) k ∧ ∀ o, ¬ g.pr k o := by
              intro k hk
              exact hf k (by rw [← hblk, hk]; simp)
            obtain ⟨h2, k2⟩ := h.newTok (sh := false) (T := T) (l := l) (tg := tg) habs (fun k hk => (hfb k hk).1) (tokOK_keeps ok hB (fun _ _ p => ⟨p, rfl⟩) fun k hk => (hfb k hk).2)
            obtain ⟨q1, _, q2, _⟩ := ok.reads.out
            have hone : tg.val.oneCell' = true := by rw [q2]; rfl
            obtain ⟨g', ws', cs', r1, r2, r3, r4, r5⟩ := ih (g := { g with τ := upd g.τ (tokL d j) (some tg) }) (us := us) (own := own) (j := j + 1) (ws0 := ws0 ++ [.tok (tokL d j) (.live false T l)]) (by rw [S.puts_one]; exact h2) (by
                intro i hi hti
                rw [S.puts_one]
                have e : tokL d i ≠ tokL d j := by unfold tokL; omega
                simp only [S.put, upd_ne _ _ _ _ e]
                exact ht i (by omega) hti) (by simpa using hl) (by simpa using hb) (by
                intro k hk
                obtain ⟨f1, f2⟩ := hf k (List.mem_cons_of_mem _ hk)
                refine ⟨⟨f1.β, fun t tg' hl' e' hb' => ?_⟩, f2⟩
                rw [S.puts_one] at hl'
                by_cases e : t = tokL d j
                · subst e
                  simp only [upd_same] at e'; cases e'
                  obtain ⟨i, hi0⟩ := List.getElem?_of_mem hk
                  have := hi 0 (i + 1) k (by simp [← hblk, hb']) (by simpa using hi0)
                  omega
                · simp only [S.put, upd_ne _ _ _ _ e] at hl' e'
                  exact f1.τ t tg' hl' e' hb') hB
              (fun i x u' b' hx hu' hb' => ho (i + 1) x u' b' (by simpa using hx) (by simpa using hu') (by simpa using hb')) hi' he
            exact ⟨g', ws', _, r1, r2, k2.trans r3, ⟨⟨tg, r3.τ _ _ (upd_same _ _ _), rfl, hone⟩, r4⟩, by rw [r5, S.puts_one]; rfl⟩
        · have hpv : PV w g.pr v u ∧ b = none := by
            cases v <;> first | exact h0 | exact absurd ⟨_, _, rfl⟩ hown
          have he2 : (match isPlainCell v with
            | true => backCells d cs (j + 1) ws0 fun cs' ws' => k (v :: cs') ws'
            | false => .fail).Ev C Rd s W := by
            cases v <;> first | exact he | exact absurd ⟨_, _, rfl⟩ hown
          cases hpl : isPlainCell v with
          | false => rw [hpl] at he2; exact he2.elim
          | true =>
            rw [hpl] at he2
            obtain ⟨g', ws', cs', r1, r2, r3, r4, r5⟩ := ih (us := us) (own := own) (j := j + 1) (ws0 := ws0) h (fun i hi => ht i (by omega)) (by simpa using hl) (by simpa using hb)
              (fun k hk => hf k (List.mem_cons_of_mem _ hk)) hB
              (fun i x u' b' hx hu' hb' => ho (i + 1) x u' b' (by simpa using hx) (by simpa using hu') (by simpa using hb')) hi' he2
            exact ⟨g', ws', _, r1, r2, r3, ⟨(hpv.1.keeps r3.pr).LR, r4⟩, r5⟩
theorem backV1_LR {b kb : Nat} {v r : AV} {u : Value} (h : backV1 b v = some r) (hβ : g.β b = some kb) (hv : ARg w g.pr kb v u) : LR w g r u := by
  by_cases hptr : PtrR kb v u
  · cases v with
    | ptr b' off =>
      obtain ⟨rfl, rfl⟩ := hptr
      simp only [backV1, beq_self, cond_true, Option.some.injEq] at h
      subst h
      exact ⟨kb, hβ, rfl⟩
    | parr b' off n e i =>
      obtain ⟨rfl, hi, rfl⟩ := hptr
      simp only [backV1, beq_self, cond_true, Option.some.injEq] at h
      subst h
      exact ⟨hi, kb, hβ, rfl⟩
    | lev b' off f =>
      obtain ⟨rfl, rfl⟩ := hptr
      simp only [backV1, beq_self, cond_true, Option.some.injEq] at h
      subst h
      exact ⟨kb, hβ, rfl⟩
    | nilptr =>
      simp only [backV1, Option.some.injEq] at h
      subst h
      exact hptr
    | _ => exact hptr.elim
  · have hpv : PV w g.pr v u := hv.resolve_left hptr
    have hno : ∀ (q : PV w g.pr v u), isPlainCell v = true ∨ ∃ cs, v = .agg cs := fun q => q.elim (fun q => .inl q.plain) (fun ⟨cs, _, e, _⟩ => .inr ⟨cs, e⟩)
    have : r = v := by
      cases v with
      | agg cs =>
        simp only [backV1] at h
        cases hc : cs.all isPlainCell <;> rw [hc] at h <;> cases h; rfl
      | ptr _ _ => rcases hno hpv with q | ⟨_, q⟩ <;> cases q
      | parr _ _ _ _ _ => rcases hno hpv with q | ⟨_, q⟩ <;> cases q
      | lev _ _ _ => rcases hno hpv with q | ⟨_, q⟩ <;> cases q
      | nilptr => rcases hno hpv with q | ⟨_, q⟩ <;> cases q
      | _ => simp [backV1, isPlainCell] at h <;> exact h.symm
    rw [this]; exact hpv.LR
theorem backVs_LR {b kb : Nat} (hβ : g.β b = some kb) : ∀ {vs rs : List AV} {us : List Value}, backVs b vs = some rs → All2 (ARg w g.pr kb) vs us → All2 (LR w g) rs us
  | [], rs, [], h, _ => by simp [backVs] at h; subst h; trivial
  | v :: vs, rs, u :: us, h, hv => by
    unfold backVs at h
    cases h1 : backV1 b v with
    | none => rw [h1] at h; simp at h
    | some r =>
      cases h2 : backVs b vs with
      | none => rw [h1, h2] at h; simp at h
      | some rs' =>
        rw [h1, h2] at h
        simp only [Option.some.injEq] at h
        subst h
        exact ⟨backV1_LR h1 hβ hv.1, backVs_LR hβ h2 hv.2⟩
  | [], _, _ :: _, _, hv => hv.elim
  | _ :: _, _, [], _, hv => hv.elim
theorem backV_VR {b kb : Nat} {v r : AV} {u : Value} (h : backV b v = some r) (hβ : g.β b = some kb) (hv : RetL w g.pr kb v u) : VR w g r u := by
  by_cases htup : ∃ vs, v = .tup vs
  · obtain ⟨vs, rfl⟩ := htup
    obtain ⟨us, rfl, hv⟩ := hv
    have h : (match backVs b vs with
      | some vs' => some (AV.tup vs')
      | none => none) = some r := h
    cases h1 : backVs b vs with
    | none => rw [h1] at h; simp at h
    | some rs =>
      rw [h1] at h
      simp only [Option.some.injEq] at h
      subst h
      exact ⟨us, rfl, backVs_LR hβ h1 hv⟩
  · have h' : backV1 b v = some r := by
      cases v <;> first | exact h | exact absurd ⟨_, rfl⟩ htup
    have hv' : ARg w g.pr kb v u := by
      cases v <;> first | exact hv | exact absurd ⟨_, rfl⟩ htup
    exact VR_of_LR (backV1_LR h' hβ hv')
theorem blanks_LR {μ0 : Bool} {B0 : Bd μ0} {cs : List AV} {us : List Value} {own : List (Option Nat)} (hl : cs.length = us.length) (hb : own.length = us.length)
    (ho : ∀ (i : Nat) (x : AV) (u : Value) (b : Option Nat), cs[i]? = some x → us[i]? = some u → own[i]? = some b → OwnC B0 w g.pr x u b) : All2 (LR w g) (blanks cs) us := by
  refine All2.of_get (by simp [blanks, hl]) fun i x u hx hu => ?_
  simp only [blanks, List.getElem?_map] at hx
  cases hc : cs[i]? with
  | none => rw [hc] at hx; cases hx
  | some v =>
    rw [hc] at hx
    simp only [Option.map_some, Option.some.injEq] at hx
    subst hx
    have hi : i < own.length := by rw [hb]; exact (List.getElem?_eq_some_iff.1 hu).1
    have h0 := ho i v u own[i] hc hu (by simp [hi])
    by_cases hown : ∃ T l, v = .own T l
    · obtain ⟨T, l, rfl⟩ := hown; trivial
    · have hpv : PV w g.pr v u := by
        cases v <;> first | exact h0.1 | exact absurd ⟨_, _, rfl⟩ hown
      have : blank v = v := by cases v <;> first | rfl | exact absurd ⟨_, _, rfl⟩ hown
      rw [this]; exact hpv.LR
theorem blanks_nofz {μ0 : Bool} {B0 : Bd μ0} {pr : Nat → Nat → Prop} {cs : List AV} {us : List Value} {own : List (Option Nat)} (hl : cs.length = us.length) (hb : own.length = us.length)
    (ho : ∀ (i : Nat) (x : AV) (u : Value) (b : Option Nat), cs[i]? = some x → us[i]? = some u → own[i]? = some b → OwnC B0 w pr x u b) : ∀ (i : Nat) (v : AV), (blanks cs)[i]? ≠ some (.fz v) := by
  intro i v hx
  simp only [blanks, List.getElem?_map] at hx
  cases hc : cs[i]? with
  | none => rw [hc] at hx; cases hx
  | some x =>
    rw [hc] at hx
    simp only [Option.map_some, Option.some.injEq] at hx
    have hi : i < cs.length := (List.getElem?_eq_some_iff.1 hc).1
    have h0 := ho i x us[i] own[i] hc (by simp [show i < us.length by omega]) (by simp [show i < own.length by omega])
    cases x with
    | fz c => rcases h0.1 with h | ⟨_, _, e, _⟩ <;> first | exact h.elim | cases e
    | _ => cases hx
theorem goes_lend (hC : ∀ f args v, C f args v → CallOK μ P f args v) (h : Rel B g s w a N) (hd : ∀ t, o.dst = some t → t < N) {n : FuncId} {b : Nat} {vs cap : List AV} {us cu : List Value} (hv : All2 (VR w g) vs us) (hcap : All2 (PR w g.pr) cap cu)
    (hex : HasBody P n → (execOp a.eval o).run P w = .ok (.enter n (us ++ cu).toArray) w)
    (he0 : (lendArgs b vs [] fun vs ws => .box b fun
      | some cs => lendCells cs ws fun cs' ws' => .call n (vs ++ cap ++ [.lent cs']) fun v => lendTo o.dst b ws' v
      | none => .fail).Ev C Rd s ws) : Goes P B N o s w a ws := by
  obtain ⟨vs', ws1, g1, he, hpm, h1, hk1, hv1⟩ := lendArgs_ev (Promo.refl s) (by simpa [S.puts] using h) hv he0
  clear he0
  obtain ⟨_, he⟩ := he
  cases hbx : s.boxes b with
  | none => rw [hbx] at he; exact he.elim
  | some cs =>
    rw [hbx] at he
    have hbx1 : (s.puts ws1).boxes b = some cs := by rw [hpm.boxes]; exact hbx
    obtain ⟨kb, hβ, ok⟩ := h1.bx b cs hbx1
    obtain ⟨cus, el, fr, r1, r2, r3⟩ := ok.row
    obtain ⟨cs1, ws2, own, he, h2, hbx2, l1, l2, p1, p2, p3, p4, p5, p6⟩ := lendCells_ev h1 r3 he
    obtain ⟨v, hc, he⟩ := he
    -- the call's answer
    rcases hC _ _ _ hc with ⟨hnb, _⟩ | ⟨vs0, cs0, r, cs2, e1, rfl, hfn, hcall⟩ | ⟨_, _, r, bk, _, rfl, _⟩ | ⟨r, rfl, _⟩
    rotate_left 3
    · unfold lendTo at he
      cases hdst : o.dst with
      | none => rw [hdst] at he; exact he.elim
      | some tt =>
        rw [hdst] at he
        simp only [] at he
        cases hbv : backV b r with
        | none => rw [hbv] at he; exact he.elim
        | some r' => rw [hbv] at he; exact he.elim
    · have : ∀ v : AV, v.isBack = false → (lendTo o.dst b ws2 v).Ev C Rd s ws → False := by
        intro v hv hh
        unfold lendTo at hh
        split at hh
        · simp [AV.isBack] at hv
        · exact hh
      exact (this _ hnb he).elim
    rotate_left
    · unfold lendTo at he
      cases hdst : o.dst with
      | none => rw [hdst] at he; exact he.elim
      | some tt =>
        rw [hdst] at he
        simp only [] at he
        cases hbv : backV b r with
        | none => rw [hbv] at he; exact he.elim
        | some r' => rw [hbv] at he; exact he.elim
    obtain ⟨e2, e3⟩ := List.append_inj' e1 rfl
    have e3 : cs1 = cs0 := by simpa using e3
    subst e2 e3
    have hno : ∀ o, ¬ g1.pr kb o := fun o p => by obtain ⟨v, hv⟩ := ok.free o p; exact p6 o v hv
    have hbm : B.mine kb := ok.above
    have hkb : kb < w.heap.size := (Array.getElem?_eq_some_iff.1 r1).1
    have hsub : ∀ k, (bdL μ w.heap.size g1.pr kb own).mine k → B.mine k := by
      rintro k (hk | hk | hk)
      · exact .inl (Nat.le_trans h2.hB hk)
      · rw [hk]; exact hbm
      · exact (p3 k hk).2.1
    have hbox : BoxC (bdL μ w.heap.size g1.pr kb own) w g1.pr kb cs1 own := by
      refine ⟨⟨cus, el, fr, r1, r2, l1, fun i x u q hx hu hq => ?_⟩, hno, by rw [l2, l1], p2, fun k hk e => (p3 k hk).1.β b (by rw [hβ, e])⟩
      have h0 := p1 i x u q hx hu hq
      by_cases hown : ∃ T l, x = .own T l
      · obtain ⟨T, l, rfl⟩ := hown
        obtain ⟨tg, q1, q2, q3, q4⟩ := h0
        refine ⟨tg, ?_, q2, q3, q4⟩
        obtain ⟨ez, q1⟩ := q1
        refine ⟨ez, q1.imp id ?_⟩
        rintro ⟨k, cap', a1, a2, a3⟩
        refine ⟨k, cap', a1, a2, .inr (.inr ?_), a3.len, a3.row, a3.prlt, a3.prsh, a3.prno⟩
        have : q = some k := by rw [← q3, a2]
        subst this
        exact List.mem_of_getElem? hq
      · cases x <;> first | exact h0 | exact absurd ⟨_, _, rfl⟩ hown
    have hargs : All2 (ARg w g1.pr kb) (vs' ++ cap) (us ++ cu) := by
      refine (hv1.imp fun v u hh => ?_).append ((hcap.imp fun _ _ hh => PR.keeps hk1.pr hh).imp fun _ _ hh => .inr (.inl hh))
      rcases hh with ⟨kb', hβ', e'⟩ | hh
      · rw [hβ] at hβ'; cases hβ'
        exact .inl e'
      · exact .inr hh
    intro K Q hK
    unfold Oper.wp
    rw [hex hfn, Oper.upon_enter]
    refine (hcall w g1.pr _ kb own h2.prlt h2.ex.gl hbox hargs).mono ?_
    rintro e w' ⟨ru, pr', own', rfl, hbel, hp1, hp2, hbox', hret⟩
    show K (a.put o.dst ru) w'
    unfold lendTo at he
    cases hdst : o.dst with
    | none => rw [hdst] at he; exact he.elim
    | some tt =>
    rw [hdst] at he
    simp only [] at he
    cases hbv : backV b r with
    | none => rw [hbv] at he; exact he.elim
    | some r' =>
    rw [hbv] at he
    simp only [] at he
    obtain ⟨⟨us2, e2, fr2, x1, x2, x3, x4⟩, f1, f2, f3, f4⟩ := hbox'
    have hbx3 : (s.puts ws2).boxes b = some cs := by rw [hbx2]; exact hbx1
    obtain ⟨h3, k3⟩ := h2.lendBack (own := own) hbx3 hβ hno (fun k hk => ⟨(p3 k hk).1, (p3 k hk).2.1, (p3 k hk).2.2.1⟩) hbel hp1 hp2 f1 x1 x2
      (blanks_LR (g := { g1 with pr := pr' }) x3 (by rw [f2, x3]) x4)
    have hfresh : ∀ k, some k ∈ own' → Fresh { g1 with pr := pr' } ((s.puts ws2).put (.box b (blanks cs2))) k ∧ ∀ o, ¬ pr' k o := by
      intro k hk
      obtain ⟨i, hi⟩ := List.getElem?_of_mem hk
      have hlt : i < own'.length := (List.getElem?_eq_some_iff.1 hi).1
      have := ownC_block (x4 i cs2[i] us2.toList[i] (some k) (by simp [show i < cs2.length by omega]) (by
        have : i < us2.toList.length := by omega
        simp [this]) hi) rfl
      refine ⟨?_, this.2⟩
      have hF : Fresh g1 (s.puts ws2) k := by
        rcases this.1 with hm | hm | hm
        · exact h2.fresh hm
        · exact absurd hm (f4 k hk)
        · exact (p3 k hm).1
      exact ⟨hF.β, hF.τ⟩
    obtain ⟨g4, ws4, cs4, he, h4, k4, hcs4, hbx4⟩ := backCells_ev (B0 := bdL μ w.heap.size g1.pr kb own) (ws0 := ws2 ++ [.box b (blanks cs2)]) (by rw [S.puts_one]; exact h3) (by
        intro i _ hti
        rw [S.puts_one]
        show (s.puts ws2).toks (tokL tt i) = .abs
        have h5 : (s.puts ws1).toks (tokL tt i) = .abs := by
          rcases hpm.toks (tokL tt i) with e | ⟨_, _, e, _⟩
          · rw [e, hti]
          · rw [hti] at e; cases e
        rcases p4 (tokL tt i) with e | ⟨e, _⟩
        · rw [e, h5]
        · exact absurd h5 e) (us := us2.toList) x3 (by rw [f2, x3]) (by rw [S.puts_one]; exact hfresh) hsub x4 f3 he
    have hw : ws = ws4 ++ [.box b cs4, .tmp tt r'] := he
    subst hw
    have hβ4 : g4.β b = some kb := k4.β b kb hβ
    have hbx5 : (s.puts ws4).boxes b = some (blanks cs2) := by
      rw [hbx4, S.puts_one]; simp [S.put, upd_same]
    obtain ⟨h5, k5⟩ := h4.setBox (w' := w') hbx5 hβ4 ⟨rfl, fun _ _ => rfl⟩ x1 x2 hcs4 (fun _ _ => rfl) (fun o p => by
      obtain ⟨k5, e5, ok5⟩ := h4.bx b _ hbx5
      rw [hβ4] at e5; cases e5
      obtain ⟨v, hv⟩ := ok5.free o p
      exact absurd hv (blanks_nofz x3 (by rw [f2, x3]) x4 o v))
    have h6 := h5.tmp (t := tt) (v := r') (u := ru) (backV_VR (g := g4) (kb := kb) hbv hβ4 (by
      have hkp : PrKeeps w' pr' w' g4.pr := k4.pr
      revert hret
      have hA : ∀ v u, ARg w' pr' kb v u → ARg w' g4.pr kb v u := fun v u hh => hh.imp id fun q => q.keeps hkp
      cases r <;> first | exact hA _ _ | (rintro ⟨us', q1, q2⟩; exact ⟨us', q1, q2.imp hA⟩))) (hd tt hdst)
    refine hK g4 _ _ ?_ ⟨hbel.os, hbel.tape, hbel.output, hbel.size, fun k hk => hbel.block k fun hm => hk (hsub k hm), hbel.dr⟩
    rw [S.puts_append]
    exact h6
theorem Rel.eatBack (h : Rel B g s w a N) {b0 : Option Nat} (hf : ∀ k, b0 = some k → Fresh g s k ∧ B.mine k ∧ ∀ o, ¬ g.pr k o)
    (hbel : BelowB (bdE μ w.heap.size g.pr b0) w w') {pr' : Nat → Nat → Prop} (hp : ∀ k o, ¬ (bdE μ w.heap.size g.pr b0).mine k → (pr' k o ↔ g.pr k o)) (hlt : ∀ k o, pr' k o → k < w'.heap.size) :
    Rel B { g with pr := pr' } s w' a N ∧ Keeps w g w' { g with pr := pr' } := by
  have hnm : ∀ k, k < w.heap.size → (∀ q, b0 = some q → q ≠ k) → ¬ (bdE μ w.heap.size g.pr b0).mine k := by
    rintro k h1 h3 (h4 | h4)
    · have : w.heap.size ≤ k := h4; omega
    · exact h3 k h4 rfl
  have hnp : ∀ k o, g.pr k o → ¬ (bdE μ w.heap.size g.pr b0).mine k := fun k o p => hnm k (h.prlt k o p) (fun q hq e => (hf q hq).2.2 o (e ▸ p))
  have hk : Keeps w g w' { g with pr := pr' } :=
    ⟨fun k o p => ⟨(hp k o (hnp k o p)).2 p, cell_heap (hbel.block k (hnp k o p)) o⟩, fun _ _ x => x, fun _ _ x => x⟩
  have lt_of : ∀ {k : Nat} {o : Obj}, w.heap[k]? = some o → k < w.heap.size := fun e => (Array.getElem?_eq_some_iff.1 e).1
  refine ⟨⟨h.df, h.nt, Nat.le_trans h.hB hbel.size, fun t => (h.tm t).keeps hk, hlt, h.bx0, ?_, h.binj, h.tk0, ?_, h.tinj, h.tbx, ?_, h.ex.keep hk (fun _ h => h), fun t K l hts => ?_⟩, hk⟩
  · intro b' cs2 hb'
    obtain ⟨i, ei, ab, free, us2, el, f, r1, r2, r3⟩ := h.bx b' cs2 hb'
    have hn := hnm i (lt_of r1) (fun q hq e' => (hf q hq).1.β b' (by rw [ei, e']))
    exact ⟨i, ei, ab, fun o p => free o ((hp i o hn).1 p), us2, el, f, (hbel.block i hn).trans r1, r2, r3.imp fun _ _ => LR.keeps hk⟩
  · intro t sh T l hts
    obtain ⟨tg, et, ez, r⟩ := h.tk t sh T l hts
    refine ⟨tg, et, ez, r.imp id ?_⟩
    rintro ⟨i, cap, a1, a2, a3⟩
    have hl : (s.toks t).isLive = true := by rw [hts]; rfl
    obtain ⟨us2, el, f, r1, r2, r3, r4⟩ := a3.row
    have hn := hnm i (lt_of r1) (fun q hq e' => (hf q hq).1.τ t tg hl et (by rw [a2, e']))
    exact ⟨i, cap, a1, a2, a3.above, a3.len, ⟨us2, el, f, (hbel.block i hn).trans r1, r2, r3, r4.keeps hk.pr⟩, fun o p => a3.prlt o ((hp i o hn).1 p), fun e o p => (hp i o hn).2 (a3.prsh e o p), fun e o p => a3.prno e o ((hp i o hn).1 p)⟩
  · intro k o hm
    have hn := hnm k (Nat.lt_of_lt_of_le (Bd.mine_lt hm) h.hB) (fun q hq e => hm (e ▸ (hf q hq).2.1))
    exact (hp k o hn).trans (h.prB k o hm)
  · obtain ⟨tg, et, mok⟩ := h.mp t K l hts
    have hl : (s.toks t).isLive = true := by rw [hts]; rfl
    refine ⟨tg, et, mok.keep hk.pr fun i hi hlt' => ?_⟩
    have hn := hnm i hlt' (fun q hq e' => (hf q hq).1.τ t tg hl et (by rw [hi, e']))
    exact ⟨hbel.block i hn, fun o p => (hp i o hn).1 p⟩
theorem Rel.revive (h : Rel B g s w a N) {t : Nat} {T : Ty} {l : List T.den} {tg : TG} (ht : s.toks t = .dead) (hτ : g.τ t = some tg) (hf : ∀ k, tg.blk = some k → Fresh g s k) (hok : TokOK B w g.pr false T l tg) :
    Rel B g (s.put (.tok t (.live false T l))) w a N := by
  refine ⟨h.df, h.nt, h.hB, h.tm, h.prlt, h.bx0, h.bx, h.binj, ?_, ?_, ?_, ?_, h.prB, h.ex.keep (Keeps.refl _ _) (fun _ h => h), fun i K' l' e => by
    by_cases eb : i = t
    · subst eb; simp [S.put, upd_same] at e
    · simp only [S.put, upd_ne _ _ _ _ eb] at e; exact h.mp i K' l' e⟩
  · intro b e
    by_cases eb : b = t
    · subst eb; simp [S.put, upd_same] at e
    · simp only [S.put, upd_ne _ _ _ _ eb] at e ⊢; exact h.tk0 b e
  · intro i sh' T' l' e
    by_cases eb : i = t
    · subst eb; simp only [S.put, upd_same] at e ⊢; cases e; exact ⟨tg, hτ, hok⟩
    · simp only [S.put, upd_ne _ _ _ _ eb] at e ⊢; exact h.tk i sh' T' l' e
  · intro i i' x x' k l1 l2 e1 e2 e3 e4
    by_cases eb : i = t <;> by_cases eb' : i' = t
    · rw [eb, eb']
    · subst eb; simp only [S.put, upd_ne _ _ _ _ eb'] at l2; rw [hτ] at e1; cases e1; exact absurd e4 ((hf k e3).τ i' x' l2 e2)
    · subst eb'; simp only [S.put, upd_ne _ _ _ _ eb] at l1; rw [hτ] at e2; cases e2; exact absurd e3 ((hf k e4).τ i x l1 e1)
    · simp only [S.put, upd_ne _ _ _ _ eb, upd_ne _ _ _ _ eb'] at l1 l2; exact h.tinj i i' x x' k l1 l2 e1 e2 e3 e4
  · intro i x k b hl e1 e2 e3
    by_cases eb : i = t
    · subst eb; rw [hτ] at e1; cases e1; exact (hf k e2).β b e3
    · simp only [S.put, upd_ne _ _ _ _ eb] at hl; exact h.tbx i x k b hl e1 e2 e3
theorem PV_notLent {pr : Nat → Nat → Prop} {cs : List AV} {u : Value} (h : PV w pr (.lent cs) u) : False := by
  rcases h with h | ⟨_, _, e, _⟩
  · exact h.elim
  · cases e
theorem goes_pt (hC : ∀ f args v, C f args v → CallOK μ P f args v) (h : Rel B g s w a N) (hd : ∀ t, o.dst = some t → t < N) {n : FuncId} {b : Nat} {vs cap : List AV} {us cu : List Value} (hv : All2 (VR w g) vs us) (hcap : All2 (PR w g.pr) cap cu)
    (hex : HasBody P n → (execOp a.eval o).run P w = .ok (.enter n (us ++ cu).toArray) w)
    (he0 : (lendArgs b vs [] fun vs ws => .box b fun
      | some _ => .call n (vs ++ cap) fun v => ptTo o.dst b ws v
      | none => .fail).Ev C Rd s ws) : Goes P B N o s w a ws := by
  obtain ⟨vs', ws1, g1, he, hpm, h1, hk1, hv1⟩ := lendArgs_ev (Promo.refl s) (by simpa [S.puts] using h) hv he0
  clear he0
  obtain ⟨_, he⟩ := he
  cases hbx : s.boxes b with
  | none => rw [hbx] at he; exact he.elim
  | some cs =>
  rw [hbx] at he
  have hbx1 : (s.puts ws1).boxes b = some cs := by rw [hpm.boxes]; exact hbx
  obtain ⟨kb, hβ, ok⟩ := h1.bx b cs hbx1
  obtain ⟨v, hc, he⟩ := he
  have hform : ∀ (v : AV) (d : Option Tmp), (ptTo d b ws1 v).Ev C Rd s ws → ∃ r tt r', v = .back r [.lent [.undef]] ∧ d = some tt ∧ backV b r = some r' ∧ ws = ws1 ++ [.tmp tt r'] := by
    intro v d he
    unfold ptTo at he
    split at he
    · rename_i r tt
      cases hbv : backV b r with
      | none => rw [hbv] at he; exact he.elim
      | some r' => rw [hbv] at he; exact ⟨r, tt, r', rfl, rfl, hbv, he⟩
    · exact he.elim
  obtain ⟨r, tt, r', rfl, hdst, hbv, rfl⟩ := hform v o.dst he
  have hnl : ∀ cs0, AV.lent cs0 ∉ vs' ++ cap := by
    intro cs0 e
    rcases List.mem_append.1 e with e | e
    · obtain ⟨i, hi⟩ := List.getElem?_of_mem e
      obtain ⟨u, _, hu⟩ := hv1.get i _ hi
      rcases hu with ⟨_, _, hu⟩ | hu
      · exact hu
      · exact PV_notLent hu
    · obtain ⟨i, hi⟩ := List.getElem?_of_mem e
      obtain ⟨u, _, hu⟩ := hcap.get i _ hi
      exact hu
  rcases hC _ _ _ hc with ⟨hnb, _⟩ | ⟨vs0, cs0, _, _, e1, _, _⟩ | ⟨_, _, _, bk, _, e, _⟩ | ⟨r2, e, hfn, hcall⟩
  · simp [AV.isBack] at hnb
  · exact absurd (by rw [e1]; simp) (hnl cs0)
  · cases e
  cases e
  have hargs : All2 (ARg w g1.pr kb) (vs' ++ cap) (us ++ cu) := by
    refine (hv1.imp fun v u hh => ?_).append ((hcap.imp fun _ _ hh => PR.keeps hk1.pr hh).imp fun _ _ hh => .inr (.inl hh))
    rcases hh with ⟨kb', hβ', e'⟩ | hh
    · rw [hβ] at hβ'; cases hβ'
      exact .inl e'
    · exact .inr hh
  intro K Q hK
  unfold Oper.wp
  rw [hex hfn, Oper.upon_enter]
  refine (hcall w g1.pr _ kb h1.prlt h1.ex.gl hargs).mono ?_
  rintro e w' ⟨ru, rfl, hbel, hret⟩
  show K (a.put o.dst ru) w'
  obtain ⟨h3, k3⟩ := h1.grow (pr' := g1.pr) hbel.size (fun k hk => hbel.block k hk) (fun _ _ _ => Iff.rfl) (fun k o p => Nat.lt_of_lt_of_le (h1.prlt k o p) hbel.size)
  have h6 := h3.tmp (t := tt) (v := r') (u := ru) (backV_VR (g := { g1 with pr := g1.pr }) (kb := kb) hbv hβ hret) (hd tt hdst)
  rw [hdst]
  refine hK { g1 with pr := g1.pr } _ _ ?_ (.of (hbel.toBelow.mono h.hB) hbel.dr)
  rw [S.puts_append]
  exact h6
theorem goes_eat (hC : ∀ f args v, C f args v → CallOK μ P f args v) (h : Rel B g s w a N) (hd : ∀ t, o.dst = some t → t < N) {n : FuncId} {vs cap : List AV} {us cu : List Value} (hv : All2 (VR w g) vs us) (hcap : All2 (PR w g.pr) cap cu)
    (hex : HasBody P n → (execOp a.eval o).run P w = .ok (.enter n (us ++ cu).toArray) w)
    (he0 : (eatCall o.dst n cap vs).Ev C Rd s ws) : Goes P B N o s w a ws := by
  cases vs with
  | nil => exact he0.elim
  | cons a0 rest =>
  cases us with
  | nil => exact hv.elim
  | cons u0 us =>
  obtain ⟨hv0, hvr⟩ := hv
  unfold eatCall at he0
  obtain ⟨vs', ws1, g1, he, hpm, h1, hk1, hv1⟩ := snaps_ev (Promo.refl s) (by simpa [S.puts] using h) hvr he0
  clear he0
  have hl0 : LR w g1 a0 u0 := by
    rcases VR_or (hv0.keeps hk1) with ⟨vs2, rfl, _⟩ | hh
    · simp [lendCells, isPlainCell] at he
      exact he.elim
    · exact hh
  obtain ⟨cs1, ws2, own, he, h2, hbx2, l1, l2, p1, p2, p3, p4, p5, p6⟩ := lendCells_ev h1 (cs := [a0]) (us := [u0]) ⟨hl0, trivial⟩ he
  obtain ⟨c0, rfl⟩ : ∃ c0, cs1 = [c0] := List.length_eq_one_iff.1 (by simpa using l1)
  obtain ⟨b0, rfl⟩ : ∃ b0, own = [b0] := List.length_eq_one_iff.1 (by simpa using l2)
  obtain ⟨v, hc, he⟩ := he
  have h0 := p1 0 c0 u0 b0 rfl rfl rfl
  have hcap1 : All2 (PV w g1.pr) cap cu := (hcap.imp fun _ _ hh => PR.keeps hk1.pr hh).imp fun _ _ => Or.inl
  have hargs : All2 (PV w g1.pr) (vs' ++ cap) (us ++ cu) := hv1.append hcap1
  have hnl : ∀ vs0 cs0, [c0] ++ vs' ++ cap ≠ vs0 ++ [.lent cs0] := by
    intro vs0 cs0 e
    have hm : AV.lent cs0 ∈ c0 :: (vs' ++ cap) := by
      have : AV.lent cs0 ∈ vs0 ++ [AV.lent cs0] := by simp
      rw [← e] at this
      simpa using this
    rcases List.mem_cons.1 hm with e2 | e2
    · rw [← e2] at h0; exact PV_notLent h0.1
    · obtain ⟨i, hi⟩ := List.getElem?_of_mem e2
      obtain ⟨u, _, hu⟩ := hargs.get i _ hi
      exact PV_notLent hu
  rcases hC _ _ _ hc with ⟨hnb, _⟩ | ⟨vs0, cs0, r, cs2, e1, rfl, _⟩ | ⟨c0', rest', r, bk, e1, rfl, hfn, hcall⟩ | ⟨r, rfl, _⟩
  rotate_left 3
  · exact (show False from he).elim
  · exfalso
    have : ∀ v : AV, v.isBack = false → (ateTo o.dst a0 ws2 v).Ev C Rd s ws → False := by
      intro v hv hh
      unfold ateTo at hh
      split at hh
      · simp [AV.isBack] at hv
      · simp [AV.isBack] at hv
      · exact hh
    exact this _ hnb he
  · exact absurd e1 (hnl _ _)
  simp only [List.singleton_append, List.cons_append, List.cons.injEq] at e1
  obtain ⟨rfl, rfl⟩ := e1
  have hpo : ∀ k, b0 = some k → Fresh g1 (s.puts ws2) k ∧ B.mine k ∧ ∀ o, ¬ g1.pr k o := fun k hk => by
    obtain ⟨q1, q2, q3, _⟩ := p3 k (by rw [hk]; simp)
    exact ⟨q1, q2, q3⟩
  have hsub : ∀ k, (bdE μ w.heap.size g1.pr b0).mine k → B.mine k := by
    rintro k (hk | hk)
    · exact .inl (Nat.le_trans h2.hB hk)
    · exact (hpo k hk).2.1
  have h0E : OwnC (bdE μ w.heap.size g1.pr b0) w g1.pr c0 u0 b0 := by
    by_cases hown : ∃ T l, c0 = .own T l
    · obtain ⟨T, l, rfl⟩ := hown
      obtain ⟨tg, q1, q2, q3, q4⟩ := h0
      refine ⟨tg, ?_, q2, q3, q4⟩
      obtain ⟨ez, q1⟩ := q1
      refine ⟨ez, q1.imp id ?_⟩
      rintro ⟨k, cap', a1, a2, a3⟩
      exact ⟨k, cap', a1, a2, .inr (by show b0 = some k; rw [← q3, a2]), a3.len, a3.row, a3.prlt, a3.prsh, a3.prno⟩
    · cases c0 <;> first | exact h0 | exact absurd ⟨_, _, rfl⟩ hown
  intro K Q hK
  unfold Oper.wp
  rw [hex hfn, show (u0 :: us) ++ cu = u0 :: (us ++ cu) from rfl, Oper.upon_enter]
  refine (hcall w g1.pr u0 (us ++ cu) b0 h2.prlt h2.ex.gl h0E hargs).mono ?_
  rintro e w' ⟨ru, pr', rfl, hbel, hp1, hp2, hret⟩
  show K (a.put o.dst ru) w'
  obtain ⟨h3, k3⟩ := h2.eatBack hpo hbel hp1 hp2
  have hB : BelowB B w w' := ⟨hbel.os, hbel.tape, hbel.output, hbel.size, fun k hk => hbel.block k fun hm => hk (hsub k hm), hbel.dr⟩
  have hfr : ∀ k, (bdE μ w.heap.size g1.pr b0).mine k → Fresh { g1 with pr := pr' } (s.puts ws2) k := by
    rintro k (hk | hk)
    · exact ⟨(h2.fresh hk).β, (h2.fresh hk).τ⟩
    · exact ⟨(hpo k hk).1.β, (hpo k hk).1.τ⟩
  have habs : ∀ i, s.toks i = .abs → (s.puts ws2).toks i = .abs := by
    intro i hi
    have h5 : (s.puts ws1).toks i = .abs := by
      rcases hpm.toks i with e | ⟨_, _, e, _⟩
      · rw [e, hi]
      · rw [hi] at e; cases e
    rcases p4 i with e | ⟨e, _⟩
    · rw [e, h5]
    · exact absurd h5 e
  cases bk with
  | nil => exact goes_answer (B0 := bdE μ w.heap.size g1.pr b0) h3 habs hd hB hsub hfr hret (by
      revert he
      unfold ateTo
      exact id) hK
  | cons c bk =>
    cases bk with
    | cons _ _ => exact hret.elim
    | nil =>
    obtain ⟨hret, rfl, rfl⟩ := hret
    by_cases hcown : ∃ T l, c = .own T l
    · obtain ⟨T, l, rfl⟩ := hcown
      cases a0 with
      | ref t =>
        obtain ⟨_, he⟩ := (show (Pg.tok t fun
          | .live false T0 _ => match T.dec T0 with
            | some _ => .ret (ws2 ++ ([.tok t (.live false T l)] ++ wrd o.dst (.tup [])))
            | none => .fail
          | _ => .fail).Ev C Rd s ws from he)
        cases htk : s.toks t with
        | abs => rw [htk] at he; exact he.elim
        | dead => rw [htk] at he; exact he.elim
        | mlive _ _ => rw [htk] at he; exact he.elim
        | live sh T0 l0 =>
          rw [htk] at he
          cases sh with
          | true => exact he.elim
          | false =>
            simp only [] at he
            cases hdec : T.dec T0 with
            | none => rw [hdec] at he; exact he.elim
            | some hh =>
            rw [hdec] at he
            obtain ⟨rfl⟩ := hh
            have : ws = _ := he
            subst this
            obtain ⟨tg0, hτ0, hu0, _⟩ := hl0
            obtain ⟨hdead, htg⟩ := p5 0 t rfl T l0 htk
            have hb0 : tg0.blk = b0 := by have := htg tg0 hτ0; simpa using this.symm
            obtain ⟨tg1, hok, hv1', hb1, _⟩ := hret
            have hz : tg0.esz = T.size := by
              have hs : ∃ T2 l2, (s.puts ws1).toks t = .live false T2 l2 ∨ (s.puts ws1).toks t = .live true T2 l2 := by
                rcases hpm.toks t with e | ⟨T2, l2, _, e⟩
                · exact ⟨T, l0, .inl (by rw [e, htk])⟩
                · exact ⟨T2, l2, .inr e⟩
              have hT2 : ∀ sh T2 l2, (s.puts ws1).toks t = .live sh T2 l2 → T2 = T := by
                intro sh T2 l2 e
                rcases hpm.toks t with e' | ⟨T3, l3, e3, e'⟩
                · rw [e', htk] at e; cases e; rfl
                · rw [htk] at e3; cases e3
                  rw [e'] at e; cases e; rfl
              obtain ⟨T2, l2, e | e⟩ := hs
              · have := hT2 _ _ _ e; subst this
                obtain ⟨tg2, e1, e2, _⟩ := h1.tk t _ _ _ e
                rw [hτ0] at e1; cases e1; exact e2
              · have := hT2 _ _ _ e; subst this
                obtain ⟨tg2, e1, e2, _⟩ := h1.tk t _ _ _ e
                rw [hτ0] at e1; cases e1; exact e2
            have htgs : tg1 = tg0 := by
              obtain ⟨v1, b1, z1⟩ := tg1
              obtain ⟨v0, b0', z0⟩ := tg0
              simp only at hb1 hb0 hz hv1' hu0
              have hz1 : z1 = T.size := hok.1
              subst hb1 hb0 hz hz1
              rw [← hv1', ← hu0]
            subst htgs
            have hno : ∀ k, tg1.blk = some k → ∀ o, ¬ pr' k o := by
              intro k hk o ho
              obtain ⟨_, r⟩ := hok
              rcases r with ⟨_, e, _⟩ | ⟨k', cap', _, e, r⟩
              · rw [hk] at e; cases e
              · rw [hk] at e; cases e; exact r.prno rfl o ho
            have h4 := h3.revive (t := t) (T := T) (l := l) hdead hτ0 (fun k hk => hfr k (.inr (by rw [← hb1]; exact hk))) (tokOK_keeps hok hsub (fun _ _ p => ⟨p, rfl⟩) hno)
            refine hK { g1 with pr := pr' } _ _ ?_ hB
            rw [S.puts_append]
            exact Rel.wrd (s := (s.puts ws2).put (.tok t (.live false T l))) h4 (v := .tup []) (show VR w' _ (.tup []) (.tuple #[]) from ⟨[], rfl, trivial⟩) hd
      | _ => exact he.elim
    · exfalso
      revert he
      unfold ateTo
      cases c <;> first | exact fun h => h.elim | exact absurd ⟨_, _, rfl⟩ hcown
theorem goes_peek (hC : ∀ f args v, C f args v → CallOK μ P f args v) (h : Rel B g s w a N) (hd : ∀ t, o.dst = some t → t < N) {n : FuncId} {vs cap : List AV} {us cu : List Value} (hv : All2 (VR w g) vs us) (hcap : All2 (PR w g.pr) cap cu)
    (hex : HasBody P n → (execOp a.eval o).run P w = .ok (.enter n (us ++ cu).toArray) w)
    (he0 : (peekCall o.dst n vs cap).Ev C Rd s ws) : Goes P B N o s w a ws := by
  unfold peekCall at he0
  obtain ⟨vs', ws1, g1, he, hpm, h1, hk1, hv1⟩ := snaps_ev (Promo.refl s) (by simpa [S.puts] using h) hv he0
  clear he0
  obtain ⟨v, hc, he⟩ := he
  have hargs : All2 (PV w g1.pr) (vs' ++ cap) (us ++ cu) := hv1.append ((hcap.imp fun _ _ => PR.keeps hk1.pr).imp fun _ _ => Or.inl)
  have hpl : ∃ u : Value, (∀ (W : World) (pr : Nat → Nat → Prop) (b : Option Nat) (B1 : Bd μ) (r : Value), OwnC B1 W pr v r b → r = u) ∧ (∀ (g' : Gh) (W : World), VR W g' v u) ∧ ws = wrd o.dst v ∧ (∀ vs, v ≠ .tup vs) ∧ ∀ r c, v ≠ .back r c := by
    have he : (peeked o.dst v).Ev C Rd s ws := he
    cases v with
    | int k m =>
      refine ⟨.int k m, fun W pr b B1 r hr => ?_, fun _ _ => rfl, he, (fun _ e => by cases e), (fun _ _ e => by cases e)⟩
      rcases hr.1 with e | ⟨_, _, e, _⟩
      · exact e
      · cases e
    | bool b =>
      refine ⟨.bool b, fun W pr b B1 r hr => ?_, fun _ _ => rfl, he, (fun _ e => by cases e), (fun _ _ e => by cases e)⟩
      rcases hr.1 with e | ⟨_, _, e, _⟩
      · exact e
      · cases e
    | _ => exact he.elim
  obtain ⟨u, hu, hvu, rfl, hnt, hnb⟩ := hpl
  rcases hC _ _ _ hc with ⟨_, hfn, hcall⟩ | ⟨_, _, r, c, _, e, _⟩ | ⟨_, _, r, c, _, e, _⟩ | ⟨_, e, _⟩
  rotate_left
  · exact absurd e (hnb _ _)
  · exact absurd e (hnb _ _)
  · exact absurd e (hnb _ _)
  intro K Q hK
  unfold Oper.wp
  rw [hex hfn, Oper.upon_enter]
  refine (hcall w g1.pr _ h1.prlt h1.ex.gl hargs).mono ?_
  rintro e w' ⟨r, pr', rfl, hbel, hp1, hp2, hr⟩
  show K (a.put o.dst r) w'
  have hru : r = u := by
    have hr' : ∃ b, OwnC (bd0 μ w.heap.size g1.pr) w' pr' v r b := by
      cases v with
      | tup vs => exact absurd rfl (hnt vs)
      | _ => exact hr
    obtain ⟨b, hb⟩ := hr'
    exact hu _ _ _ _ _ hb
  subst hru
  obtain ⟨h3, _⟩ := h.grow (pr' := g.pr) hbel.size (fun k hk => hbel.block k hk) (fun _ _ _ => Iff.rfl) (fun k o p => Nat.lt_of_lt_of_le (h.prlt k o p) hbel.size)
  exact hK _ _ _ (h3.wrd (hvu _ _) hd) (.of (hbel.toBelow.mono h.hB) hbel.dr)
theorem goes_call (hC : ∀ f args v, C f args v → CallOK μ P f args v) (h : Rel B g s w a N) (hd : ∀ t, o.dst = some t → t < N) {f : Operand} {args : Array Operand} {ts : Array TypeId}
    (ho : o.op = .call { callee := .value f, args := args, argTypes := ts }) {vs : List AV} (hv : All2 (VR w g) vs (args.toList.map a.eval))
    (he0 : (rdv f fun
      | .fn n cap => snaps vs [] fun vs ws => .call n (vs ++ cap) fun v => answer o.dst ws v
      | .fnv n T x => bif T.isSt then snaps vs [] fun vs ws => .call n (T.av x :: vs) fun v => answer o.dst ws v else lendCall o.dst n vs (T.cells x)
      | _ => .fail).Ev C Rd s ws) : Goes P B N o s w a ws := by
  obtain ⟨p, hp, he⟩ := rdv_ev h he0
  clear he0
  cases p with
  | fn n cap =>
    simp only [] at he
    obtain ⟨cu, hcu, hcap⟩ := hp
    obtain ⟨vs', ws', g1, he, hpm, h2, hk, hv2⟩ := snaps_ev (Promo.refl s) (by simpa [S.puts] using h) hv he
    obtain ⟨v, hc, he⟩ := he
    have hargs : All2 (PV w g1.pr) (vs' ++ cap) ((args.toList.map a.eval) ++ cu) := hv2.append ((hcap.imp fun _ _ => PR.keeps hk.pr).imp fun _ _ => Or.inl)
    exact goes_enter (hC _ _ _ hc) h2 hpm hd hargs (fun ⟨fn, f1, f2, f3⟩ => by rw [execOp_call ho hcu f1 f2 f3]) he
  | fnv n T x =>
    simp only [] at he
    cases hst : T.isSt with
    | true =>
      rw [hst] at he
      simp only [cond_true] at he
      obtain ⟨vs', ws', g1, he, hpm, h2, hk, hv2⟩ := snaps_ev (Promo.refl s) (by simpa [S.puts] using h) hv he
      obtain ⟨v, hc, he⟩ := he
      have hp' : TR w g1.pr (.clo n T) x [a.eval f] := TR.keeps hk.pr hp
      obtain ⟨us, e1, e3⟩ := hp'
      rw [hst] at e1
      have e1 : a.eval f = .func (.func n) #[.agg us.toArray] #[] := (List.cons.inj e1).1
      have hpv : PV w g1.pr (T.av x) (.agg us.toArray) := by
        refine .inr ⟨T.cells x, us, ?_, rfl, cells_PR e3⟩
        unfold Ty.av; simp only [hst]
      exact goes_enter (hC _ _ _ hc) h2 hpm hd (vargs := T.av x :: vs') (us0 := .agg us.toArray :: args.toList.map a.eval) ⟨hpv, hv2⟩ (fun ⟨fn, f1, f2, f3⟩ => by rw [execOp_callB ho e1 f1 f2 f3]) he
    | false =>
    rw [hst] at he
    simp only [cond_false] at he
    obtain ⟨cu, e1, e2⟩ := id hp
    rw [hst] at e1
    have hcu : a.eval f = .func (.func n) #[] cu.toArray := (List.cons.inj e1).1
    have hcap := cells_PR e2
    unfold lendCall at he
    cases hfp : findPtr vs with
    | none =>
      rw [hfp] at he
      simp only [] at he
      cases hea : eats n with
      | true =>
        rw [hea] at he
        exact goes_eat hC h hd hv hcap (fun ⟨fn, f1, f2, f3⟩ => by rw [execOp_call ho hcu f1 f2 f3]) he
      | false =>
      rw [hea] at he
      simp only [cond_false] at he
      cases hpk : peeks n with
      | true =>
        rw [hpk] at he
        exact goes_peek hC h hd hv hcap (fun ⟨fn, f1, f2, f3⟩ => by rw [execOp_call ho hcu f1 f2 f3]) he
      | false =>
      rw [hpk] at he
      simp only [cond_false] at he
      obtain ⟨vs', ws', g1, he, hpm, h2, hk, hv2⟩ := snaps_ev (Promo.refl s) (by simpa [S.puts] using h) hv he
      obtain ⟨v, hc, he⟩ := he
      have hargs : All2 (PV w g1.pr) (vs' ++ T.cells x) ((args.toList.map a.eval) ++ cu) := hv2.append ((hcap.imp fun _ _ => PR.keeps hk.pr).imp fun _ _ => Or.inl)
      exact goes_enter (hC _ _ _ hc) h2 hpm hd hargs (fun ⟨fn, f1, f2, f3⟩ => by rw [execOp_call ho hcu f1 f2 f3]) he
    | some b =>
      rw [hfp] at he
      simp only [] at he
      cases hpt : pts n with
      | true =>
        rw [hpt] at he
        exact goes_pt hC h hd hv hcap (fun ⟨fn, f1, f2, f3⟩ => by rw [execOp_call ho hcu f1 f2 f3]) he
      | false =>
      rw [hpt] at he
      simp only [cond_false] at he
      exact goes_lend hC h hd hv hcap (fun ⟨fn, f1, f2, f3⟩ => by rw [execOp_call ho hcu f1 f2 f3]) he
  | _ => exact he.elim
end
end Go.Proofs.Ytjonpmckkmnemaa.Th
end
section
set_option linter.unusedVariables false
set_option linter.unusedSimpArgs false
namespace Go.Proofs.Ytjonpmckkmnemaa.Th
open Go Go.RowKit
section
variable {P : Program} {TI : TEnv} {C : FuncId → List AV → AV → Prop} {Rd : Rs → Prop} {μ : Bool} {B : Bd μ} {N : Nat} {g g' : Gh} {s : S} {w w' : World} {a : Act} {o : Oper} {ws : List Wr}
theorem LR_plain' {v : AV} {u : Value} (h : LR w g v u) (hp : isPlainCell v = true) : PR w g.pr v u := by
  cases v <;> first | exact h | (simp [isPlainCell] at hp)
theorem LRs_plain : ∀ {vs : List AV} {us : List Value}, All2 (LR w g) vs us → vs.all isPlainCell = true → All2 (PR w g.pr) vs us
  | [], [], _, _ => trivial
  | v :: vs, u :: us, h, hp => by
    simp only [List.all_cons, Bool.and_eq_true] at hp
    exact ⟨LR_plain' h.1 hp.1, LRs_plain h.2 hp.2⟩
  | [], _ :: _, h, _ => h.elim
  | _ :: _, [], h, _ => h.elim
theorem fszOK_get : ∀ {fs : List (Nat × TypeId)} {ns : List Nat}, fszOK P fs ns = true → fs.length = ns.length ∧ ∀ (j : Nat) (f : Nat × TypeId) (n : Nat), fs[j]? = some f → ns[j]? = some n → ∃ ti, P.info? f.2 = some ti ∧ ti.size = n
  | [], [], _ => ⟨rfl, fun j f n h => by simp at h⟩
  | f :: fs, n :: ns, h => by
    simp only [fszOK, Bool.and_eq_true] at h
    obtain ⟨h1, h2⟩ := h
    obtain ⟨l, r⟩ := fszOK_get h2
    refine ⟨by simp [l], fun j f' n' hf hn => ?_⟩
    cases j with
    | zero =>
      simp at hf hn; subst hf; subst hn
      split at h1
      · rename_i ti hti; exact ⟨ti, hti, Nat.eq_of_beq_eq_true h1⟩
      · cases h1
    | succ j => exact r j f' n' (by simpa using hf) (by simpa using hn)
  | [], _ :: _, h => by simp [fszOK] at h
  | _ :: _, [], h => by simp [fszOK] at h
theorem run_places : ∀ {fs : List Field} {ns : List Nat}, fszOK P (fs.map fun f => (f.offset, f.type)) ns = true →
    (fs.mapM (m := Sem) fun f => do pure (f.offset, ← sizeOf f.type)).run P w = .ok ((fs.map fun f => f.offset).zip ns) w := by
  intro fs
  induction fs with
  | nil => intro ns h; cases ns with
    | nil => rfl
    | cons _ _ => simp [fszOK] at h
  | cons f fs ih =>
    intro ns h
    cases ns with
    | nil => simp [fszOK] at h
    | cons n ns =>
      simp only [List.map_cons, fszOK, Bool.and_eq_true] at h
      obtain ⟨h1, h2⟩ := h
      split at h1
      · rename_i ti hti
        have e := Nat.eq_of_beq_eq_true h1
        have hsz : (sizeOf f.type).run P w = .ok n w := by simp [Go.sizeOf, typeInfo, hti, e]
        simp only [List.mapM_cons, Sem.run_bind, hsz, Result.andThen_ok, Sem.run_pure, ih h2, List.map_cons, List.zip_cons_cons]
      · cases h1
theorem fillv_fill {place : Nat → Option (Nat × Nat)} {i : TInfo} (hp : ∀ j o n, placeOf i j = some (o, n) → place j = some (o, n)) :
    ∀ {js : List Nat} {vs : List AV} {xs : List Value} {cs cs' : List AV} {us : Array Value}, All2 (PV w g.pr) vs xs → fillv i cs (js.zip vs) = some cs' → All2 (LR w g) cs us.toList →
      ∃ us', Instr.fill place us (js.zip xs) = some us' ∧ All2 (LR w g) cs' us'.toList := by
  intro js
  induction js with
  | nil =>
    intro vs xs cs cs' us hv hf hc
    simp only [List.zip_nil_left, fillv, Option.some.injEq] at hf; subst hf
    exact ⟨us, by simp [Instr.fill], hc⟩
  | cons j js ih =>
    intro vs xs cs cs' us hv hf hc
    cases vs with
    | nil =>
      cases xs with
      | nil =>
        simp only [List.zip_nil_right, fillv, Option.some.injEq] at hf; subst hf
        exact ⟨us, by simp [Instr.fill], hc⟩
      | cons _ _ => exact hv.elim
    | cons v vs =>
      cases xs with
      | nil => exact hv.elim
      | cons x xs =>
        simp only [List.zip_cons_cons, fillv] at hf ⊢
        cases hpl : placeOf i j with
        | none => rw [hpl] at hf; cases hf
        | some q =>
          obtain ⟨off, n⟩ := q
          rw [hpl] at hf
          simp only [] at hf
          cases hq : decide (v.cells.length = n) && decide (off + n ≤ cs.length) with
          | false => rw [hq] at hf; cases hf
          | true =>
            rw [hq] at hf
            simp only [Bool.and_eq_true, decide_eq_true_eq] at hq
            have hcl := hc.len
            simp only [Array.length_toList] at hcl
            have hvc : All2 (LR w g) v.cells x.cells.toList := hv.1.cells.imp fun _ _ => LR_of_PR
            have hxl := hvc.len
            simp only [Array.length_toList] at hxl
            rw [fill_step (hp _ _ _ hpl) (by omega) (by omega)]
            exact ih hv.2 hf (by simpa using over_All2 hc hvc)
theorem goes_build (hT : TIok P TI) (h : Rel B g s w a N) (hd : ∀ t, o.dst = some t → t < N) {t : TypeId} {ps : Array (Nat × Operand)} (ho : o.op = .build t ps)
    (he0 : (rdvs (ps.toList.map (·.2)) fun vs => pgBuild TI o.dst t ((ps.toList.map (·.1)).zip vs)).Ev C Rd s ws) : Goes P B N o s w a ws := by
  obtain ⟨vs, hv, he⟩ := rdvs_ev h he0
  clear he0
  have hlen : (ps.toList.map (·.1)).length = vs.length := by have := hv.len; simpa using this.symm
  obtain ⟨z1, z2⟩ := All2_zip hlen hv
  unfold pgBuild at he
  simp only [z1, z2] at he
  obtain ⟨vs', ws', g1, he, hp, h2, hk, hv2⟩ := snaps_ev (Promo.refl s) (by simpa [S.puts] using h) hv he
  unfold tinf at he
  cases hi : TI t with
  | none => rw [hi] at he; exact he.elim
  | some i =>
    rw [hi] at he
    obtain ⟨ti, d, z, T⟩ := hT.get hi
    simp only [] at he
    cases hs : i.kn.isRec with
    | false => rw [hs] at he; exact he.elim
    | true =>
      rw [hs] at he
      simp only [] at he
      cases hf : fillv i i.zero ((ps.toList.map (·.1)).zip vs') with
      | none => rw [hf] at he; exact he.elim
      | some cs =>
        rw [hf] at he
        simp only [] at he
        cases hpl : cs.all isPlainCell with
        | false => rw [hpl] at he; exact he.elim
        | true =>
          rw [hpl] at he
          have : ws = _ := he
          subst this
          obtain ⟨fs, hu, hfs⟩ := T.struct hs
          have hsz := T.fsz hs
          rw [hfs] at hsz
          have hpls := run_places (w := w) hsz
          obtain ⟨lsz, _⟩ := fszOK_get hsz
          have hplace : ∀ j off n, placeOf i j = some (off, n) → ((fs.toList.map fun f => f.offset).zip i.fsz).toArray[j]? = some (off, n) := by
            intro j off n hj
            unfold placeOf at hj
            rw [hfs] at hj
            split at hj
            · rename_i e1 e2
              cases hj
              rw [List.getElem?_map] at e1
              cases hfj : fs.toList[j]? with
              | none => rw [hfj] at e1; cases e1
              | some f =>
                rw [hfj] at e1; cases e1
                rw [List.getElem?_toArray, List.getElem?_zip_eq_some]
                exact ⟨by rw [List.getElem?_map, hfj]; rfl, e2⟩
            · cases hj
          have hz : All2 (LR w g1) i.zero z.cells.toList := z0s_LR T.zrel
          obtain ⟨us', f1, f2⟩ := fillv_fill hplace hv2 hf hz
          have hend := h2.wrd (d := o.dst) (v := .agg cs) (VR_of_LR (show LR w g1 (.agg cs) (.agg us') from ⟨us'.toList, by simp, LRs_plain f2 hpl⟩)) hd
          refine goes_value (g' := g1) ?_ (by rw [S.puts_append]; exact hend) (BelowB.refl _ _)
          have e1 : (ps.map fun (i, x) => (i, a.eval x)).toList = (ps.toList.map (·.1)).zip ((ps.toList.map (·.2)).map a.eval) := by
            rw [Array.toList_map]; exact zip_unzip _ _
          have hmapM : (fs.mapM (m := Sem) fun f => do pure (f.offset, ← sizeOf f.type)).run P w = .ok ((fs.toList.map fun f => f.offset).zip i.fsz).toArray w := by
            rw [Array.mapM_eq_mapM_toList]
            show ((List.mapM (m := Sem) (fun f => do pure (f.offset, ← sizeOf f.type)) fs.toList) >>= fun x => pure x.toArray).run P w = _
            rw [Sem.run_bind, hpls]
            rfl
          simp only [execOp, ho, Instr.build, Sem.run_bind, zeroValue, typeInfo, run_program, T.info, T.zero, Result.andThen_ok, Sem.run_pure, run_underlying hu, hmapM]
          rw [show (ps.map fun (x : Nat × Operand) => (x.fst, a.eval x.snd)).toList = (ps.toList.map (·.1)).zip ((ps.toList.map (·.2)).map a.eval) from e1, f1]
          rfl
theorem run_same1 {pr : Nat → Nat → Prop} {T : Ty} {t : TypeId} {x y : T.den} {xs ys : List Value} (hf : flat1 P T t = true) (hx : TR w pr T x xs) (hy : TR w pr T y ys) :
    ∃ u v, xs = [u] ∧ ys = [v] ∧ (isAgg t).run P w = .ok false w ∧ ∀ d, (Op.equalIn (d + 1) t u v).run P w = .ok (T.same x y) w := by
  unfold flat1 at hf
  split at hf
  · rename_i j j' hu
    have hf : j = j' := by simpa using hf
    subst hf
    refine ⟨_, _, hx, hy, by simp [isAgg, run_underlying hu], fun d => ?_⟩
    exact (run_equalIn_int w d t j j (x : Int) (y : Int) hu).trans rfl
  · rename_i hu
    refine ⟨_, _, hx, hy, by simp [isAgg, run_underlying hu], fun d => ?_⟩
    exact (run_equalIn_bool' w d t (x : Bool) (y : Bool) hu).trans rfl
  · rename_i hu
    refine ⟨_, _, hx, hy, by simp [isAgg, run_underlying hu], fun d => ?_⟩
    simp only [strV]
    have e : ∀ a b : List UInt8, ((⟨a.toArray⟩ : ByteArray) == ⟨b.toArray⟩) = decide (a = b) := by
      intro a b
      rw [beq_toListBytes, ByteArray.toList_eq, ByteArray.toList_eq]
      show (a == b) = _
      by_cases h : a = b <;> simp [h]
    have e2 := e x y
    have : (Op.equalIn (d + 1) t (.string ⟨List.toArray (α := UInt8) x⟩) (.string ⟨List.toArray (α := UInt8) y⟩)).run P w = .ok ((⟨List.toArray (α := UInt8) x⟩ : ByteArray) == ⟨List.toArray (α := UInt8) y⟩) w := by
      simp only [Op.equalIn, Sem.run_bind, run_underlying hu, Result.andThen_ok, Sem.run_pure]
    rw [e2] at this
    exact this.trans rfl
  · cases hf
theorem run_eqT {pr : Nat → Nat → Prop} : ∀ (T : Ty), (∀ (t : TypeId) (x y : T.den) (xs ys p q r r' : List Value) (k d : Nat), eqT P T (some t) 0 [] = true → TR w pr T x xs → TR w pr T y ys → p.length = k → q.length = k → T.nest ≤ d →
      ∃ u v, (part t (p ++ (xs ++ r)).toArray k).run P w = .ok u w ∧ (part t (q ++ (ys ++ r')).toArray k).run P w = .ok v w ∧ (Op.equalIn (d + 1) t u v).run P w = .ok (T.same x y) w) ∧
    (∀ (fs : List Field) (k d : Nat) (x y : T.den) (p q xs ys : List Value), eqT P T none k fs = true → TR w pr T x xs → TR w pr T y ys → p.length = k → q.length = k → T.nest ≤ d →
      (Op.eqFields (d + 1) (p ++ xs).toArray (q ++ ys).toArray fs).run P w = .ok (T.same x y) w) := by
  have leaf : ∀ {T : Ty} {t : TypeId} {x y : T.den} {xs ys p q r r' : List Value} {k d : Nat}, flat1 P T t = true → TR w pr T x xs → TR w pr T y ys → p.length = k → q.length = k →
      ∃ u v, (part t (p ++ (xs ++ r)).toArray k).run P w = .ok u w ∧ (part t (q ++ (ys ++ r')).toArray k).run P w = .ok v w ∧ (Op.equalIn (d + 1) t u v).run P w = .ok (T.same x y) w := by
    intro T t x y xs ys p q r r' k d hf hx hy hp hq
    obtain ⟨u, v, rfl, rfl, ha, heq⟩ := run_same1 hf hx hy
    have g1 : (p ++ ([u] ++ r)).toArray[k]? = some u := by
      rw [List.getElem?_toArray, List.getElem?_append_right (by omega), hp]; simp
    have g2 : (q ++ ([v] ++ r')).toArray[k]? = some v := by
      rw [List.getElem?_toArray, List.getElem?_append_right (by omega), hq]; simp
    refine ⟨u, v, ?_, ?_, heq d⟩
    · simp only [part, Sem.run_bind, ha, Result.andThen_ok, Bool.false_eq_true, if_false, g1, Sem.run_pure, Sem.run_ite]
    · simp only [part, Sem.run_bind, ha, Result.andThen_ok, Bool.false_eq_true, if_false, g2, Sem.run_pure, Sem.run_ite]
  intro T
  induction T with
  | int j => exact ⟨fun t x y xs ys p q r r' k d h hx hy hp hq hd => leaf h hx hy hp hq, fun fs k d x y p q xs ys h => by simp [eqT] at h⟩
  | bool => exact ⟨fun t x y xs ys p q r r' k d h hx hy hp hq hd => leaf h hx hy hp hq, fun fs k d x y p q xs ys h => by simp [eqT] at h⟩
  | str => exact ⟨fun t x y xs ys p q r r' k d h hx hy hp hq hd => leaf h hx hy hp hq, fun fs k d x y p q xs ys h => by simp [eqT] at h⟩
  | st T ih =>
    refine ⟨fun t x y xs ys p q r r' k d h hx hy hp hq hd => ?_, fun fs k d x y p q xs ys h => by simp [eqT] at h⟩
    simp only [eqT, Bool.and_eq_true, Bool.not_eq_true'] at h
    obtain ⟨⟨h1, h2⟩, h3⟩ := h
    have hx' : TR w pr T x xs := hx
    have hy' : TR w pr T y ys := hy
    have lx := hx'.len
    have ly := hy'.len
    split at h1
    · rename_i fs hu
      split at h3
      · rename_i ti hti
        have hsz := Nat.eq_of_beq_eq_true h3
        have hfo : P.fieldsOf t = fs := by simp [Program.fieldsOf, hu]
        have ha : (isAgg t).run P w = .ok true w := by simp [isAgg, run_underlying hu]
        have hs : (sizeOf t).run P w = .ok T.size w := by simp [sizeOf, typeInfo, Sem.run_bind, hti, hsz]
        obtain ⟨d', rfl⟩ : ∃ d', d = d' + 1 := ⟨d - 1, by simp only [Ty.nest] at hd; omega⟩
        have ex : ∀ (p xs r : List Value), p.length = k → xs.length = T.size → (p ++ (xs ++ r)).toArray.extract k (k + T.size) = xs.toArray := by
          intro p xs r hp hl
          rw [List.extract_toArray, List.extract_eq_take_drop]
          congr 1
          rw [← hp, List.drop_append_of_le_length (Nat.le_refl _), List.drop_length, List.nil_append]
          rw [show p.length + T.size - p.length = xs.length by omega, List.take_append_of_le_length (Nat.le_refl _), List.take_length]
        refine ⟨.agg xs.toArray, .agg ys.toArray, ?_, ?_, ?_⟩
        · simp only [part, Sem.run_bind, ha, Result.andThen_ok, if_true, hs, Sem.run_pure, ex p xs r hp lx]
        · simp only [part, Sem.run_bind, ha, Result.andThen_ok, if_true, hs, Sem.run_pure, ex q ys r' hq ly]
        · rw [run_equalIn_struct w (d' + 1) t _ _ (by rw [hfo]; exact hu) h2, hfo]
          exact ih.2 fs.toList 0 d' x y [] [] xs ys h1 hx' hy' rfl rfl (by simp only [Ty.nest] at hd; omega)
      · cases h3
    · cases h1
  | nil =>
    refine ⟨fun t x y xs ys p q r r' k d h => by simp [eqT] at h, fun fs k d x y p q xs ys h hx hy hp hq hd => ?_⟩
    cases fs with
    | nil => rfl
    | cons _ _ => simp [eqT] at h
  | cons T b ihT ihb =>
    refine ⟨fun t x y xs ys p q r r' k d h => by simp [eqT] at h, fun fs k d x y p q xs ys h hx hy hp hq hd => ?_⟩
    cases fs with
    | nil => simp [eqT] at h
    | cons f fs =>
      simp only [eqT, Bool.and_eq_true] at h
      obtain ⟨⟨⟨h1, h2⟩, h3⟩, h4⟩ := h
      obtain ⟨c1, c2, rfl, x1, x2⟩ := hx
      obtain ⟨d1, d2, rfl, y1, y2⟩ := hy
      have hoff := Nat.eq_of_beq_eq_true h2
      have hne : f.name ≠ "_" := by simpa using h1
      simp only [Ty.nest] at hd
      obtain ⟨u, v, pu, pv, heq⟩ := ihT.1 f.type x.1 y.1 c1 d1 p q c2 d2 k d h3 x1 y1 hp hq (by omega)
      rw [← hoff] at pu pv
      have lx := x1.len
      have ly := y1.len
      simp only [Op.eqFields, hne, ne_eq, not_false_eq_true, if_true, Sem.run_bind, pu, pv, heq, Result.andThen_ok, Sem.run_ite, Sem.run_pure]
      have hrest := ihb.2 fs (k + T.size) d x.2 y.2 (p ++ c1) (q ++ d1) c2 d2 h4 x2 y2 (by simp [hp, lx]) (by simp [hq, ly]) (by omega)
      simp only [List.append_assoc] at hrest
      show _ = Result.ok (T.same x.1 y.1 && b.same x.2 y.2) w
      cases hs : T.same x.1 y.1 with
      | false => simp
      | true => simp only [Bool.not_true, Bool.false_eq_true, if_false, Bool.true_and]; exact hrest
  | _ => exact ⟨fun t x y xs ys p q r r' k d h => by simp [eqT] at h, fun fs k d x y p q xs ys h => by simp [eqT] at h⟩
theorem goes_same (hT : TIok P TI) (h : Rel B g s w a N) (hd : ∀ t, o.dst = some t → t < N) {op : BinOp} {t yt : TypeId} {x y : Operand} (ho : o.op = .binOp op t x y yt) {cx cy : List AV}
    (hx : VR w g (.agg cx) (a.eval x)) (hy : VR w g (.agg cy) (a.eval y)) {i : TInfo} (hi : TI t = some i) (hq : i.eqok = true) {p q : i.ty.den} (hp : i.ty.ofCells cx = some p) (hqq : i.ty.ofCells cy = some q)
    {b : Bool} (hb : (op = .eql ∧ b = i.ty.same p q) ∨ (op = .neq ∧ b = !i.ty.same p q)) (he : (retv o.dst (.bool b)).Ev C Rd s ws) : Goes P B N o s w a ws := by
  obtain ⟨ti, d, z, T⟩ := hT.get hi
  obtain ⟨us, hus, px⟩ := hx
  obtain ⟨vs, hvs, py⟩ := hy
  have tx := ofCells_TR hp px
  have ty := ofCells_TR hqq py
  have he1 := T.eq hq
  clear T hi hq hp hqq
  unfold eqOK at he1
  generalize i.ty = ity at *
  split at he1
  · rename_i T fs hu
    simp only [Bool.and_eq_true, Bool.not_eq_true'] at he1
    obtain ⟨⟨⟨e1, e0⟩, e2⟩, e3⟩ := he1
    have hfo : P.fieldsOf t = fs := by simp [Program.fieldsOf, hu]
    have hrun : (Op.equalIn 10000 t (.agg us.toArray) (.agg vs.toArray)).run P w = .ok ((Ty.st T).same p q) w := by
      rw [run_equalIn_struct w 9999 t _ _ (by rw [hfo]; exact hu) e2, hfo]
      exact (run_eqT T).2 fs.toList 0 9998 p q [] [] us vs e1 tx ty rfl rfl (by have := Nat.le_of_ble_eq_true e0; omega)
    rcases hb with ⟨rfl, rfl⟩ | ⟨rfl, rfl⟩
    · refine goes_bool h hd ?_ he
      simp only [execOp, ho, hus, hvs, Sem.run_bind, run_eqGuard_agg w _ t x y _ _ e3, Result.andThen_ok, run_eql_struct, hrun, Sem.run_pure]
    · refine goes_bool h hd ?_ he
      simp only [execOp, ho, hus, hvs, Sem.run_bind, run_eqGuard_agg w _ t x y _ _ e3, Result.andThen_ok, run_neq_struct, hrun, Sem.run_pure]
  · cases he1
theorem goes_eqNil (h : Rel B g s w a N) (hd : ∀ t, o.dst = some t → t < N) {op : BinOp} {t yt e : TypeId} {x y : Operand} (ho : o.op = .binOp op t x y yt) (ht : P.underlying t = some (.slice e)) {ad : Option Addr} {n c : Nat}
    (hx : a.eval x = .slice ad n c) (hy : a.eval y = .slice none 0 0) (he : (eqNil o.dst op ad.isNone).Ev C Rd s ws) : Goes P B N o s w a ws := by
  have hg : ∀ (op : BinOp), (eqGuard op t x y (.slice ad n c) (.slice none 0 0)).run P w = .ok () w := by
    intro op; unfold eqGuard; cases op <;> rfl
  have heq : (Op.equal t (.slice ad n c) (.slice none 0 0)).run P w = .ok ad.isNone w := by
    have : ∀ d : Nat, (Op.equalIn (d + 1) t (.slice ad n c) (.slice none 0 0)).run P w = .ok ad.isNone w := by
      intro d
      cases ad <;> simp only [Op.equalIn, Sem.run_bind, run_underlying ht, Result.andThen_ok, Sem.run_pure, Option.isNone]
    exact this 9999
  unfold eqNil at he
  split at he
  · exact goes_bool h hd (by simp [execOp, ho, hx, hy, hg, binOp, heq]) he
  · exact goes_bool h hd (by simp [execOp, ho, hx, hy, hg, binOp, heq]) he
  · exact he.elim
end
end Go.Proofs.Ytjonpmckkmnemaa.Th
set_option linter.unusedVariables false
set_option linter.unusedSimpArgs false
namespace Go.Proofs.Ytjonpmckkmnemaa.Th
open Go Go.RowKit
section
variable {P : Program} {TI : TEnv} {C : FuncId → List AV → AV → Prop} {Rd : Rs → Prop} {μ : Bool} {B : Bd μ} {N : Nat} {g g' : Gh} {s : S} {w w' : World} {a : Act} {o : Oper} {ws : List Wr}
theorem run_checkAgg {t : TypeId} {fs : Array Field} {xs : List Value} {d : Nat} (hu : P.underlying t = some (.struct fs))
    (h : ∀ f ∈ fs.toList, f.name ≠ "_" ∧ ∃ u, (part f.type ([] ++ xs).toArray f.offset).run P w = .ok u w ∧ ∀ em, (Instr.checkKey em (d + 1) f.type u).run P w = .ok () w) (em : Bool) :
    (Instr.checkKey em (d + 1 + 1) t (.agg xs.toArray)).run P w = .ok () w := by
  rw [Instr.checkKey]
  simp only [Sem.run_bind, run_underlying hu, Result.andThen_ok]
  rw [← Array.forIn_toList]
  generalize fs.toList = L at h
  induction L with
  | nil => simp
  | cons f L ih =>
    obtain ⟨hn, u, p1, p2⟩ := h f (by simp)
    have p1' : (part f.type xs.toArray f.offset).run P w = .ok u w := p1
    simp only [List.forIn_cons, Sem.run_bind, hn, ne_eq, not_false_eq_true, if_true, Result.andThen_ok, p1', p2 em, Sem.run_pure]
    exact ih fun y hy => h y (by simp [hy])
theorem run_keyT {pr : Nat → Nat → Prop} : ∀ (T : Ty),
    (∀ (t : TypeId) (x : T.den) (xs p r : List Value) (k d : Nat), eqT P T (some t) 0 [] = true → TR w pr T x xs → p.length = k → T.nest ≤ d →
      ∃ u, (part t (p ++ (xs ++ r)).toArray k).run P w = .ok u w ∧ ∀ em, (Instr.checkKey em (d + 1) t u).run P w = .ok () w) ∧
    (∀ (fs : List Field) (k d : Nat) (x : T.den) (p xs : List Value), eqT P T none k fs = true → TR w pr T x xs → p.length = k → T.nest ≤ d →
      ∀ f ∈ fs, f.name ≠ "_" ∧ ∃ u, (part f.type (p ++ xs).toArray f.offset).run P w = .ok u w ∧ ∀ em, (Instr.checkKey em (d + 1) f.type u).run P w = .ok () w) := by
  have leaf : ∀ {T : Ty} {t : TypeId} {x : T.den} {xs p r : List Value} {k d : Nat}, flat1 P T t = true → TR w pr T x xs → p.length = k →
      ∃ u, (part t (p ++ (xs ++ r)).toArray k).run P w = .ok u w ∧ ∀ em, (Instr.checkKey em (d + 1) t u).run P w = .ok () w := by
    intro T t x xs p r k d hf hx hp
    obtain ⟨u, v, rfl, -, ha, -⟩ := run_same1 hf hx hx
    have g1 : (p ++ ([u] ++ r)).toArray[k]? = some u := by
      rw [List.getElem?_toArray, List.getElem?_append_right (by omega), hp]; simp
    refine ⟨u, ?_, fun em => ?_⟩
    · simp only [part, Sem.run_bind, ha, Result.andThen_ok, Bool.false_eq_true, if_false, g1, Sem.run_pure, Sem.run_ite]
    · unfold flat1 at hf
      split at hf
      · rename_i j j' hu
        have e : u = Value.int j x := (List.cons.inj hx).1
        rw [e]
        simp [Instr.checkKey, run_underlying hu]
      · rename_i hu
        have e : u = Value.bool x := (List.cons.inj hx).1
        rw [e]
        simp [Instr.checkKey, run_underlying hu]
      · rename_i hu
        have e : u = strV x := (List.cons.inj hx).1
        rw [e]
        simp [Instr.checkKey, run_underlying hu, strV]
      · cases hf
  intro T
  induction T with
  | int j => exact ⟨fun t x xs p r k d h hx hp hd => leaf h hx hp, fun fs k d x p xs h => by simp [eqT] at h⟩
  | bool => exact ⟨fun t x xs p r k d h hx hp hd => leaf h hx hp, fun fs k d x p xs h => by simp [eqT] at h⟩
  | str => exact ⟨fun t x xs p r k d h hx hp hd => leaf h hx hp, fun fs k d x p xs h => by simp [eqT] at h⟩
  | st T ih =>
    refine ⟨fun t x xs p r k d h hx hp hd => ?_, fun fs k d x p xs h => by simp [eqT] at h⟩
    simp only [eqT, Bool.and_eq_true, Bool.not_eq_true'] at h
    obtain ⟨⟨h1, h2⟩, h3⟩ := h
    have hx' : TR w pr T x xs := hx
    have lx := hx'.len
    split at h1
    · rename_i fs hu
      split at h3
      · rename_i ti hti
        have hsz := Nat.eq_of_beq_eq_true h3
        have ha : (isAgg t).run P w = .ok true w := by simp [isAgg, run_underlying hu]
        have hs : (sizeOf t).run P w = .ok T.size w := by simp [sizeOf, typeInfo, Sem.run_bind, hti, hsz]
        obtain ⟨d', rfl⟩ : ∃ d', d = d' + 1 := ⟨d - 1, by simp only [Ty.nest] at hd; omega⟩
        have ex : (p ++ (xs ++ r)).toArray.extract k (k + T.size) = xs.toArray := by
          rw [List.extract_toArray, List.extract_eq_take_drop]
          congr 1
          rw [← hp, List.drop_append_of_le_length (Nat.le_refl _), List.drop_length, List.nil_append]
          rw [show p.length + T.size - p.length = xs.length by omega, List.take_append_of_le_length (Nat.le_refl _), List.take_length]
        refine ⟨.agg xs.toArray, ?_, fun em => ?_⟩
        · simp only [part, Sem.run_bind, ha, Result.andThen_ok, if_true, hs, Sem.run_pure, ex]
        · exact run_checkAgg hu (ih.2 fs.toList 0 d' x [] xs h1 hx' rfl (by simp only [Ty.nest] at hd; omega)) em
      · cases h3
    · cases h1
  | nil =>
    refine ⟨fun t x xs p r k d h => by simp [eqT] at h, fun fs k d x p xs h hx hp hd => ?_⟩
    cases fs with
    | nil => intro f hf; cases hf
    | cons _ _ => simp [eqT] at h
  | cons T b ihT ihb =>
    refine ⟨fun t x xs p r k d h => by simp [eqT] at h, fun fs k d x p xs h hx hp hd => ?_⟩
    cases fs with
    | nil => simp [eqT] at h
    | cons f fs =>
      simp only [eqT, Bool.and_eq_true] at h
      obtain ⟨⟨⟨h1, h2⟩, h3⟩, h4⟩ := h
      obtain ⟨c1, c2, rfl, x1, x2⟩ := hx
      have hoff := Nat.eq_of_beq_eq_true h2
      have hne : f.name ≠ "_" := by simpa using h1
      simp only [Ty.nest] at hd
      have lx := x1.len
      intro f' hf'
      rcases List.mem_cons.1 hf' with rfl | hf'
      · obtain ⟨u, pu, hu⟩ := ihT.1 f'.type x.1 c1 p c2 k d h3 x1 hp (by omega)
        rw [← hoff] at pu
        exact ⟨hne, u, pu, hu⟩
      · have := ihb.2 fs (k + T.size) d x.2 (p ++ c1) c2 h4 x2 (by simp [hp, lx]) (by omega) f' hf'
        simpa only [List.append_assoc] using this
  | _ => exact ⟨fun t x xs p r k d h => by simp [eqT] at h, fun fs k d x p xs h => by simp [eqT] at h⟩
theorem mapKey_ev (hT : TIok P TI) {t : TypeId} {k : TInfo → Pg} (he : (mapKey TI t k).Ev C Rd s ws) :
    ∃ kt et ki, P.underlying t = some (.map kt et) ∧ (∃ ti d z, TypeIs P kt ki ti d z) ∧ ki.eqok = true ∧ (zeroValue et).run P w = .ok (.bool false) w ∧ (k ki).Ev C Rd s ws := by
  unfold mapKey tinf at he
  cases hi : TI t with
  | none => rw [hi] at he; exact he.elim
  | some i =>
    rw [hi] at he
    obtain ⟨_, _, _, T⟩ := hT.get hi
    simp only [] at he
    cases hk : i.kn with
    | mapb kt et =>
      rw [hk] at he
      simp only [] at he
      cases hki : TI kt with
      | none => rw [hki] at he; exact he.elim
      | some ki =>
        rw [hki] at he
        simp only [] at he
        cases hei : TI et with
        | none => rw [hei] at he; exact he.elim
        | some ei =>
          rw [hei] at he
          simp only [] at he
          obtain ⟨ti, d, z, E⟩ := hT.get hei
          cases hq : ki.eqok with
          | false => rw [hq] at he; exact he.elim
          | true =>
            cases hb : ei.kn with
            | bool =>
              rw [hq, hb] at he
              refine ⟨kt, et, ki, T.mapd hk, hT.get hki, hq, ?_, he⟩
              have hz := E.zbool
              rw [hb] at hz
              have : z = .bool false := by
                cases z with
                | bool b => cases b with
                  | false => rfl
                  | true => cases hz
                | _ => cases hz
              simp [zeroValue, typeInfo, E.info, E.zero, this]
            | _ => rw [hq, hb] at he; exact he.elim
    | _ => rw [hk] at he; exact he.elim
theorem keys_run {kt : TypeId} {ki : TInfo} {ti : TypeInfo} {d : TypeDesc} {z : Value} (T : TypeIs P kt ki ti d z) (hq : ki.eqok = true) {pr : Nat → Nat → Prop} {x : ki.ty.den} {us : List Value} (hx : TR w pr ki.ty x us) :
    (∀ em, (Instr.checkKey em 10000 kt (.agg us.toArray)).run P w = .ok () w) ∧ (∃ fs, P.underlying kt = some (.struct fs)) ∧
    ∀ (y : ki.ty.den) (vs : List Value), TR w pr ki.ty y vs → (Op.equal kt (.agg us.toArray) (.agg vs.toArray)).run P w = .ok (ki.ty.same x y) w := by
  have he1 := T.eq hq
  clear T hq
  unfold eqOK at he1
  generalize ki.ty = ity at *
  split at he1
  · rename_i T fs hu
    simp only [Bool.and_eq_true, Bool.not_eq_true'] at he1
    obtain ⟨⟨⟨e1, e0⟩, e2⟩, e3⟩ := he1
    have hfo : P.fieldsOf kt = fs := by simp [Program.fieldsOf, hu]
    have hn := Nat.le_of_ble_eq_true e0
    refine ⟨fun em => run_checkAgg (d := 9998) hu ((run_keyT (pr := pr) T).2 fs.toList 0 9998 x [] us e1 hx rfl (by omega)) em, ⟨fs, hu⟩, fun y vs hy => ?_⟩
    have hrun : (Op.equalIn 10000 kt (.agg us.toArray) (.agg vs.toArray)).run P w = .ok ((Ty.st T).same x y) w := by
      rw [run_equalIn_struct w 9999 kt _ _ (by rw [hfo]; exact hu) e2, hfo]
      exact (run_eqT T).2 fs.toList 0 9998 x y [] [] us vs e1 hx hy rfl rfl (by omega)
    exact hrun
  · cases he1
theorem run_findMap {kt : TypeId} {ki : TInfo} {ti : TypeInfo} {d : TypeDesc} {z : Value} (T : TypeIs P kt ki ti d z) (hq : ki.eqok = true) {pr : Nat → Nat → Prop} {x : ki.ty.den} {us : List Value} (hx : TR w pr ki.ty x us) :
    ∀ {l : List ki.ty.den} {es : List MapEntry} (i : Nat), MapRow w pr ki.ty l es → ∃ r, (Instr.findAsking kt (.agg us.toArray) es i).run P w = .ok r w ∧
      ((l.any (fun y => ki.ty.same x y) = true ∧ ∃ n, r = some (n, .bool true)) ∨ (l.any (fun y => ki.ty.same x y) = false ∧ r = none)) := by
  intro l
  induction l with
  | nil =>
    intro es i h
    cases es with
    | nil => exact ⟨none, by simp [Instr.findAsking], .inr ⟨rfl, rfl⟩⟩
    | cons _ _ => exact h.elim
  | cons y l ih =>
    intro es i h
    cases es with
    | nil => exact h.elim
    | cons e es =>
      obtain ⟨⟨h1, vs, h2, h3⟩, h4⟩ := h
      have hrun := (keys_run T hq hx).2.2 y vs h3
      obtain ⟨r, r1, r2⟩ := ih (i + 1) h4
      cases hs : ki.ty.same x y with
      | true =>
        refine ⟨some (i, .bool true), ?_, .inl ⟨by simp [hs], i, rfl⟩⟩
        simp only [Instr.findAsking, Sem.run_bind, h2, hrun, hs, Result.andThen_ok, if_true, Sem.run_pure, h1]
      | false =>
        refine ⟨r, ?_, ?_⟩
        · simp only [Instr.findAsking, Sem.run_bind, h2, hrun, hs, Result.andThen_ok, Bool.false_eq_true, if_false, r1]
        · rcases r2 with ⟨q1, q2⟩ | ⟨q1, q2⟩
          · exact .inl ⟨by simp [hs, q1], q2⟩
          · exact .inr ⟨by simp [hs, q1], q2⟩
theorem run_getMap {r c : Nat} {es : Array MapEntry} (h : w.heap[r]? = some (.map es c)) : (getObj r).run P w = .ok (.map es c) w := by
  simp [getObj, Sem.run, h]
theorem run_setMap {r c : Nat} {es : Array MapEntry} (o : Obj) (h : w.heap[r]? = some (.map es c)) : (setObj r o).run P w = .ok () { w with heap := w.heap.setIfInBounds r o } := by
  simp [setObj, Sem.run, h]
theorem heap_set1 {r : Nat} {o o' : Obj} (hb : w.heap[r]? = some o) : (w.heap.setIfInBounds r o')[r]? = some o' ∧ ∀ r', r' ≠ r → (w.heap.setIfInBounds r o')[r']? = w.heap[r']? := by
  have hlt : r < w.heap.size := (Array.getElem?_eq_some_iff.1 hb).1
  exact ⟨by simp [hlt], fun r' hne => by simp [Ne.symm hne]⟩
theorem goes_makeMap (hT : TIok P TI) (h : Rel B g s w a N) (hd : ∀ t, o.dst = some t → t < N) {t : TypeId} (ho : o.op = .makeMap t none)
    (he : (pgMakeMap TI o.dst t).Ev C Rd s ws) : Goes P B N o s w a ws := by
  unfold pgMakeMap at he
  cases hdst : o.dst with
  | none => rw [hdst] at he; exact he.elim
  | some tt =>
    rw [hdst] at he
    obtain ⟨kt, et, ki, hu, _, _, _, he⟩ := mapKey_ev (w := w) hT he
    obtain ⟨_, he⟩ := he
    cases htk : s.toks tt with
    | dead => rw [htk] at he; exact he.elim
    | live _ _ _ => rw [htk] at he; exact he.elim
    | mlive _ _ => rw [htk] at he; exact he.elim
    | abs =>
      rw [htk] at he
      have : ws = _ := he
      subst this
      obtain ⟨h1, k1⟩ := h.alloc (.map #[] 0)
      have hf : Fresh g s w.heap.size := h.fresh (Nat.le_refl _)
      obtain ⟨h2, _⟩ := h1.newMap (K := ki.ty) (l := []) (tg := ⟨.map (some w.heap.size), some w.heap.size, 1⟩) htk (fun k hk => by cases hk; exact hf)
        ⟨w.heap.size, rfl, rfl, .inl h.hB, ⟨#[], 0, alloc_new w _, trivial⟩, fun o p => by have := h.prlt _ o p; omega⟩
      have h3 := h2.tmp (t := tt) (v := .mp tt) (u := .map (some w.heap.size)) ⟨_, w.heap.size, upd_same _ _ _, rfl, rfl⟩ (hd tt hdst)
      refine goes_value (w' := w.alloc (.map #[] 0)) (u := .map (some w.heap.size)) ?_ (by rw [hdst]; exact h3) (below_alloc h _)
      simp [execOp, ho, Instr.makeMap, run_newObj_alloc]
theorem goes_lookup (hT : TIok P TI) (h : Rel B g s w a N) (hd : ∀ t, o.dst = some t → t < N) {t : TypeId} {x y : Operand} (ho : o.op = .lookup t x y false)
    (he0 : (rdv x fun x => rdv y fun i => pgLookup TI o.dst t x i).Ev C Rd s ws) : Goes P B N o s w a ws := by
  obtain ⟨p, hp, he1⟩ := rdv_ev h he0
  obtain ⟨q, hq, he⟩ := rdv_ev h he1
  clear he0 he1
  unfold pgLookup at he
  obtain ⟨kt, et, ki, hu, ⟨ti, d, z, T⟩, heq, hz, he⟩ := mapKey_ev (w := w) hT he
  cases p with
  | mp gg =>
    cases q with
    | agg cs =>
      simp only [] at he
      cases hk : ki.ty.ofCells cs with
      | none => rw [hk] at he; exact he.elim
      | some k =>
        rw [hk] at he
        obtain ⟨_, he⟩ := he
        cases htk : s.toks gg with
        | dead => rw [htk] at he; exact he.elim
        | live _ _ _ => rw [htk] at he; exact he.elim
        | abs => rw [htk] at he; exact he.elim
        | mlive K l =>
          rw [htk] at he
          simp only [] at he
          cases hdc : K.dec ki.ty with
          | none => rw [hdc] at he; exact he.elim
          | some hh =>
            rw [hdc] at he
            obtain ⟨tg, hτ, ok⟩ := h.mp gg K l htk
            obtain ⟨kb, e1, e2, e3, ⟨es, c, e4, e5⟩, e6⟩ := ok.it
            have hK := hh.down
            subst hK
            simp only [] at he
            obtain ⟨tg', k', hτ', hv, hv2⟩ := hp
            rw [hτ] at hτ'; cases hτ'
            rw [e1] at hv2; cases hv2
            obtain ⟨us, hus, hcs⟩ := hq
            have hx := ofCells_TR hk hcs
            obtain ⟨hck, ⟨fs, hst⟩, _⟩ := keys_run T heq hx
            obtain ⟨r, r1, r2⟩ := run_findMap T heq hx 0 e5
            have hfk : (Instr.findKey kt (.agg us.toArray) es.toList).run P w = .ok r w := by
              rw [run_findKey_eq w (by rw [hst])]; exact r1
            refine goes_bool h hd ?_ he
            have hxv : a.eval x = .map (some kb) := hv.trans e1
            rcases r2 with ⟨q1, n, rfl⟩ | ⟨q1, rfl⟩
            · simp only [execOp, ho, hxv, hus, Instr.lookup, Sem.run_bind, run_underlying hu, Result.andThen_ok, run_getMap e4, hck, hfk, Sem.run_pure, Bool.false_eq_true, if_false]
              rw [q1]
            · simp only [execOp, ho, hxv, hus, Instr.lookup, Sem.run_bind, run_underlying hu, Result.andThen_ok, run_getMap e4, hck, hfk, Sem.run_pure, Bool.false_eq_true, if_false, hz]
              rw [q1]
    | _ => exact he.elim
  | _ => exact he.elim
theorem MapRow.snoc {pr : Nat → Nat → Prop} {K : Ty} {l : List K.den} {es : List MapEntry} (h : MapRow w pr K l es) {x : K.den} {us : List Value} (hx : TR w pr K x us) (c : Nat) : MapRow w pr K (l ++ [x]) (es ++ [⟨.agg us.toArray, .bool true, c⟩]) :=
  All2.append h ⟨⟨rfl, us, rfl, hx⟩, trivial⟩
theorem goes_mapUpdate (hT : TIok P TI) (h : Rel B g s w a N) (hd : o.dst = none) {t : TypeId} {m x v : Operand} (ho : o.op = .mapUpdate t m x v)
    (he0 : (rdv m fun m => rdv x fun x => rdv v fun v => pgMapUpdate TI t m x v).Ev C Rd s ws) : Goes P B N o s w a ws := by
  obtain ⟨p, hp, he1⟩ := rdv_ev h he0
  obtain ⟨q, hq, he2⟩ := rdv_ev h he1
  obtain ⟨b, hb, he⟩ := rdv_ev h he2
  clear he0 he1 he2
  unfold pgMapUpdate at he
  obtain ⟨kt, et, ki, hu, ⟨ti, d, z, T⟩, heq, hz, he⟩ := mapKey_ev (w := w) hT he
  cases p with
  | mp gg =>
    cases q with
    | agg cs =>
      cases b with
      | bool bv =>
        cases bv with
        | false => exact he.elim
        | true =>
          simp only [] at he
          cases hk : ki.ty.ofCells cs with
          | none => rw [hk] at he; exact he.elim
          | some k =>
            rw [hk] at he
            obtain ⟨_, he⟩ := he
            cases htk : s.toks gg with
            | dead => rw [htk] at he; exact he.elim
            | live _ _ _ => rw [htk] at he; exact he.elim
            | abs => rw [htk] at he; exact he.elim
            | mlive K l =>
              rw [htk] at he
              simp only [] at he
              cases hdc : K.dec ki.ty with
              | none => rw [hdc] at he; exact he.elim
              | some hh =>
                rw [hdc] at he
                obtain ⟨tg, hτ, ok⟩ := h.mp gg K l htk
                obtain ⟨kb, e1, e2, e3, ⟨es, c, e4, e5⟩, e6⟩ := ok.it
                have hK := hh.down
                subst hK
                simp only [] at he
                obtain ⟨hno, he⟩ := he
                have hno : l.any (fun y => ki.ty.same k y) = false := by simpa using hno
                have : ws = _ := he
                subst this
                obtain ⟨tg', k', hτ', hv, hv2⟩ := hp
                rw [hτ] at hτ'; cases hτ'
                rw [e1] at hv2; cases hv2
                obtain ⟨us, hus, hcs⟩ := hq
                have hx := ofCells_TR hk hcs
                obtain ⟨hck, ⟨fs, hst⟩, _⟩ := keys_run T heq hx
                obtain ⟨r, r1, r2⟩ := run_findMap T heq hx 0 e5
                have hr : r = none := by
                  rcases r2 with ⟨q1, _⟩ | ⟨_, q2⟩
                  · rw [hno] at q1; cases q1
                  · exact q2
                subst hr
                have hfk : (Instr.findKey kt (.agg us.toArray) es.toList).run P w = .ok none w := by
                  rw [run_findKey_eq w (by rw [hst])]; exact r1
                have hxv : a.eval m = .map (some kb) := hv.trans e1
                have hvv : a.eval v = .bool true := VR_bool hb
                have hset := run_setMap (P := P) (.map (es.push { key := .agg us.toArray, val := .bool true, born := c }) (c + 1)) e4
                obtain ⟨s1, s2⟩ := heap_set1 (o' := Obj.map (es.push { key := .agg us.toArray, val := .bool true, born := c }) (c + 1)) e4
                obtain ⟨h2, _⟩ := h.setMap (w' := { w with heap := w.heap.setIfInBounds kb (.map (es.push { key := .agg us.toArray, val := .bool true, born := c }) (c + 1)) }) (l' := l ++ [k]) htk hτ e2
                  ⟨by simp, fun i hi => s2 i hi⟩ s1 (by simpa using e5.snoc hx c)
                refine goes_skip (g' := g) (w' := { w with heap := w.heap.setIfInBounds kb (.map (es.push { key := .agg us.toArray, val := .bool true, born := c }) (c + 1)) }) ?_ (by rw [hd]; exact h2) ⟨rfl, rfl, rfl, by simp, fun i hi => s2 i fun e => hi (e ▸ e3), fun _ => Nat.le_refl _⟩
                simp only [execOp, ho, hxv, hus, hvv, Instr.mapUpdate, Sem.run_bind, run_underlying hu, Result.andThen_ok, run_getMap e4, hck, hfk, Sem.run_pure, hset]
      | _ => exact he.elim
    | _ => exact he.elim
  | _ => exact he.elim
theorem goes_eqPtr (h : Rel B g s w a N) (hd : ∀ t, o.dst = some t → t < N) {op : BinOp} {t yt e : TypeId} {x y : Operand} (ho : o.op = .binOp op t x y yt) (ht : P.underlying t = some (.pointer e)) {p q : Option Addr} {b : Bool}
    (hx : a.eval x = .pointer p) (hy : a.eval y = .pointer q) (hb : (Op.equal t (.pointer p) (.pointer q)).run P w = .ok b w) (he : (eqNil o.dst op b).Ev C Rd s ws) : Goes P B N o s w a ws := by
  have hg : ∀ (op : BinOp), (eqGuard op t x y (.pointer p) (.pointer q)).run P w = .ok () w := by
    intro op; unfold eqGuard; cases op <;> rfl
  unfold eqNil at he
  split at he
  · exact goes_bool h hd (by simp [execOp, ho, hx, hy, hg, binOp, hb]) he
  · exact goes_bool h hd (by simp [execOp, ho, hx, hy, hg, binOp, hb]) he
  · exact he.elim
theorem run_eqPtr_nil {t e : TypeId} (ht : P.underlying t = some (.pointer e)) (p : Option Addr) : (Op.equal t (.pointer p) (.pointer none)).run P w = .ok p.isNone w ∧ (Op.equal t (.pointer none) (.pointer p)).run P w = .ok p.isNone w := by
  have : ∀ d : Nat, (Op.equalIn (d + 1) t (.pointer p) (.pointer none)).run P w = .ok p.isNone w ∧ (Op.equalIn (d + 1) t (.pointer none) (.pointer p)).run P w = .ok p.isNone w := by
    intro d
    cases p <;> simp only [Op.equalIn, Sem.run_bind, run_underlying ht, Result.andThen_ok, Sem.run_pure, Option.isNone, and_self]
  exact this 9999
theorem run_eqPtr_same {t e : TypeId} {ei : TInfo} {ti : TypeInfo} {d : TypeDesc} {z : Value} (ht : P.underlying t = some (.pointer e)) (E : TypeIs P e ei ti d z) (h0 : 0 < ei.size) (k i j : Nat) :
    (Op.equal t (.pointer (some ⟨k, i, none⟩)) (.pointer (some ⟨k, j, none⟩))).run P w = .ok (decide (i = j)) w := by
  have : ∀ d : Nat, (Op.equalIn (d + 1) t (.pointer (some ⟨k, i, none⟩)) (.pointer (some ⟨k, j, none⟩))).run P w = .ok (decide (i = j)) w := by
    intro d
    have hne : ei.size ≠ 0 := by omega
    simp only [Op.equalIn, Sem.run_bind, run_underlying ht, Result.andThen_ok, E.sizeOf, ne_eq, hne, not_false_eq_true, if_true, sameAddr, beq_self_eq_true, Sem.run_pure]
    congr 1
    by_cases hij : i = j
    · subst hij; simp
    · simp [hij]
  exact this 9999
end
end Go.Proofs.Ytjonpmckkmnemaa.Th
set_option linter.unusedVariables false
set_option linter.unusedSimpArgs false
namespace Go.Proofs.Ytjonpmckkmnemaa.Th
open Go Go.RowKit
section
variable {P : Program} {TI : TEnv} {C : FuncId → List AV → AV → Prop} {Rd : Rs → Prop} {μ : Bool} {B : Bd μ} {N : Nat} {g g' : Gh} {s : S} {w w' : World} {a : Act} {o : Oper} {ws : List Wr}
theorem mapped {x : Operand} {v : AV} (h : VR w g v (a.eval x)) : (some v = none ∧ (some x).map a.eval = none) ∨ ∃ y z, some v = some y ∧ (some x).map a.eval = some z ∧ VR w g y z := .inr ⟨v, _, rfl, rfl, h⟩
theorem unmapped : ((none : Option AV) = none ∧ (none : Option Operand).map a.eval = none) ∨ ∃ y z, (none : Option AV) = some y ∧ (none : Option Operand).map a.eval = some z ∧ VR w g y z := .inl ⟨rfl, rfl⟩
theorem ofPlain_TR {pr : Nat → Nat → Prop} {T : Ty} {v : AV} {u : Value} {x : T.den} (h : ofPlain T v = some x) (hv : PV w pr v u) : ∃ us, InIf T.isSt u us ∧ TR w pr T x us := by
  unfold ofPlain at h
  cases hs : T.isSt with
  | true =>
    rw [hs] at h
    simp only [] at h
    split at h
    · rename_i cs
      rcases hv with hv | ⟨cs', us, e1, e2, e3⟩
      · exact hv.elim
      · cases e1
        exact ⟨us, e2, ofCells_TR h e3⟩
    · cases h
  | false =>
    rw [hs] at h
    simp only [] at h
    cases hp : isPlainCell v with
    | false => rw [hp] at h; cases h
    | true =>
      rw [hp] at h
      rcases hv with hv | ⟨cs', us, e1, _, _⟩
      · exact ⟨[u], rfl, ofCells_TR h ⟨hv, trivial⟩⟩
      · rw [e1] at hp; exact Bool.noConfusion (show false = true from hp)
theorem goes_iface (hT : TIok P TI) (h : Rel B g s w a N) (hd : ∀ t, o.dst = some t → t < N) {t : TypeId} {x : Operand} (ho : o.op = .makeInterface t x)
    (he0 : (rdv x fun v => pgIface TI o.dst t v).Ev C Rd s ws) : Goes P B N o s w a ws := by
  obtain ⟨p, hp, he⟩ := rdv_ev h he0
  clear he0
  unfold pgIface at he
  obtain ⟨v', ws', g1, he, hpm, h2, hk, hpv⟩ := snap1_ev (Promo.refl s) (by simpa [S.puts] using h) hp he
  unfold tinf at he
  cases hi : TI t with
  | none => rw [hi] at he; exact he.elim
  | some i =>
    rw [hi] at he
    obtain ⟨ti, d, z, T⟩ := hT.get hi
    simp only [] at he
    have key : i.kn ≠ .other → (∀ e, i.kn ≠ .ptr e) → (match ofPlain i.ty v' with
        | some x => Pg.ret (ws' ++ wrd o.dst (.ifv t i.ty x))
        | none => .fail).Ev C Rd s ws → Goes P B N o s w a ws := by
      intro k1 k2 he
      cases hof : ofPlain i.ty v' with
      | none => rw [hof] at he; exact he.elim
      | some y =>
        rw [hof] at he
        have : ws = ws' ++ wrd o.dst (.ifv t i.ty y) := he
        subst this
        obtain ⟨us, q1, q2⟩ := ofPlain_TR hof hpv
        have hv2 : VR w g1 (.ifv t i.ty y) (.iface t (a.eval x)) := VR_of_LR (LR_of_PR (show PR w g1.pr (.ifv t i.ty y) _ from ⟨_, us, rfl, q1, q2⟩))
        refine goes_value (g' := g1) (u := .iface t (a.eval x)) ?_ (by rw [S.puts_append]; exact h2.wrd hv2 hd) (BelowB.refl _ _)
        have hni : (Instr.makeInterface t (a.eval x)).run P w = .ok (.iface t (a.eval x)) w := by
          simp only [Instr.makeInterface, Sem.run_bind, run_underlying T.und w, Result.andThen_ok]
          have hu := T.undok
          unfold undOK at hu
          cases d <;> first | rfl | (exfalso; cases hk : i.kn <;> rw [hk] at hu k1 <;> first | exact k1 rfl | cases hu)
        simp only [execOp, ho, Sem.run_bind, hni, Result.andThen_ok, Sem.run_pure]
    cases hk : i.kn with
    | other => rw [hk] at he; exact he.elim
    | ptr e => rw [hk] at he; exact he.elim
    | _ => rw [hk] at he; exact key (by rw [hk]; simp) (by rw [hk]; simp) he
theorem goes_nilCheck (h : Rel B g s w a N) (hd : ∀ t, o.dst = some t → t < N) {x : Operand} (ho : o.op = .nilCheck x)
    (he0 : (rdv x fun v => match v with
      | .ptr _ _ | .pim _ _ | .pel _ _ _ | .gar _ _ _ | .imm _ _ | .parr _ _ _ _ _ => retv o.dst v
      | _ => .fail).Ev C Rd s ws) : Goes P B N o s w a ws := by
  obtain ⟨p, hp, he⟩ := rdv_ev h he0
  clear he0
  have key : ∀ ad : Addr, a.eval x = .pointer (some ad) → (retv o.dst p).Ev C Rd s ws → Goes P B N o s w a ws := fun ad hx he =>
    goes_pure h hd hp (by simp [execOp, ho, hx]) he
  cases p with
  | ptr b off => obtain ⟨k, _, hx⟩ := id hp; exact key _ hx he
  | pim cs off => obtain ⟨ad, us, hx, _⟩ := id hp; exact key _ hx he
  | pel t i off => obtain ⟨tg, k, _, _, hx⟩ := id hp; exact key _ hx he
  | gar e T l => obtain ⟨ad, hx, _⟩ := id hp; exact key _ hx he
  | imm T0 x0 =>
    obtain ⟨ad, us, hx, _⟩ := (show TR w g.pr (.ref T0) x0 [_] from hp)
    exact key ad (by simpa using hx) he
  | parr b off n e i => obtain ⟨_, k, _, hx⟩ := id hp; exact key _ hx he
  | _ => exact he.elim
theorem goes_gar (hT : TIok P TI) (h : Rel B g s w a N) (hd : ∀ t, o.dst = some t → t < N) {t : TypeId} {x y : Operand} (ho : o.op = .indexAddr t x y)
    (he0 : (rdv x fun x => rdv y fun i => pgGar TI o.dst t x i).Ev C Rd s ws) : Goes P B N o s w a ws := by
  obtain ⟨p, hp, he1⟩ := rdv_ev h he0
  obtain ⟨q, hq, he⟩ := rdv_ev h he1
  clear he0 he1
  unfold pgGar at he
  split at he
  · rename_i e T' l k n
    have hn := VR_int hq
    unfold tinf at he
    cases hei : TI e with
    | none => rw [hei] at he; exact he.elim
    | some ei =>
      rw [hei] at he
      simp only [] at he
      obtain ⟨_, _, _, E⟩ := hT.get hei
      cases hd2 : T'.dec ei.ty with
      | none => rw [hd2] at he; exact he.elim
      | some hh =>
        rw [hd2] at he
        simp only [] at he
        split at he
        · rename_i hany
          obtain ⟨⟨t', m⟩, hmem, hpq⟩ := List.any_eq_true.1 hany
          simp only [Bool.and_eq_true] at hpq
          have e1 := Nat.eq_of_beq_eq_true hpq.1
          have e2 := Nat.eq_of_beq_eq_true hpq.2
          subst e1 e2
          have hun : P.underlying t' = some (.array l.length e) := by
            have := List.all_eq_true.1 E.arr _ hmem
            simp only at this
            split at this
            · rename_i n' e' hu
              simp only [Bool.and_eq_true] at this
              rw [hu, Nat.eq_of_beq_eq_true this.1, Nat.eq_of_beq_eq_true this.2]
            · cases this
          obtain ⟨h0, hlt, he⟩ := he
          have h0 : 0 ≤ n := by simpa using h0
          have hlt : n < l.length := by simpa using hlt
          have hnat : n.toNat < l.length := by omega
          have hsz : T'.size = ei.size := by rw [hh.down]; exact E.tysz
          obtain ⟨ad, hu, hr⟩ := (show GarR _ _ _ _ _ from hp)
          obtain ⟨vs, v1, v2, v3⟩ := hr n.toNat l[n.toNat] (by simp [hnat])
          have hget : l.getD n.toNat T'.dflt = l[n.toNat] := by simp [List.getD, hnat]
          rw [hget] at he
          refine goes_pure h hd (show VR w g (.pim (T'.cells l[n.toNat]) 0) (.pointer (some ((ad.add (n.toNat * T'.size)).add 0))) from ⟨_, vs, rfl, cells_PR v3, fun i u hu => by rw [add_add]; exact v2 i u hu⟩) ?_ he
          simp only [execOp, ho, hu, hn, Instr.indexAt, Instr.sureAddr, asIntOf, Sem.run_bind, Sem.run_pure, Result.andThen_ok, run_underlying hun, h0, hlt, and_self, if_true, E.sizeOf]
          rw [hsz]; simp [Addr.add]
        · exact he.elim
  · exact he.elim
theorem goes_pg (hT : TIok P TI) (hC : ∀ f args v, C f args v → CallOK μ P f args v) (h : Rel B g s w a N) (hd : ∀ t, o.dst = some t → t < N) (he : (pg TI o).Ev C Rd s ws) : Goes P B N o s w a ws := by
  cases ho : o.op with
  | move x => exact goes_move h hd (.inl ho) he
  | assign x => exact goes_move h hd (.inr ho) he
  | pick c x y => unfold pg at he; rw [ho] at he; exact goes_pick h hd ho he
  | alloc e =>
    unfold pg at he; rw [ho] at he
    cases hdst : o.dst with
    | none => simp only [hdst] at he; exact he.elim
    | some tt => simp only [hdst] at he; exact goes_alloc hT h hd ho hdst he
  | box e x =>
    unfold pg at he; rw [ho] at he
    cases him : imms o.pos with
    | true => simp only [him, cond_true] at he; exact goes_boxImm hT h hd ho he
    | false =>
    simp only [him, cond_false] at he
    cases hdst : o.dst with
    | none => simp only [hdst] at he; exact he.elim
    | some tt => simp only [hdst] at he; exact goes_box h hd ho hdst he
  | build t ps => unfold pg at he; rw [ho] at he; exact goes_build hT h hd ho he
  | buildSlice t n ps => unfold pg at he; rw [ho] at he; exact goes_buildSlice hT h hd ho he
  | load t x => unfold pg at he; rw [ho] at he; exact goes_load hT h hd ho he
  | store t x y =>
    unfold pg at he; rw [ho] at he
    cases hdst : o.dst with
    | some tt => simp only [hdst] at he; exact he.elim
    | none => simp only [hdst] at he; exact goes_store hT h hdst ho he
  | unOp op t x => unfold pg at he; rw [ho] at he; exact goes_un h hd ho he
  | convert x y z => unfold pg at he; rw [ho] at he; exact goes_convert hT h hd ho he
  | makeSlice t n c => unfold pg at he; rw [ho] at he; exact goes_makeSlice hT h hd ho he
  | fieldAddr t x f => unfold pg at he; rw [ho] at he; exact goes_fieldAddr hT h hd ho he
  | field t x f => unfold pg at he; rw [ho] at he; exact goes_field hT h hd ho he
  | indexAddr t x i =>
    unfold pg at he; rw [ho] at he
    cases x with
    | global n => exact goes_gar hT h hd ho he
    | _ => exact goes_indexAddr hT h hd ho he
  | makeMap t r =>
    unfold pg at he; rw [ho] at he
    cases r with
    | none => exact goes_makeMap hT h hd ho he
    | some _ => exact he.elim
  | lookup t x i ok =>
    unfold pg at he; rw [ho] at he
    cases ok with
    | false => exact goes_lookup hT h hd ho he
    | true => exact he.elim
  | mapUpdate t m x v =>
    unfold pg at he; rw [ho] at he
    cases hdst : o.dst with
    | some tt => simp only [hdst] at he; exact he.elim
    | none => simp only [hdst] at he; exact goes_mapUpdate hT h hdst ho he
  | nilCheck x => unfold pg at he; rw [ho] at he; exact goes_nilCheck h hd ho he
  | extract x i => unfold pg at he; rw [ho] at he; exact goes_extract h hd ho he
  | index t x i =>
    unfold pg at he; rw [ho] at he
    obtain ⟨p, hp, he1⟩ := rdv_ev h he
    obtain ⟨q, hq, he2⟩ := rdv_ev h he1
    unfold tinf at he2
    cases hi : TI t with
    | none => rw [hi] at he2; exact he2.elim
    | some ti =>
      rw [hi] at he2
      obtain ⟨_, d, z, T⟩ := hT.get hi
      simp only [] at he2
      split at he2
      · rename_i hk
        obtain ⟨h0, h1, he3⟩ := he2
        exact goes_index h hd ho (T.str hk) (VR_str hp) (VR_int hq) (by simpa using h0) (by simpa using h1) he3
      · exact he2.elim
  | binOp op t x y yt =>
    unfold pg at he; rw [ho] at he
    obtain ⟨p, hp, he1⟩ := rdv_ev h he
    obtain ⟨q, hq, he2⟩ := rdv_ev h he1
    cases p with
    | int j m =>
      cases q with
      | int j' n => exact goes_binInt h hd ho (VR_int hp) (VR_int hq) he2
      | _ => exact he2.elim
    | str m =>
      cases q with
      | str n => exact goes_binStr h hd ho (VR_str hp) (VR_str hq) he2
      | _ => exact he2.elim
    | bool m =>
      simp only [] at he2
      unfold tinf at he2
      cases hi : TI t with
      | none => rw [hi] at he2; exact he2.elim
      | some ti =>
        rw [hi] at he2
        obtain ⟨_, d, z, T⟩ := hT.get hi
        simp only [] at he2
        split at he2
        · rename_i hk
          have hu : P.underlying t = some .bool := by
            have h1 := T.undok
            rw [T.und]
            unfold undOK at h1
            rw [hk] at h1
            cases d <;> first | rfl | (simp at h1)
          cases q with
          | bool n => exact goes_binBool h hd ho hu (VR_bool hp) (VR_bool hq) he2
          | _ => exact he2.elim
        · exact he2.elim
    | nilsl =>
      cases q with
      | nilsl =>
        simp only [] at he2
        unfold tinf at he2
        cases hi : TI t with
        | none => rw [hi] at he2; exact he2.elim
        | some ti =>
          rw [hi] at he2
          obtain ⟨_, d, z, T⟩ := hT.get hi
          simp only [] at he2
          cases hk : ti.kn with
          | slice e => simp only [hk, isSlK] at he2; exact goes_eqNil h hd ho (T.slice hk) hp hq he2
          | _ => simp only [hk, isSlK] at he2; exact he2.elim
      | _ => exact he2.elim
    | nilptr =>
      simp only [] at he2
      unfold tinf at he2
      cases hi : TI t with
      | none => rw [hi] at he2; exact he2.elim
      | some ti =>
        rw [hi] at he2
        obtain ⟨_, d, z, T⟩ := hT.get hi
        simp only [] at he2
        cases hk : ti.kn with
        | ptr e =>
          have hx : a.eval x = .pointer none := hp
          cases q with
          | nilptr => simp only [hk] at he2; exact goes_eqPtr h hd ho (T.ptrd hk) hx (show a.eval y = .pointer none from hq) (run_eqPtr_nil (T.ptrd hk) none).1 he2
          | parr b off n e i =>
            simp only [hk] at he2
            obtain ⟨_, k, _, hy⟩ := (show LR w g (.parr b off n e i) (a.eval y) from hq)
            exact goes_eqPtr h hd ho (T.ptrd hk) hx hy (run_eqPtr_nil (T.ptrd hk) _).2 he2
          | _ => simp only [hk] at he2; exact he2.elim
        | _ => simp only [hk] at he2; exact he2.elim
    | parr b off n e i =>
      simp only [] at he2
      unfold tinf at he2
      cases hi : TI t with
      | none => rw [hi] at he2; exact he2.elim
      | some ti =>
        rw [hi] at he2
        obtain ⟨_, d, z, T⟩ := hT.get hi
        simp only [] at he2
        cases hk : ti.kn with
        | ptr et =>
          obtain ⟨_, k, hβ, hx⟩ := (show LR w g (.parr b off n e i) (a.eval x) from hp)
          cases q with
          | nilptr => simp only [hk] at he2; exact goes_eqPtr h hd ho (T.ptrd hk) hx (show a.eval y = .pointer none from hq) (run_eqPtr_nil (T.ptrd hk) _).1 he2
          | parr b' off' n' e' i' =>
            simp only [hk] at he2
            obtain ⟨_, k', hβ', hy⟩ := (show LR w g (.parr b' off' n' e' i') (a.eval y) from hq)
            cases hei : TI et with
            | none => rw [hei] at he2; exact he2.elim
            | some ei =>
              rw [hei] at he2
              simp only [] at he2
              obtain ⟨_, _, _, E⟩ := hT.get hei
              cases hb : Nat.beq b b' && decide (0 < ei.size) with
              | false => rw [hb] at he2; exact he2.elim
              | true =>
                rw [hb] at he2
                simp only [Bool.and_eq_true, decide_eq_true_eq] at hb
                have := Nat.eq_of_beq_eq_true hb.1
                subst this
                rw [hβ] at hβ'; cases hβ'
                exact goes_eqPtr h hd ho (T.ptrd hk) hx hy (run_eqPtr_same (T.ptrd hk) E hb.2 k _ _) he2
          | _ => simp only [hk] at he2; exact he2.elim
        | _ => simp only [hk] at he2; exact he2.elim
    | nsl T' l' =>
      cases q with
      | nilsl =>
        simp only [] at he2
        unfold tinf at he2
        cases hi : TI t with
        | none => rw [hi] at he2; exact he2.elim
        | some ti =>
          rw [hi] at he2
          obtain ⟨_, d, z, T⟩ := hT.get hi
          simp only [] at he2
          obtain ⟨_, ad, n, c, hx⟩ := hp
          cases hk : ti.kn with
          | slice e => simp only [hk, isSlK] at he2; exact goes_eqNil h hd ho (T.slice hk) hx hq (by exact he2)
          | _ => simp only [hk, isSlK] at he2; exact he2.elim
      | _ => exact he2.elim
    | cpx c1 c2 =>
      simp only [] at he2
      unfold tinf at he2
      cases hi : TI t with
      | none => rw [hi] at he2; exact he2.elim
      | some ti =>
        rw [hi] at he2
        obtain ⟨_, d, z, T⟩ := hT.get hi
        simp only [] at he2
        split at he2
        · rename_i hk
          cases q with
          | cpx d1 d2 => exact goes_binCpx h hd ho (T.cpx hk) (VR_cpx hp) (VR_cpx hq) he2
          | _ => exact he2.elim
        · exact he2.elim
    | flt c1 =>
      simp only [] at he2
      unfold tinf at he2
      cases hi : TI t with
      | none => rw [hi] at he2; exact he2.elim
      | some ti =>
        rw [hi] at he2
        obtain ⟨_, d, z, T⟩ := hT.get hi
        simp only [] at he2
        split at he2
        · rename_i hk
          cases q with
          | flt d1 => exact goes_binFlt h hd ho (T.flt hk) (VR_flt hp) (VR_flt hq) he2
          | _ => exact he2.elim
        · exact he2.elim
    | agg cx =>
      simp only [] at he2
      unfold tinf at he2
      cases hi : TI t with
      | none => rw [hi] at he2; exact he2.elim
      | some ti =>
        rw [hi] at he2
        simp only [] at he2
        split at he2
        · rename_i cy hq1
          split at he2
          · rename_i p q' e1 e2
            split at he2
            · exact goes_same hT h hd ho hp hq hi hq1 e1 e2 (.inl ⟨rfl, rfl⟩) he2
            · exact goes_same hT h hd ho hp hq hi hq1 e1 e2 (.inr ⟨rfl, rfl⟩) he2
            · exact he2.elim
          · exact he2.elim
        · exact he2.elim
    | _ => exact he2.elim
  | slice t x lo hi mx =>
    unfold pg at he; rw [ho] at he
    obtain ⟨p, hp, he1⟩ := rdv_ev h he
    obtain ⟨vs, hvs, he2⟩ := rdvs_ev h he1
    split at he2
    · exact goes_slice hT h hd ho hp unmapped unmapped unmapped (by simp) he2
    · cases hpos : sameName o.pos "slices.go:253" with
      | true => rw [hpos] at he2; exact goes_view hT h hd ho hp hvs.1 he2
      | false => rw [hpos] at he2; exact goes_slice hT h hd ho hp (mapped hvs.1) unmapped unmapped (by simp) he2
    · exact goes_slice hT h hd ho hp unmapped (mapped hvs.1) unmapped (by simp) he2
    · exact goes_slice hT h hd ho hp (mapped hvs.1) (mapped hvs.2.1) unmapped (by simp) he2
    · exact goes_slice hT h hd ho hp unmapped (mapped hvs.1) (mapped hvs.2.1) (by simp) he2
    · exact goes_slice hT h hd ho hp (mapped hvs.1) (mapped hvs.2.1) (mapped hvs.2.2.1) (by simp) he2
    · exact he2.elim
  | makeFunc fn first captured =>
    unfold pg at he; rw [ho] at he
    cases hfst : first.toList with
    | cons x xs =>
      simp only [hfst] at he
      cases fn with
      | func f =>
        cases xs with
        | nil =>
          simp only [] at he
          cases hc : captured.toList with
          | nil =>
            rw [hc] at he
            simp only [] at he
            have e1 : first = #[x] := by apply Array.ext'; rw [hfst]
            have e2 : captured = #[] := by apply Array.ext'; rw [hc]
            subst e1 e2
            exact goes_makeBound h hd ho he
          | cons _ _ => rw [hc] at he; exact he.elim
        | cons _ _ => exact he.elim
      | _ => exact he.elim
    | nil =>
      cases fn with
      | func f =>
        simp only [hfst] at he
        have : first = #[] := by apply Array.ext'; rw [hfst]
        subst this
        exact goes_makeFunc h hd ho he
      | _ => simp only [hfst] at he; exact he.elim
  | makeInterface t x =>
    unfold pg at he; rw [ho] at he
    exact goes_iface hT h hd ho he
  | call c =>
    unfold pg at he; rw [ho] at he
    obtain ⟨vs, hvs, he2⟩ := rdvs_ev h he
    obtain ⟨callee, args, types⟩ := c
    simp only [] at he2 hvs
    unfold pgCall at he2
    split at he2
    · rename_i x
      cases hargs : args.toList with
      | nil => rw [hargs] at hvs; exact hvs.elim
      | cons y ys =>
        rw [hargs] at hvs
        cases ys with
        | cons _ _ => exact hvs.2.elim
        | nil =>
          have ea : args = #[y] := by apply Array.ext'; simpa using hargs
          subst ea
          split at he2
          · rename_i t ht
            have et : types = #[t] := by apply Array.ext'; simpa using ht
            subst et
            exact goes_len hT h hd ho hvs.1 (by unfold pgCall; exact he2)
          · exact he2.elim
    · rename_i p q
      cases hargs : args.toList with
      | nil => rw [hargs] at hvs; exact hvs.elim
      | cons y ys =>
        rw [hargs] at hvs
        cases ys with
        | nil => exact hvs.2.elim
        | cons z zs =>
          cases zs with
          | cons _ _ => exact hvs.2.2.elim
          | nil =>
            have ea : args = #[y, z] := by apply Array.ext'; simpa using hargs
            subst ea
            split at he2
            · rename_i t xt ht
              have et : types = #[t, xt] := by apply Array.ext'; simpa using ht
              subst et
              exact goes_append hT h hd ho hvs.1 hvs.2.1 he2
            · exact he2.elim
    · rename_i p
      cases hargs : args.toList with
      | nil => rw [hargs] at hvs; exact hvs.elim
      | cons y ys =>
        rw [hargs] at hvs
        cases ys with
        | cons _ _ => exact hvs.2.elim
        | nil =>
          have ea : args = #[y] := by apply Array.ext'; simpa using hargs
          subst ea
          split at he2
          · rename_i t ht
            have et : types = #[t] := by apply Array.ext'; simpa using ht
            subst et
            exact goes_clear hT h ho hvs.1 he2
          · exact he2.elim
    · rename_i p q
      cases hargs : args.toList with
      | nil => rw [hargs] at hvs; exact hvs.elim
      | cons y ys =>
        rw [hargs] at hvs
        cases ys with
        | nil => exact hvs.2.elim
        | cons z zs =>
          cases zs with
          | cons _ _ => exact hvs.2.2.elim
          | nil =>
            have ea : args = #[y, z] := by apply Array.ext'; simpa using hargs
            subst ea
            split at he2
            · rename_i c1 c2
              have hx := VR_flt hvs.1
              have hy := VR_flt hvs.2.1
              have hb : ∀ ts ty, (Builtin.complex_ ts ty #[.float .f64 c1, .float .f64 c2]).run P w = .ok (.complex .f64 c1 c2) w := fun _ _ => rfl
              exact goes_cpx h hd (by simp [execOp, ho, resolve, invoke, builtin, hb, hx, hy, Result.andThen]) he2
            · exact he2.elim
    · rename_i p
      cases hargs : args.toList with
      | nil => rw [hargs] at hvs; exact hvs.elim
      | cons y ys =>
        rw [hargs] at hvs
        cases ys with
        | cons _ _ => exact hvs.2.elim
        | nil =>
          have ea : args = #[y] := by apply Array.ext'; simpa using hargs
          subst ea
          split at he2
          · rename_i c1 c2
            have hx := VR_cpx hvs.1
            have hb : ∀ ts ty, (Builtin.real_ ts ty #[.complex .f64 c1 c2]).run P w = .ok (.float .f64 c1) w := fun _ _ => rfl
            exact goes_flt h hd (by simp [execOp, ho, resolve, invoke, builtin, hb, hx, Result.andThen]) he2
          · exact he2.elim
    · rename_i p
      cases hargs : args.toList with
      | nil => rw [hargs] at hvs; exact hvs.elim
      | cons y ys =>
        rw [hargs] at hvs
        cases ys with
        | cons _ _ => exact hvs.2.elim
        | nil =>
          have ea : args = #[y] := by apply Array.ext'; simpa using hargs
          subst ea
          split at he2
          · rename_i c1 c2
            have hx := VR_cpx hvs.1
            have hb : ∀ ts ty, (Builtin.imag_ ts ty #[.complex .f64 c1 c2]).run P w = .ok (.float .f64 c2) w := fun _ _ => rfl
            exact goes_flt h hd (by simp [execOp, ho, resolve, invoke, builtin, hb, hx, Result.andThen]) he2
          · exact he2.elim
    · exact goes_call hC h hd ho hvs he2
    · exact goes_invoke hT hC h hd ho hvs he2
    · exact he2.elim
  | _ => unfold pg at he; rw [ho] at he; exact he.elim
end
end Go.Proofs.Ytjonpmckkmnemaa.Th
set_option linter.unusedVariables false
set_option linter.unusedSimpArgs false
namespace Go.Proofs.Ytjonpmckkmnemaa.Th
open Go Go.RowKit
def J {μ : Bool} (B : Bd μ) (w0 : World) (N : Nat) (s : S) (a : Act) (w : World) : Prop := ∃ g, Rel B g s w a N ∧ BelowB B w0 w
def dstsOK (N : Nat) (ops : List Oper) : Bool := ops.all fun o => match o.dst with
  | some t => Nat.blt t N
  | none => true
def codeOK (N : Nat) : Code → Bool
  | .region _ ops _ => dstsOK N ops.toList
  | .seq a b => codeOK N a && codeOK N b
  | .block _ b => codeOK N b
  | .loop b => codeOK N b
  | .scope b => codeOK N b
  | .cond _ a b => codeOK N a && codeOK N b
  | _ => true
section
variable {P : Program} {TI : TEnv} {C : FuncId → List AV → AV → Prop} {μ : Bool} {B : Bd μ} {N : Nat} {s s' : S} {w w0 : World} {a : Act} {o : Oper} {ws : List Wr} {ops : Array Oper} {Q : Exit → Act → World → Prop}
theorem dstsOK_get {l : List Oper} (h : dstsOK N l = true) {o : Oper} (ho : o ∈ l) : ∀ t, o.dst = some t → t < N := by
  intro t ht
  have := List.all_eq_true.1 h o ho
  rw [ht] at this
  exact Nat.blt_eq ▸ this
theorem wpOp_of (hT : TIok P TI) (hC : ∀ f args v, C f args v → CallOK μ P f args v) (hd : dstsOK N ops.toList = true) {i : Nat} {K : Act → World → Prop} (ho : ops[i]? = some o) (hJ : J B w0 N s a w)
    (he : (pgG TI ops.toList o).Ev C (fun _ => True) s ws) (hK : ∀ a' w', J B w0 N (s.puts ws) a' w' → K a' w') : wpOp P ops Q i K a w := by
  obtain ⟨g, h, hb⟩ := hJ
  have hdo : ∀ t, o.dst = some t → t < N := dstsOK_get hd (by rw [Array.mem_toList_iff]; exact Array.mem_of_getElem? ho)
  have hgo : ∀ (he : (pg TI o).Ev C (fun _ => True) s ws), o.wp P a w K Q := fun he => goes_pg hT hC h hdo he K Q fun g' a' w' h' hb' => hK a' w' ⟨g', h', hb.trans hb'⟩
  unfold wpOp
  rw [ho]
  simp only []
  unfold pgG at he
  cases hg : o.guard with
  | none =>
    rw [hg] at he
    have : Region.wanted o (yielded ops a.tmps) = true := by simp [Region.wanted, hg]
    rw [if_pos this]
    exact .inl (hgo he)
  | some jw =>
    obtain ⟨j, want⟩ := jw
    rw [hg] at he
    simp only [] at he
    cases hj : (ops.toList[j]?).bind (·.dst) with
    | none => rw [hj] at he; exact he.elim
    | some t =>
      rw [hj] at he
      obtain ⟨_, he⟩ := he
      have hj2 : (ops[j]?).bind (·.dst) = some t := by simpa using hj
      have htm := h.tm t
      cases hs : s.tmps t with
      | bool b =>
        rw [hs] at he htm
        have e1 : a.tmps.getD t undef = .bool b := VR_bool htm
        have hy : yielded ops a.tmps j = some b := by
          unfold yielded
          rw [hj2]
          simp only [Option.bind_some]
          rcases Nat.lt_or_ge t a.tmps.size with hlt | hge
          · simp [Array.getD, hlt] at e1
            simp [hlt, e1]
          · simp [Array.getD, Nat.not_lt.2 hge, undef] at e1
        simp only [] at he
        cases hbw : (b == want) with
        | true =>
          rw [hbw] at he
          simp only [Pg.Ev, if_true] at he
          have : Region.wanted o (yielded ops a.tmps) = true := by
            have e : b = want := by simpa using hbw
            simp [Region.wanted, hg, hy, e]
          rw [if_pos this]
          exact .inl (hgo he)
        | false =>
          rw [hbw] at he
          simp only [Pg.Ev, Bool.false_eq_true, if_false] at he
          have e : ¬ b = want := by simpa using hbw
          have : ¬ Region.wanted o (yielded ops a.tmps) = true := by simp [Region.wanted, hg, hy, e]
          rw [if_neg this]
          subst he
          exact hK _ _ ⟨g, h.wrd (show VR w g (.tup []) undef from ⟨[], rfl, trivial⟩) hdo, hb⟩
      | tup l =>
        rw [hs] at he htm
        cases l with
        | cons _ _ => exact he.elim
        | nil =>
          obtain ⟨us, e1, hu⟩ := htm
          have hus : us = [] := List.eq_nil_of_length_eq_zero hu.len.symm
          subst hus
          have hy : yielded ops a.tmps j = none := by
            unfold yielded
            rw [hj2]
            simp only [Option.bind_some]
            rcases Nat.lt_or_ge t a.tmps.size with hlt | hge
            · simp [Array.getD, hlt] at e1
              simp [hlt, e1]
            · simp [hge]
          have : ¬ Region.wanted o (yielded ops a.tmps) = true := by simp [Region.wanted, hg, hy]
          rw [if_neg this]
          have he : ws = _ := he
          subst he
          exact hK _ _ ⟨g, h.wrd (show VR w g (.tup []) undef from ⟨[], rfl, trivial⟩) hdo, hb⟩
      | _ => rw [hs] at he; exact he.elim
theorem wpOps_of (hT : TIok P TI) (hC : ∀ f args v, C f args v → CallOK μ P f args v) (hd : dstsOK N ops.toList = true) (hQ : ∀ a' w', J B w0 N s' a' w' → Q .normal a' w') :
    ∀ (l : List Oper) (i : Nat) (s : S) (a : Act) (w : World), ops.toList.drop i = l → OpsEv C TI ops.toList l s s' → J B w0 N s a w → wpOps P ops Q (List.range' i l.length) a w := by
  intro l
  induction l with
  | nil =>
    intro i s a w _ he hJ
    have e : s' = s := he
    subst e
    exact hQ a w hJ
  | cons o l ih =>
    intro i s a w hi he hJ
    obtain ⟨ws, h1, h2⟩ := he
    rw [List.length_cons, List.range'_succ, wpOps_cons]
    have ho : ops[i]? = some o := by
      have : (ops.toList.drop i)[0]? = some o := by rw [hi]; rfl
      simpa using this
    have hi2 : ops.toList.drop (i + 1) = l := by
      rw [← List.drop_drop, hi]; rfl
    exact wpOp_of hT hC hd ho hJ h1 fun a' w' hJ' => ih (i + 1) _ a' w' hi2 h2 hJ'
theorem wp_plain (hT : TIok P TI) (hC : ∀ f args v, C f args v → CallOK μ P f args v) (hd : dstsOK N ops.toList = true) {id : Nat} (he : OpsEv C TI ops.toList ops.toList s s') (hJ : J B w0 N s a w) (hQ : ∀ a' w', J B w0 N s' a' w' → Q .normal a' w') :
    (Code.region id ops false).wp P Q a w := by
  refine wp_region ?_
  have := wpOps_of (Q := Q) hT hC hd hQ ops.toList 0 s a w rfl he hJ
  rwa [← List.range_eq_range', Array.length_toList] at this
theorem J.drew (hJ : J B w0 N s a w) : J B w0 N s a { w with drawn := w.drawn + 1 } := by
  obtain ⟨g, h, hb⟩ := hJ
  exact ⟨g, (h.heap (w' := { w with drawn := w.drawn + 1 }) rfl).1, ⟨hb.os, hb.tape, hb.output, hb.size, hb.block, fun e => Nat.le_succ_of_le (hb.dr e)⟩⟩
theorem mix_none (st : List Stp) (L : Nat → Bool) (hL : ∀ i, L i = false) : ∀ (i : Nat) (s : S), mix st L i s = s := by
  induction st with
  | nil => intro i s; rfl
  | cons x st ih => intro i s; simp only [mix, hL, Bool.false_eq_true, if_false]; exact ih _ _
theorem wp_drawn (hm : P.follows .mixedOrders = true) (hT : TIok P TI) (hC : ∀ f args v, C f args v → CallOK μ P f args v) (hd : dstsOK N ops.toList = true) {id : Nat} {st : List Stp} (D : Drawn C TI ops s st s') (hJ : J B w0 N s a w)
    (hQ : ∀ a' w', J B w0 N s' a' w' → Q .normal a' w') : (Code.region id ops true).wp P Q a w := by
  refine wp_region_any hm ?_
  have hrep : ∀ i, (Array.replicate ops.size false).getD i false = false := by
    intro i; simp [Array.getD]
  refine D.any (J B w0 N) (fun i o σ ws a w K ho hJ he hK => wpOp_of hT hC hd ho hJ he hK) hQ ops.size _ a _ (by simp) ?_ (fun _ => .inr trivial) ?_ ?_
  · intro j o _ hj; have e := hrep j; simp only [] at hj; rw [e] at hj; cases hj
  · rw [mix_none st _ hrep]; exact hJ.drew
  · exact Nat.le_trans (List.length_filter_le _ _) (by simp)
end
def Exit.hop (c : Code) (K : Nat → Act → World → Prop) (Q : Exit → Act → World → Prop) : Exit → Act → World → Prop
  | .goto l, a, w => match findLabel c l with
    | some _ => K l a w
    | none => Q (.goto l) a w
  | e, a, w => Q e a w
def Hops (P : Program) (c : Code) (Q : Exit → Act → World → Prop) : Nat → Nat → Act → World → Prop
  | 0, _, _, _ => False
  | n + 1, l, a, w => ∃ rest, findLabel c l = some rest ∧ rest.wp P (Exit.hop c (Hops P c Q n) Q) a w
theorem wp_scope_hops {P : Program} {c : Code} {Q : Exit → Act → World → Prop} {a : Act} {w : World}
    (first : c.wp P (Exit.hop c (fun l a w => ∃ n, Hops P c Q n l a w) Q) a w) : (Code.scope c).wp P Q a w := by
  intro b k cs
  have hg : ∀ l rest, findLabel c l = some rest → gotoIn l (.inScope c :: k) = some (.code rest :: .inScope c :: k) := by intro l rest hf; simp [gotoIn, hf]
  have hn : ∀ l, findLabel c l = none → ∀ k', gotoIn l k = some k' → gotoIn l (.inScope c :: k) = some k' := by intro l hf k' hk; simp [gotoIn, hf, hk]
  have key : ∀ n l a w, Hops P c Q n l a w → ∃ rest, findLabel c l = some rest ∧ ∃ e a' w', Q e a' w' ∧ Arrives P (lone (b.at a (.code rest :: .inScope c :: k)) cs w) b k cs e a' w' := by
    intro n
    induction n with
    | zero => intro l a w h; exact h.elim
    | succ n ih =>
      rintro l a w ⟨rest, hf, h⟩
      refine ⟨rest, hf, ?_⟩
      obtain ⟨e, a₁, w₁, hq, harr⟩ := h b (.inScope c :: k) cs
      cases e with
      | normal => exact ⟨.normal, a₁, w₁, hq, Steps.trans harr (.one step_inScope)⟩
      | exit id => exact ⟨.exit id, a₁, w₁, hq, fun k' hk => harr k' (by simp [exitTo, hk])⟩
      | goto l' =>
        simp only [Exit.hop] at hq
        cases hf' : findLabel c l' with
        | none => rw [hf'] at hq; exact ⟨.goto l', a₁, w₁, hq, fun k' hk => harr k' (hn l' hf' k' hk)⟩
        | some rest' =>
          rw [hf'] at hq
          obtain ⟨rest2, hf2, e₂, a₂, w₂, hq₂, harr₂⟩ := ih l' a₁ w₁ hq
          exact ⟨e₂, a₂, w₂, hq₂, .of_steps (harr _ (hg l' rest2 hf2)) harr₂⟩
      | ret => exact ⟨_, a₁, w₁, hq, harr⟩
      | panic ch => exact ⟨_, a₁, w₁, hq, harr⟩
      | outgrown => exact ⟨_, a₁, w₁, hq, harr⟩
  obtain ⟨e, a₁, w₁, hq, harr⟩ := first b (.inScope c :: k) cs
  cases e with
  | normal => exact ⟨.normal, a₁, w₁, hq, .head step_scope (Steps.trans harr (.one step_inScope))⟩
  | exit id => exact ⟨.exit id, a₁, w₁, hq, fun k' hk => .head step_scope (harr k' (by simp [exitTo, hk]))⟩
  | goto l' =>
    simp only [Exit.hop] at hq
    cases hf' : findLabel c l' with
    | none => rw [hf'] at hq; exact ⟨.goto l', a₁, w₁, hq, fun k' hk => .head step_scope (harr k' (hn l' hf' k' hk))⟩
    | some rest' =>
      rw [hf'] at hq
      obtain ⟨n, hq⟩ := hq
      obtain ⟨rest2, hf2, e₂, a₂, w₂, hq₂, harr₂⟩ := key n l' a₁ w₁ hq
      exact ⟨e₂, a₂, w₂, hq₂, .of_steps (.head step_scope (harr _ (hg l' rest2 hf2))) harr₂⟩
  | ret => exact ⟨_, a₁, w₁, hq, .of_steps (.one step_scope) harr⟩
  | panic ch => exact ⟨_, a₁, w₁, hq, .of_steps (.one step_scope) harr⟩
  | outgrown => exact ⟨_, a₁, w₁, hq, .of_steps (.one step_scope) harr⟩
def X.ex : X → Exit
  | .norm => .normal
  | .exit i => .exit i
  | .goto l => .goto l
  | .ret => .ret
def Ends {μ : Bool} (B : Bd μ) (w0 : World) (N : Nat) (x : X) (s' : S) : Exit → Act → World → Prop := fun e a w => e = x.ex ∧ J B w0 N s' a w
def LoopOK (μ : Bool) (P : Program) (N : Nat) (L : LOrc) (b : Code) : Prop :=
  ∀ (R : Type) (s : S) (K : X → S → Option R) (r : R), L R (.loop (firstRegion b)) s K = some r →
    ∃ x s', K x s' = some r ∧ ∀ (B : Bd μ) (w0 : World) (a : Act) (w : World), J B w0 N s a w → (Code.loop b).wp P (Ends B w0 N x s') a w
def JumpsOK (μ : Bool) (P : Program) (N : Nat) (L : LOrc) (b : Code) : Prop :=
  ∀ (R : Type) (l : Nat) (s : S) (K : X → S → Option R) (r : R) (rest : Code), findLabel b l = some rest → L R (.label l) s K = some r →
    ∃ x s', K x s' = some r ∧ ∀ (B : Bd μ) (w0 : World) (a : Act) (w : World), J B w0 N s a w → ∃ n, Hops P b (Ends B w0 N x s') n l a w
def LinksOK (μ : Bool) (P : Program) (N : Nat) (L : LOrc) : Code → Prop
  | .seq a b => LinksOK μ P N L a ∧ LinksOK μ P N L b
  | .block _ b => LinksOK μ P N L b
  | .loop b => LoopOK μ P N L b
  | .scope b => JumpsOK μ P N L b ∧ LinksOK μ P N L b
  | .cond _ a b => LinksOK μ P N L a ∧ LinksOK μ P N L b
  | _ => True
theorem run_wp {μ : Bool} {P : Program} {TI : TEnv} {O : Orc} {L : LOrc} {C : FuncId → List AV → AV → Prop} {N : Nat} (hm : P.follows .mixedOrders = true) (hT : TIok P TI) (hO : OrcOK O C) (hC : ∀ f args v, C f args v → CallOK μ P f args v) :
    ∀ (c : Code), codeOK N c = true → LinksOK μ P N L c → ∀ (R : Type) (s : S) (K : X → S → Option R) (r : R), run TI O L c s K = some r →
      ∃ x s', K x s' = some r ∧ ∀ (B : Bd μ) (w0 : World) (a : Act) (w : World), J B w0 N s a w → c.wp P (Ends B w0 N x s') a w := by
  intro c
  induction c with
  | skip => exact fun _ _ R s K r h => ⟨.norm, s, h, fun B w0 a w hJ => wp_skip ⟨rfl, hJ⟩⟩
  | label l => exact fun _ _ R s K r h => ⟨.norm, s, h, fun B w0 a w hJ => wp_label ⟨rfl, hJ⟩⟩
  | ret => exact fun _ _ R s K r h => ⟨.ret, s, h, fun B w0 a w hJ => wp_ret ⟨rfl, hJ⟩⟩
  | exit id => exact fun _ _ R s K r h => ⟨.exit id, s, h, fun B w0 a w hJ => wp_exit ⟨rfl, hJ⟩⟩
  | goto l => exact fun _ _ R s K r h => ⟨.goto l, s, h, fun B w0 a w hJ => wp_goto ⟨rfl, hJ⟩⟩
  | seq x y ihx ihy =>
    intro hc hl R s K r h
    simp only [codeOK, Bool.and_eq_true] at hc
    obtain ⟨x1, s1, h1, w1⟩ := ihx hc.1 hl.1 R s _ r h
    cases x1 with
    | norm =>
      obtain ⟨x2, s2, h2, w2⟩ := ihy hc.2 hl.2 R s1 K r h1
      refine ⟨x2, s2, h2, fun B w0 a w hJ => wp_seq (wp_mono (w1 B w0 a w hJ) ?_)⟩
      rintro e a' w' ⟨rfl, hJ'⟩
      exact w2 B w0 a' w' hJ'
    | _ =>
      refine ⟨_, s1, h1, fun B w0 a w hJ => wp_seq (wp_mono (w1 B w0 a w hJ) ?_)⟩
      rintro e a' w' ⟨rfl, hJ'⟩
      exact ⟨rfl, hJ'⟩
  | cond c x y ihx ihy =>
    intro hc hl R s K r h
    simp only [codeOK, Bool.and_eq_true] at hc
    cases c with
    | tmp t =>
      simp only [run] at h
      cases hs : s.tmps t with
      | bool b =>
        rw [hs] at h
        have heval : ∀ (B : Bd μ) (w0 : World) (a : Act) (w : World), J B w0 N s a w → a.eval (.tmp t) = .bool b := by
          rintro B w0 a w ⟨g, hr, _⟩
          have := hr.tm t
          rw [hs] at this
          exact VR_bool this
        cases b with
        | true =>
          obtain ⟨x1, s1, h1, w1⟩ := ihx hc.1 hl.1 R s K r h
          exact ⟨x1, s1, h1, fun B w0 a w hJ => wp_cond_true (heval B w0 a w hJ) (w1 B w0 a w hJ)⟩
        | false =>
          obtain ⟨x1, s1, h1, w1⟩ := ihy hc.2 hl.2 R s K r h
          exact ⟨x1, s1, h1, fun B w0 a w hJ => wp_cond_false (heval B w0 a w hJ) (w1 B w0 a w hJ)⟩
      | _ => rw [hs] at h; cases h
    | _ => cases h
  | block id b ih =>
    intro hc hl R s K r h
    obtain ⟨x1, s1, h1, w1⟩ := ih hc hl R s _ r h
    cases x1 with
    | exit id' =>
      simp only [] at h1
      cases hid : Nat.beq id' id with
      | true =>
        rw [hid] at h1
        refine ⟨.norm, s1, h1, fun B w0 a w hJ => wp_block (wp_mono (w1 B w0 a w hJ) ?_)⟩
        rintro e a' w' ⟨rfl, hJ'⟩
        have := Nat.eq_of_beq_eq_true hid
        simp only [X.ex, Exit.inBlock, this, if_true]
        exact ⟨rfl, hJ'⟩
      | false =>
        rw [hid] at h1
        refine ⟨.exit id', s1, h1, fun B w0 a w hJ => wp_block (wp_mono (w1 B w0 a w hJ) ?_)⟩
        rintro e a' w' ⟨rfl, hJ'⟩
        have : ¬ id' = id := fun e => by subst e; rw [Nat.beq_refl] at hid; cases hid
        simp only [X.ex, Exit.inBlock, this, if_false]
        exact ⟨rfl, hJ'⟩
    | _ =>
      refine ⟨_, s1, h1, fun B w0 a w hJ => wp_block (wp_mono (w1 B w0 a w hJ) ?_)⟩
      rintro e a' w' ⟨rfl, hJ'⟩
      exact ⟨rfl, hJ'⟩
  | loop b ih => exact fun _ hl R s K r h => hl R s K r h
  | scope b ih =>
    intro hc hl R s K r h
    obtain ⟨x1, s1, h1, w1⟩ := ih hc hl.2 R s _ r h
    cases x1 with
    | goto l =>
      simp only [] at h1
      cases hf : findLabel b l with
      | none =>
        rw [hf] at h1
        refine ⟨.goto l, s1, h1, fun B w0 a w hJ => wp_scope_hops (wp_mono (w1 B w0 a w hJ) ?_)⟩
        rintro e a' w' ⟨rfl, hJ'⟩
        simp only [X.ex, Exit.hop, hf]
        exact ⟨rfl, hJ'⟩
      | some rest =>
        rw [hf] at h1
        obtain ⟨x2, s2, h2, w2⟩ := hl.1 R l s1 K r rest hf h1
        refine ⟨x2, s2, h2, fun B w0 a w hJ => wp_scope_hops (wp_mono (w1 B w0 a w hJ) ?_)⟩
        rintro e a' w' ⟨rfl, hJ'⟩
        simp only [X.ex, Exit.hop, hf]
        exact w2 B w0 a' w' hJ'
    | _ =>
      refine ⟨_, s1, h1, fun B w0 a w hJ => wp_scope_hops (wp_mono (w1 B w0 a w hJ) ?_)⟩
      rintro e a' w' ⟨rfl, hJ'⟩
      exact ⟨rfl, hJ'⟩
  | region id ops draw =>
    intro hc _ R s K r h
    cases draw with
    | false =>
      obtain ⟨s', he, hk⟩ := evalOps_ev hO _ _ h
      exact ⟨.norm, s', hk, fun B w0 a w hJ => wp_plain hT hC hc he hJ fun a' w' hJ' => ⟨rfl, hJ'⟩⟩
    | true =>
      simp only [run] at h
      cases hb : edgesBack 0 ops.toList with
      | false => rw [hb] at h; cases h
      | true =>
        rw [hb] at h
        obtain ⟨st, s', D, hk⟩ := drawn_of hO hb h
        exact ⟨.norm, s', hk, fun B w0 a w hJ => wp_drawn hm hT hC hc D hJ fun a' w' hJ' => ⟨rfl, hJ'⟩⟩
  | _ => intro _ _ R s K r h; cases h
end Go.Proofs.Ytjonpmckkmnemaa.Th
set_option linter.unusedVariables false
set_option linter.unusedSimpArgs false
namespace Go.Proofs.Ytjonpmckkmnemaa.Th
open Go Go.RowKit
theorem Pos.beq_iff {p q : Pos} : p.beq q = true ↔ p = q := by
  cases p <;> cases q <;> simp [Pos.beq]
section
variable {μ : Bool} {B : Bd μ} {N : Nat} {g : Gh} {s : S} {w w0 : World} {a : Act}
theorem shareT_rel (h : Rel B g s w a N) (t : Nat) : ∃ g', Rel B g' (shareT t s) w a N := by
  unfold shareT
  split
  · rename_i T l ht
    obtain ⟨g', _, h', _⟩ := h.share ht
    exact ⟨g', h'⟩
  · exact ⟨g, h⟩
theorem shareT_same (t : Nat) (s : S) : (shareT t s).tmps = s.tmps ∧ (shareT t s).boxes = s.boxes := by
  unfold shareT; split <;> exact ⟨rfl, rfl⟩
theorem snapT_rel (h : Rel B g s w a N) (m : MC) (v : AV) : ∃ g', Rel B g' (snapT m v s) w a N := by
  unfold snapT
  split
  · split
    · exact shareT_rel h _
    · exact ⟨g, h⟩
  · split
    · exact shareT_rel h _
    · exact ⟨g, h⟩
  · exact ⟨g, h⟩
theorem snapT_same (m : MC) (v : AV) (s : S) : (snapT m v s).tmps = s.tmps ∧ (snapT m v s).boxes = s.boxes := by
  unfold snapT
  split
  · split
    · exact shareT_same _ _
    · exact ⟨rfl, rfl⟩
  · split
    · exact shareT_same _ _
    · exact ⟨rfl, rfl⟩
  · exact ⟨rfl, rfl⟩
theorem shareAll_rel : ∀ (cs : List AV) {s : S} {g : Gh}, Rel B g s w a N → ∃ g', Rel B g' (shareAll cs s) w a N := by
  intro cs
  induction cs with
  | nil => intro s g h; exact ⟨g, h⟩
  | cons v cs ih =>
    intro s g h
    unfold shareAll
    split
    · obtain ⟨g', h'⟩ := shareT_rel h _
      exact ih h'
    · exact ih h
theorem shareAll_same : ∀ (cs : List AV) (s : S), (shareAll cs s).tmps = s.tmps ∧ (shareAll cs s).boxes = s.boxes := by
  intro cs
  induction cs with
  | nil => intro s; exact ⟨rfl, rfl⟩
  | cons v cs ih =>
    intro s
    unfold shareAll
    split
    · obtain ⟨e1, e2⟩ := ih (shareT _ s)
      obtain ⟨e3, e4⟩ := shareT_same _ s
      exact ⟨e1.trans e3, e2.trans e4⟩
    · exact ih s
theorem snapP_rel (h : Rel B g s w a N) (p : Pos) (m : MC) : ∃ g', Rel B g' (snapP p m s) w a N := by
  unfold snapP
  split
  · split
    · split
      · exact shareAll_rel _ h
      · exact ⟨g, h⟩
    · exact ⟨g, h⟩
  · exact snapT_rel h _ _
  · exact snapT_rel h _ _
  · exact ⟨g, h⟩
theorem snapP_same (p : Pos) (m : MC) (s : S) : (snapP p m s).tmps = s.tmps ∧ (snapP p m s).boxes = s.boxes := by
  unfold snapP
  split
  · split
    · split
      · exact shareAll_same _ _
      · exact ⟨rfl, rfl⟩
    · exact ⟨rfl, rfl⟩
  · exact snapT_same _ _ _
  · exact snapT_same _ _ _
  · exact ⟨rfl, rfl⟩
theorem snapL_rel : ∀ (l : List (Pos × MC)) {s : S} {g : Gh}, Rel B g s w a N → ∃ g', Rel B g' (snapL l s) w a N := by
  intro l
  induction l with
  | nil => intro s g h; exact ⟨g, h⟩
  | cons x l ih =>
    intro s g h
    obtain ⟨p, m⟩ := x
    obtain ⟨g', h'⟩ := snapP_rel h p m
    exact ih h'
theorem snapL_same : ∀ (l : List (Pos × MC)) (s : S), (snapL l s).tmps = s.tmps ∧ (snapL l s).boxes = s.boxes := by
  intro l
  induction l with
  | nil => intro s; exact ⟨rfl, rfl⟩
  | cons x l ih =>
    intro s
    obtain ⟨p, m⟩ := x
    obtain ⟨e1, e2⟩ := ih (snapP p m s)
    obtain ⟨e3, e4⟩ := snapP_same p m s
    exact ⟨e1.trans e3, e2.trans e4⟩
theorem TR_av {pr : Nat → Nat → Prop} {T : Ty} {x : T.den} {u : Value} (hs : T.isSt = false) (h : TR w pr T x [u]) : PR w pr (T.av x) u := by
  have := cells_PR h
  have hl := this.len
  cases hc : T.cells x with
  | nil => rw [hc] at hl; simp at hl
  | cons v vs =>
    rw [hc] at this
    unfold Ty.av
    simp only [hs, hc, List.headD_cons]
    exact this.1
theorem decV_PV (h : Rel B g s w a N) {T : Ty} {v : AV} {x : T.den} {u : Value} (hd : decV s T v = some x) (hv : VR w g v u) : PV w g.pr (T.av x) u := by
  unfold decV at hd
  split at hd
  · rename_i hs
    split at hd
    · rename_i cs
      obtain ⟨us, e, hu⟩ := hv
      have := ofCells_TR hd hu
      refine .inr ⟨T.cells x, us, ?_, e, cells_PR this⟩
      unfold Ty.av
      simp only [hs]
    · cases hd
  · rename_i hs
    split at hd
    · rename_i t
      split at hd
      · rename_i T' l ht
        obtain ⟨tg, e1, hr⟩ := h.shared ht
        obtain ⟨tg', e2, e3, _⟩ := hv
        rw [e1] at e2; cases e2
        rw [e3]
        exact .inl (TR_av hs (ofCells_TR hd (show All2 (PR w g.pr) [.sl T' l] [tg.val] from ⟨hr, trivial⟩)))
      · cases hd
    · cases hp : isPlainCell v with
      | false => rw [hp] at hd; cases hd
      | true =>
        rw [hp] at hd
        have hu : PR w g.pr v u := by
          cases v <;> first | exact hv | (simp [isPlainCell] at hp)
        exact .inl (TR_av hs (ofCells_TR hd (show All2 (PR w g.pr) [v] [u] from ⟨hu, trivial⟩)))
theorem decV_LR (h : Rel B g s w a N) {T : Ty} {v : AV} {x : T.den} {u : Value} (hd : decV s T v = some x) (hv : VR w g v u) {g' : Gh} (hg : g'.pr = g.pr) : LR w g' (T.av x) u := by
  have := decV_PV h hd hv
  rw [← hg] at this
  exact this.LR
structure Row1 {μ : Bool} (B : Bd μ) (w : World) (g : Gh) (s : S) (used used' : List Nat) (tok : Tok) (tg : TG) : Prop where
  live : (∃ sh T l, tok = .live sh T l ∧ TokOK B w g.pr sh T l tg) ∨ ∃ K l, tok = .mlive K l ∧ MapOK B w g.pr K l tg
  src : ∀ k, tg.blk = some k → ∃ h tg0, h ∈ used' ∧ h ∉ used ∧ (s.toks h).isLive = true ∧ g.τ h = some tg0 ∧ tg0.blk = some k
theorem decR_ok (h : Rel B g s w a N) {sh : Bool} {T : Ty} {v : AV} {used used' : List Nat} {x : List T.den} (hd : decR s sh T v used = some (x, used')) :
    ∃ tg, Row1 B w g s used used' (.live sh T x) tg ∧ (∀ t ∈ used, t ∈ used') ∧ ∀ u, VR w g v u → u = tg.val ∧ u.oneCell' = true := by
  unfold decR at hd
  split at hd
  · cases hd
    refine ⟨⟨.slice none 0 0, none, T.size⟩, ⟨.inl ⟨sh, T, _, rfl, rfl, .inl ⟨rfl, rfl, rfl⟩⟩, fun k hk => by cases hk⟩, fun _ h => h, fun u hu => ?_⟩
    rw [show u = _ from hu]; exact ⟨rfl, rfl⟩
  · rename_i t
    split at hd
    · rename_i sh' T' l ht
      cases hq : (bif sh' == sh then !used.any (Nat.beq t) else false) with
      | false => rw [hq] at hd; cases hd
      | true =>
        rw [hq] at hd
        simp only [cond_true] at hd
        cases hdec : T'.dec T with
        | none => rw [hdec] at hd; cases hd
        | some e =>
          rw [hdec] at hd
          obtain ⟨rfl⟩ := e
          simp only [Option.some.injEq, Prod.mk.injEq] at hd
          obtain ⟨hx, hu⟩ := hd
          replace hx := hx.symm
          subst hx; subst hu
          have h1 : sh' = sh := by
            cases hx : (sh' == sh) with
            | true => simpa using hx
            | false => rw [hx] at hq; cases hq
          subst h1
          simp only [beq_self_eq_true, cond_true, Bool.not_eq_true'] at hq
          have hnot : t ∉ used := by
            intro hm
            have := List.any_eq_false.1 hq t hm
            rw [Nat.beq_refl] at this
            exact this rfl
          obtain ⟨tg, e1, ok⟩ := h.tk t sh' T' x ht
          refine ⟨tg, ⟨.inl ⟨sh', T', x, rfl, ok⟩, fun k hk => ⟨t, tg, .head _, hnot, by rw [ht]; rfl, e1, hk⟩⟩, fun y hy => .tail _ hy, fun u hu => ?_⟩
          obtain ⟨tg', e2, e3, e4⟩ := hu
          rw [e1] at e2; cases e2
          exact ⟨e3, e4⟩
    · cases hd
  · cases hd
theorem decM_ok (h : Rel B g s w a N) {K : Ty} {v : AV} {used used' : List Nat} {x : List K.den} (hd : decM s K v used = some (x, used')) :
    ∃ tg, Row1 B w g s used used' (.mlive K x) tg ∧ (∀ t ∈ used, t ∈ used') ∧ ∀ u, VR w g v u → u = tg.val ∧ ∃ k, tg.val = .map (some k) := by
  unfold decM at hd
  split at hd
  · rename_i t
    split at hd
    · rename_i K' l ht
      cases hq : (!used.any (Nat.beq t)) with
      | false => rw [hq] at hd; cases hd
      | true =>
        rw [hq] at hd
        simp only [cond_true] at hd
        cases hdec : K'.dec K with
        | none => rw [hdec] at hd; cases hd
        | some e =>
          rw [hdec] at hd
          obtain ⟨rfl⟩ := e
          simp only [Option.some.injEq, Prod.mk.injEq] at hd
          obtain ⟨hx, hu⟩ := hd
          replace hx := hx.symm
          subst hx; subst hu
          simp only [Bool.not_eq_true'] at hq
          have hnot : t ∉ used := by
            intro hm
            have := List.any_eq_false.1 hq t hm
            rw [Nat.beq_refl] at this
            exact this rfl
          obtain ⟨tg, e1, ok⟩ := h.mp t K' x ht
          refine ⟨tg, ⟨.inr ⟨K', x, rfl, ok⟩, fun k hk => ⟨t, tg, .head _, hnot, by rw [ht]; rfl, e1, hk⟩⟩, fun y hy => .tail _ hy, fun u hu => ?_⟩
          obtain ⟨tg', k, e2, e3, e4⟩ := hu
          rw [e1] at e2; cases e2
          exact ⟨e3, k, e4⟩
    · cases hd
  · cases hd
structure Kept {μ : Bool} (B : Bd μ) (w : World) (g : Gh) (s : S) (bs : List Nat) (l : List (Pos × MC)) (v : denL l) (used used' : List Nat) (tgs : List (Nat × TG)) : Prop where
  keys : tgs.map (·.1) = (tkL l v).map (·.1)
  rows : ∀ (i n m : Nat) (tok : Tok) (tg : TG), (tkL l v)[i]? = some (n, tok) → tgs[i]? = some (m, tg) → Row1 B w g s used used' tok tg
  inj : ∀ (i j n n' k : Nat) (tg tg' : TG), tgs[i]? = some (n, tg) → tgs[j]? = some (n', tg') → tg.blk = some k → tg'.blk = some k → i = j
  mono : ∀ t ∈ used, t ∈ used'
  vals : ∀ g' : Gh, g'.pr = g.pr → (∀ b ∈ bs, g'.β b = g.β b) → (∀ n tg, (n, tg) ∈ tgs → g'.τ n = some tg) → ∀ p x, (p, x) ∈ avL l v → ∀ u, VR w g (p.get s) u → LR w g' x u
theorem Row1.used {used0 used1 used used' : List Nat} {tok : Tok} {tg : TG} (h : Row1 B w g s used used' tok tg) (h0 : ∀ t ∈ used0, t ∈ used) (h1 : ∀ t ∈ used', t ∈ used1) : Row1 B w g s used0 used1 tok tg :=
  ⟨h.live, fun k hk => let ⟨t, tg0, a, b, c⟩ := h.src k hk; ⟨t, tg0, h1 t a, fun hm => b (h0 t hm), c⟩⟩
theorem decA_ok {bs : List Nat} {b off n i : Nat} {e : Ty} {v : AV} (h : decA bs b off n e v = some i) : b ∈ bs ∧ v = .parr b off n e i := by
  unfold decA at h
  split at h
  · rename_i b' off' n' e' j
    cases h1 : Nat.beq b' b with
    | false => rw [h1] at h; cases h
    | true =>
      cases h2 : Nat.beq off' off with
      | false => rw [h1, h2] at h; cases h
      | true =>
        cases h3 : Nat.beq n' n with
        | false => rw [h1, h2, h3] at h; cases h
        | true =>
          cases h4 : bs.any (Nat.beq b) with
          | false => rw [h1, h2, h3, h4] at h; cases h
          | true =>
            rw [h1, h2, h3, h4] at h
            simp only [cond_true] at h
            cases hd : e'.dec e with
            | none => rw [hd] at h; cases h
            | some hh =>
              rw [hd] at h
              simp only [Option.some.injEq] at h
              obtain ⟨b2, hm, hb2⟩ := List.any_eq_true.1 h4
              rw [Nat.eq_of_beq_eq_true h1, Nat.eq_of_beq_eq_true h2, Nat.eq_of_beq_eq_true h3, hh.down, h]
              exact ⟨Nat.eq_of_beq_eq_true hb2 ▸ hm, rfl⟩
  · cases h
theorem decLv_ok {bs : List Nat} {b o f : Nat} {v : AV} (h : decLv bs b o f v = true) : b ∈ bs ∧ v = .lev b o f := by
  unfold decLv at h
  split at h
  · rename_i b' o' f'
    cases h1 : Nat.beq b' b with
    | false => rw [h1] at h; cases h
    | true =>
      cases h2 : Nat.beq o' o with
      | false => rw [h1, h2] at h; cases h
      | true =>
        cases h3 : Nat.beq f' f with
        | false => rw [h1, h2, h3] at h; cases h
        | true =>
          rw [h1, h2, h3] at h
          simp only [cond_true] at h
          obtain ⟨b2, hm, hb2⟩ := List.any_eq_true.1 h
          rw [Nat.eq_of_beq_eq_true h1, Nat.eq_of_beq_eq_true h2, Nat.eq_of_beq_eq_true h3]
          exact ⟨Nat.eq_of_beq_eq_true hb2 ▸ hm, rfl⟩
  · cases h
theorem isNp_ok {v : AV} (h : isNp v = true) : v = .nilptr := by
  cases v <;> first | rfl | cases h
theorem decL_ok (h : Rel B g s w a N) (bs : List Nat) : ∀ (l : List (Pos × MC)) {used used' : List Nat} {v : denL l}, decL s bs l used = some (v, used') → ∃ tgs, Kept B w g s bs l v used used' tgs := by
  intro l
  induction l with
  | nil =>
    intro used used' v hd
    simp only [decL] at hd
    cases hd
    exact ⟨[], rfl, fun i n m tok tg h => by simp [tkL] at h, fun i j n n' k tg tg' h => by simp at h, fun _ h => h, fun g' _ _ _ p x hx => by simp [avL] at hx⟩
  | cons q l ih =>
    intro used used' v hd
    obtain ⟨p, m⟩ := q
    cases m with
    | val T =>
      simp only [decL] at hd
      cases h1 : decV s T (p.get s) with
      | none => rw [h1] at hd; cases hd
      | some x =>
        rw [h1] at hd
        simp only [] at hd
        cases h2 : decL s bs l used with
        | none => rw [h2] at hd; cases hd
        | some y =>
          obtain ⟨y1, y2⟩ := y
          rw [h2] at hd; cases hd
          obtain ⟨tgs, K⟩ := ih h2
          refine ⟨tgs, K.keys, K.rows, K.inj, K.mono, fun g' e1 e2 e3 p' x' hx u hu => ?_⟩
          rcases List.mem_cons.1 (show (p', x') ∈ (p, T.av x) :: avL l y1 from hx) with e | hx
          · cases e; exact decV_LR h h1 hu e1
          · exact K.vals g' e1 e2 e3 p' x' hx u hu
    | row sh T =>
      simp only [decL] at hd
      cases h1 : decR s sh T (p.get s) used with
      | none => rw [h1] at hd; cases hd
      | some x =>
        obtain ⟨x1, x2⟩ := x
        rw [h1] at hd
        simp only [] at hd
        cases h2 : decL s bs l x2 with
        | none => rw [h2] at hd; cases hd
        | some y =>
          obtain ⟨y1, y2⟩ := y
          rw [h2] at hd; cases hd
          obtain ⟨tgs, K⟩ := ih h2
          obtain ⟨tg, R1, R2, R3⟩ := decR_ok h h1
          refine ⟨(p.name, tg) :: tgs, by simp [tkL, K.keys], ?_, ?_, fun t ht => K.mono t (R2 t ht), ?_⟩
          · intro i n m' tok tg' e1 e2
            cases i with
            | zero =>
              simp [tkL] at e1 e2
              obtain ⟨_, rfl⟩ := e1
              obtain ⟨_, rfl⟩ := e2
              exact R1.used (fun _ h => h) K.mono
            | succ i =>
              simp [tkL] at e1 e2
              exact (K.rows i n m' tok tg' e1 e2).used R2 (fun _ h => h)
          · have key : ∀ (j n' k : Nat) (tg' : TG), tgs[j]? = some (n', tg') → tg.blk = some k → tg'.blk = some k → False := by
              intro j n' k tg' e1 e2 e3
              obtain ⟨t, tg0, a1, a2, a3, a4, a5⟩ := R1.src k e2
              have hlen : j < (tkL l y1).length := by
                have := congrArg List.length K.keys
                simp only [List.length_map] at this
                have := (List.getElem?_eq_some_iff.1 e1).1
                omega
              obtain ⟨t', tg0', b1, b2, b3, b4, b5⟩ := (K.rows j _ n' _ tg' (List.getElem?_eq_getElem hlen) e1).src k e3
              have := h.tinj t t' tg0 tg0' k a3 b3 a4 b4 a5 b5
              subst this
              exact b2 a1
            intro i j n n' k tg1 tg2 e1 e2 e3 e4
            cases i with
            | zero =>
              simp at e1; obtain ⟨_, rfl⟩ := e1
              cases j with
              | zero => rfl
              | succ j => exact (key j n' k tg2 (by simpa using e2) e3 e4).elim
            | succ i =>
              cases j with
              | zero => simp at e2; obtain ⟨_, rfl⟩ := e2; exact (key i n k tg1 (by simpa using e1) e4 e3).elim
              | succ j => rw [K.inj i j n n' k tg1 tg2 (by simpa using e1) (by simpa using e2) e3 e4]
          · intro g' e1 e2 e3 p' x' hx u hu
            rcases List.mem_cons.1 (show (p', x') ∈ (p, AV.ref p.name) :: avL l y1 from hx) with e | hx
            · cases e
              obtain ⟨r1, r2⟩ := R3 u hu
              exact ⟨tg, e3 _ _ (.head _), r1, r2⟩
            · exact K.vals g' e1 e2 (fun n tg' hm => e3 n tg' (.tail _ hm)) p' x' hx u hu
    | map MK =>
      simp only [decL] at hd
      cases h1 : decM s MK (p.get s) used with
      | none => rw [h1] at hd; cases hd
      | some x =>
        obtain ⟨x1, x2⟩ := x
        rw [h1] at hd
        simp only [] at hd
        cases h2 : decL s bs l x2 with
        | none => rw [h2] at hd; cases hd
        | some y =>
          obtain ⟨y1, y2⟩ := y
          rw [h2] at hd; cases hd
          obtain ⟨tgs, K⟩ := ih h2
          obtain ⟨tg, R1, R2, R3⟩ := decM_ok h h1
          refine ⟨(p.name, tg) :: tgs, by simp [tkL, K.keys], ?_, ?_, fun t ht => K.mono t (R2 t ht), ?_⟩
          · intro i n m' tok tg' e1 e2
            cases i with
            | zero =>
              simp [tkL] at e1 e2
              obtain ⟨_, rfl⟩ := e1
              obtain ⟨_, rfl⟩ := e2
              exact R1.used (fun _ h => h) K.mono
            | succ i =>
              simp [tkL] at e1 e2
              exact (K.rows i n m' tok tg' e1 e2).used R2 (fun _ h => h)
          · have key : ∀ (j n' k : Nat) (tg' : TG), tgs[j]? = some (n', tg') → tg.blk = some k → tg'.blk = some k → False := by
              intro j n' k tg' e1 e2 e3
              obtain ⟨t, tg0, a1, a2, a3, a4, a5⟩ := R1.src k e2
              have hlen : j < (tkL l y1).length := by
                have := congrArg List.length K.keys
                simp only [List.length_map] at this
                have := (List.getElem?_eq_some_iff.1 e1).1
                omega
              obtain ⟨t', tg0', b1, b2, b3, b4, b5⟩ := (K.rows j _ n' _ tg' (List.getElem?_eq_getElem hlen) e1).src k e3
              have := h.tinj t t' tg0 tg0' k a3 b3 a4 b4 a5 b5
              subst this
              exact b2 a1
            intro i j n n' k tg1 tg2 e1 e2 e3 e4
            cases i with
            | zero =>
              simp at e1; obtain ⟨_, rfl⟩ := e1
              cases j with
              | zero => rfl
              | succ j => exact (key j n' k tg2 (by simpa using e2) e3 e4).elim
            | succ i =>
              cases j with
              | zero => simp at e2; obtain ⟨_, rfl⟩ := e2; exact (key i n k tg1 (by simpa using e1) e4 e3).elim
              | succ j => rw [K.inj i j n n' k tg1 tg2 (by simpa using e1) (by simpa using e2) e3 e4]
          · intro g' e1 e2 e3 p' x' hx u hu
            rcases List.mem_cons.1 (show (p', x') ∈ (p, AV.mp p.name) :: avL l y1 from hx) with e | hx
            · cases e
              obtain ⟨r1, k, r2⟩ := R3 u hu
              exact ⟨tg, k, e3 _ _ (.head _), r1, r2⟩
            · exact K.vals g' e1 e2 (fun n tg' hm => e3 n tg' (.tail _ hm)) p' x' hx u hu
    | lev b o f =>
      simp only [decL] at hd
      cases h1 : decLv bs b o f (p.get s) with
      | false => rw [h1] at hd; cases hd
      | true =>
        rw [h1] at hd
        obtain ⟨tgs, K⟩ := ih hd
        refine ⟨tgs, K.keys, K.rows, K.inj, K.mono, fun g' e1 e2 e3 p' x' hx u hu => ?_⟩
        rcases List.mem_cons.1 (show (p', x') ∈ (p, AV.lev b o f) :: avL l v from hx) with e | hx
        · cases e
          obtain ⟨hm, hp⟩ := decLv_ok h1
          rw [hp] at hu
          obtain ⟨k, q2, q3⟩ := hu
          exact ⟨k, by rw [e2 _ hm]; exact q2, q3⟩
        · exact K.vals g' e1 e2 e3 p' x' hx u hu
    | nilp =>
      simp only [decL] at hd
      cases h1 : isNp (p.get s) with
      | false => rw [h1] at hd; cases hd
      | true =>
        rw [h1] at hd
        obtain ⟨tgs, K⟩ := ih hd
        refine ⟨tgs, K.keys, K.rows, K.inj, K.mono, fun g' e1 e2 e3 p' x' hx u hu => ?_⟩
        rcases List.mem_cons.1 (show (p', x') ∈ (p, AV.nilptr) :: avL l v from hx) with e | hx
        · cases e
          rw [isNp_ok h1] at hu
          exact hu
        · exact K.vals g' e1 e2 e3 p' x' hx u hu
    | parr b off n e =>
      simp only [decL] at hd
      cases h1 : decA bs b off n e (p.get s) with
      | none => rw [h1] at hd; cases hd
      | some x =>
        rw [h1] at hd
        simp only [] at hd
        cases h2 : decL s bs l used with
        | none => rw [h2] at hd; cases hd
        | some y =>
          obtain ⟨y1, y2⟩ := y
          rw [h2] at hd; cases hd
          obtain ⟨tgs, K⟩ := ih h2
          refine ⟨tgs, K.keys, K.rows, K.inj, K.mono, fun g' e1 e2 e3 p' x' hx u hu => ?_⟩
          rcases List.mem_cons.1 (show (p', x') ∈ (p, AV.parr b off n e x) :: avL l y1 from hx) with e | hx
          · cases e
            obtain ⟨hm, hp⟩ := decA_ok h1
            rw [hp] at hu
            obtain ⟨q1, k, q2, q3⟩ := hu
            exact ⟨q1, k, by rw [e2 _ hm]; exact q2, q3⟩
          · exact K.vals g' e1 e2 e3 p' x' hx u hu
    | ptr b o =>
      simp only [decL] at hd
      cases h1 : decP bs b o (p.get s) with
      | false => rw [h1] at hd; cases hd
      | true =>
        rw [h1] at hd
        obtain ⟨tgs, K⟩ := ih hd
        refine ⟨tgs, K.keys, K.rows, K.inj, K.mono, fun g' e1 e2 e3 p' x' hx u hu => ?_⟩
        rcases List.mem_cons.1 (show (p', x') ∈ (p, AV.ptr b o) :: avL l v from hx) with e | hx
        · cases e
          unfold decP at h1
          split at h1
          · rename_i b' o' hp
            rw [hp] at hu
            cases hb : Nat.beq b' b with
            | false => rw [hb] at h1; cases h1
            | true =>
              rw [hb] at h1
              simp only [cond_true] at h1
              cases hoo : Nat.beq o' o with
              | false => rw [hoo] at h1; cases h1
              | true =>
                rw [hoo] at h1
                simp only [cond_true] at h1
                have eb := Nat.eq_of_beq_eq_true hb
                have eo := Nat.eq_of_beq_eq_true hoo
                subst eb; subst eo
                obtain ⟨k, f1, f2⟩ := hu
                obtain ⟨b2, hm, hb2⟩ := List.any_eq_true.1 h1
                have := Nat.eq_of_beq_eq_true hb2
                subst this
                exact ⟨k, by rw [e2 _ hm]; exact f1, f2⟩
          · cases h1
        · exact K.vals g' e1 e2 e3 p' x' hx u hu
theorem tbl_pair {α β : Type} (d1 : α) (d2 : β) (t : Nat) : ∀ {l1 : List (Nat × α)} {l2 : List (Nat × β)}, l2.map (·.1) = l1.map (·.1) →
    (∃ (i : Nat) (a : α) (b : β), l1[i]? = some (t, a) ∧ l2[i]? = some (t, b) ∧ tbl d1 l1 t = a ∧ tbl d2 l2 t = b) ∨ (tbl d1 l1 t = d1 ∧ tbl d2 l2 t = d2 ∧ t ∉ l2.map (·.1))
  | [], [], _ => .inr ⟨rfl, rfl, by simp⟩
  | (n, a) :: l1, (n', b) :: l2, h => by
    simp only [List.map_cons, List.cons.injEq] at h
    obtain ⟨e, h⟩ := h
    subst e
    cases hb : Nat.beq t n' with
    | true =>
      have := Nat.eq_of_beq_eq_true hb
      subst this
      exact .inl ⟨0, a, b, rfl, rfl, by simp [tbl], by simp [tbl]⟩
    | false =>
      rcases tbl_pair d1 d2 t h with ⟨i, a', b', e1, e2, e3, e4⟩ | ⟨e1, e2, e3⟩
      · exact .inl ⟨i + 1, a', b', by simpa using e1, by simpa using e2, by simp only [tbl, hb, cond_false]; exact e3, by simp only [tbl, hb, cond_false]; exact e4⟩
      · refine .inr ⟨by simp only [tbl, hb, cond_false]; exact e1, by simp only [tbl, hb, cond_false]; exact e2, ?_⟩
        have hne : t ≠ n' := fun e => by subst e; rw [Nat.beq_refl] at hb; cases hb
        simp only [List.map_cons, List.mem_cons, not_or]
        exact ⟨hne, e3⟩
  | [], _ :: _, h => by simp at h
  | _ :: _, [], h => by simp at h
theorem nodupB_iff : ∀ {l : List Nat}, nodupB l = true → l.Nodup
  | [], _ => .nil
  | a :: l, h => by
    simp only [nodupB, Bool.and_eq_true, Bool.not_eq_true'] at h
    refine List.nodup_cons.2 ⟨fun hm => ?_, nodupB_iff h.2⟩
    have := List.any_eq_false.1 h.1 a hm
    rw [Nat.beq_refl] at this
    exact this rfl
theorem tkL_keys : ∀ (l : List (Pos × MC)) (v : denL l), ((tkL l v).map (·.1)).Sublist (l.map fun x => x.1.name)
  | [], _ => .slnil
  | (p, .val _) :: l, v => .cons _ (tkL_keys l v.2)
  | (p, .row _ _) :: l, v => .cons_cons _ (tkL_keys l v.2)
  | (p, .ptr _ _) :: l, v => .cons _ (tkL_keys l v)
  | (p, .parr _ _ _ _) :: l, v => .cons _ (tkL_keys l v.2)
  | (p, .map _) :: l, v => .cons_cons _ (tkL_keys l v.2)
  | (p, .lev _ _ _) :: l, v => .cons _ (tkL_keys l v)
  | (p, .nilp) :: l, v => .cons _ (tkL_keys l v)
theorem tkL_live : ∀ (l : List (Pos × MC)) (v : denL l) (n : Nat) (tok : Tok), (n, tok) ∈ tkL l v → tok.isLive = true
  | [], _, n, tok, h => by simp [tkL] at h
  | (p, .val _) :: l, v, n, tok, h => tkL_live l v.2 n tok h
  | (p, .ptr _ _) :: l, v, n, tok, h => tkL_live l v n tok h
  | (p, .parr _ _ _ _) :: l, v, n, tok, h => tkL_live l v.2 n tok h
  | (p, .lev _ _ _) :: l, v, n, tok, h => tkL_live l v n tok h
  | (p, .nilp) :: l, v, n, tok, h => tkL_live l v n tok h
  | (p, .map _) :: l, v, n, tok, h => by
    rcases List.mem_cons.1 (show (n, tok) ∈ _ :: tkL l v.2 from h) with e | h
    · cases e; rfl
    · exact tkL_live l v.2 n tok h
  | (p, .row _ _) :: l, v, n, tok, h => by
    rcases List.mem_cons.1 (show (n, tok) ∈ _ :: tkL l v.2 from h) with e | h
    · cases e; rfl
    · exact tkL_live l v.2 n tok h
theorem lookP_or (l : List (Pos × AV)) (p : Pos) : lookP l p = .undef ∨ (p, lookP l p) ∈ l ∨ ∃ q v i, (q, v) ∈ l ∧ q.inSeg p = some i ∧ lookP l p = v.cells.getD i .undef := by
  induction l with
  | nil => exact .inl rfl
  | cons q l ih =>
    obtain ⟨q, v⟩ := q
    simp only [lookP]
    cases h : q.beq p with
    | true => have := Pos.beq_iff.1 h; subst this; exact .inr (.inl (.head _))
    | false =>
      simp only [cond_false]
      cases hs : q.inSeg p with
      | some i => exact .inr (.inr ⟨q, v, i, .head _, hs, rfl⟩)
      | none => exact ih.imp id (Or.imp (.tail _) fun ⟨q', v', i, a, b, c⟩ => ⟨q', v', i, .tail _ a, b, c⟩)
theorem cells_plain : ∀ (T : Ty) (x : T.den), (T.cells x).all isPlainCell = true := by
  intro T
  induction T with
  | st f ih => exact ih
  | cons a b iha ihb => intro x; simp [Ty.cells, iha, ihb]
  | arr n e _ => intro x; simp [Ty.cells, isPlainCell]
  | nil => intro x; rfl
  | _ => intro x; rfl
theorem LR_agg_cell {v : AV} {us : List Value} (h : LR w g v (.agg us.toArray)) {i : Nat} {u : Value} (hu : us[i]? = some u) : LR w g (v.cells.getD i .undef) u := by
  have one : (Value.agg us.toArray).oneCell' = true → False := fun e => by simp [Value.oneCell'] at e
  cases v with
  | undef =>
    have : (AV.undef).cells.getD i .undef = .undef := by cases i <;> simp [AV.cells]
    rw [this]; trivial
  | agg cs =>
    obtain ⟨us', e, hc⟩ := h
    have e : us = us' := by injection e with e; simpa using congrArg Array.toList e
    subst e
    show LR w g (cs.getD i .undef) u
    have hi : i < cs.length := by have := (List.getElem?_eq_some_iff.1 hu).1; rw [hc.len]; exact this
    obtain ⟨u', hu', hp⟩ := hc.get i cs[i] (by simp [hi])
    rw [hu] at hu'; cases hu'
    have : cs.getD i .undef = cs[i] := by simp [hi]
    rw [this]; exact LR_of_PR hp
  | lev b o f =>
    obtain ⟨k, hβ, e⟩ := h
    have e : us = [.pointer (some ⟨k, o, none⟩), .func (.func f) #[] #[]] := by injection e with e; simpa using congrArg Array.toList e
    subst e
    match i, hu with
    | 0, hu => cases hu; exact ⟨k, hβ, rfl⟩
    | 1, hu => cases hu; exact ⟨[], rfl, rfl⟩
  | ref t => obtain ⟨_, _, _, e⟩ := h; exact (one e).elim
  | ptr b o => obtain ⟨_, _, e⟩ := h; cases e
  | parr b o n e i => obtain ⟨_, _, _, e⟩ := h; cases e
  | mp t => obtain ⟨_, _, _, e1, e2⟩ := h; rw [e2] at e1; cases e1
  | pim cs o => obtain ⟨_, _, e, _⟩ := h; cases e
  | pel t i o => obtain ⟨_, _, _, _, e⟩ := h; cases e
  | view t i => obtain ⟨_, _, _, _, _, _, _, _, e, _⟩ := h; cases e
  | fn f c => obtain ⟨_, e, _⟩ := h; cases e
  | nilfn => cases h
  | nilif => cases h
  | nilptr => cases h
  | nsl T l => exact (one (PR.one h.1)).elim
  | gar e T l => obtain ⟨_, e, _⟩ := h; cases e
  | own _ _ => exact h.elim
  | tup _ => exact h.elim
  | lent _ => exact h.elim
  | back _ _ => exact h.elim
  | fz c => exact (one (PR.one (w := w) (pr := g.pr) (v := c) h)).elim
  | int _ _ => exact (one (PR.one (w := w) (pr := g.pr) (v := .int _ _) h)).elim
  | bool _ => exact (one (PR.one (w := w) (pr := g.pr) (v := .bool _) h)).elim
  | str _ => exact (one (PR.one (w := w) (pr := g.pr) (v := .str _) h)).elim
  | flt _ => exact (one (PR.one (w := w) (pr := g.pr) (v := .flt _) h)).elim
  | cpx _ _ => exact (one (PR.one (w := w) (pr := g.pr) (v := .cpx _ _) h)).elim
  | nilsl => exact (one (PR.one (w := w) (pr := g.pr) (v := .nilsl) h)).elim
  | sl T l => exact (one (PR.one (w := w) (pr := g.pr) (v := .sl T l) h)).elim
  | ifv t T x => exact (one (PR.one (w := w) (pr := g.pr) (v := .ifv t T x) h)).elim
  | fnv t T x => exact (one (PR.one (w := w) (pr := g.pr) (v := .fnv t T x) h)).elim
  | imm T x => exact (one (PR.one (w := w) (pr := g.pr) (v := .imm T x) h)).elim
theorem boxesOK_get : ∀ {l : List (Nat × Nat)}, boxesOK s l = true → ∀ b n, (b, n) ∈ l → ∃ cs, s.boxes b = some cs ∧ cs.length = n ∧ cs.any isFz = false
  | [], _, b, n, h => by simp at h
  | (b', n') :: l, hk, b, n, h => by
    simp only [boxesOK] at hk
    split at hk
    · rename_i cs hcs
      cases hn : Nat.beq cs.length n' with
      | false => rw [hn] at hk; cases hk
      | true =>
        rw [hn] at hk
        cases hf : cs.any isFz with
        | true => rw [hf] at hk; cases hk
        | false =>
        rw [hf] at hk
        rcases List.mem_cons.1 h with e | h
        · cases e; exact ⟨cs, hcs, Nat.eq_of_beq_eq_true hn, hf⟩
        · exact boxesOK_get hk b n h
    · cases hk
theorem tbl_mem {α : Type} {d : α} : ∀ {l : List (Nat × α)} {t : Nat}, (t, tbl d l t) ∈ l ∨ (tbl d l t = d ∧ ∀ x, (t, x) ∉ l)
  | [], t => .inr ⟨rfl, by simp⟩
  | (n, v) :: l, t => by
    cases hb : Nat.beq t n with
    | true => have := Nat.eq_of_beq_eq_true hb; subst this; exact .inl (by simp [tbl])
    | false =>
      have hne : t ≠ n := fun e => by subst e; rw [Nat.beq_refl] at hb; cases hb
      rcases tbl_mem (d := d) (l := l) (t := t) with h | ⟨h1, h2⟩
      · exact .inl (by simp only [tbl, hb, cond_false]; exact .tail _ h)
      · refine .inr ⟨by simp only [tbl, hb, cond_false]; exact h1, fun x hx => ?_⟩
        rcases List.mem_cons.1 hx with e | hx
        · cases e; exact hne rfl
        · exact h2 x hx
theorem tbl_of_nodup {α : Type} {d : α} : ∀ {l : List (Nat × α)} {t : Nat} {x : α}, (l.map (·.1)).Nodup → (t, x) ∈ l → tbl d l t = x
  | [], _, _, _, h => by simp at h
  | (n, v) :: l, t, x, hn, h => by
    simp only [List.map_cons, List.nodup_cons] at hn
    rcases List.mem_cons.1 h with e | h2
    · cases e; simp [tbl]
    · have hne : t ≠ n := fun e => hn.1 (by subst e; exact List.mem_map_of_mem (f := fun x : Nat × α => x.1) h2)
      have hb : Nat.beq t n = false := by
        cases hb : Nat.beq t n with
        | false => rfl
        | true => exact absurd (Nat.eq_of_beq_eq_true hb) hne
      simp only [tbl, hb, cond_false]
      exact tbl_of_nodup hn.2 h2
end
end Go.Proofs.Ytjonpmckkmnemaa.Th
end
