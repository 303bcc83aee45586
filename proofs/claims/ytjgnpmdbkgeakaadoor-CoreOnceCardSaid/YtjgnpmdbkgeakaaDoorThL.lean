/- THEORY, part L: rows that are made: literals, make, append, conversions, cuts. No condition. -/
import Derived.Test.YtjgnpmdbkgeakaaDoorThK
import Derived.Laws.NewFold
set_option linter.unusedVariables false
set_option linter.unusedSimpArgs false
namespace Go.Proofs.YtjgnpmdbkgeakaaDoor.Th
open Go Go.RowKit

section
variable {P : Program} {TI : TEnv} {C : FuncId → List AV → AV → Prop} {Rd : Rs → Prop} {B : Bd} {N : Nat} {g g' : Gh} {s : S} {w w' : World} {a : Act} {o : Oper} {ws : List Wr}

/-- a row that has just been laid gets a token -/
theorem Rel.newTokAt (h : Rel B g s w a N) {t : Nat} (ht : s.toks t = .abs) {T : Ty} {l : List T.den} {us : Array Value} (e : TypeId) {fr : Nat × Nat} {cap : Nat} (hfr : Thawed fr us.size) (hl : l.length ≤ cap) (hc : cap * T.size ≤ us.size)
    (hr : RowOf w g.pr T l us) : ∃ g' tg, Rel B g' (s.put (.tok t (.live false T l))) (w.alloc (.cells us e fr)) a N ∧ g'.τ t = some tg ∧ tg.val = .slice (some ⟨w.heap.size, 0, none⟩) l.length cap := by
  obtain ⟨h1, k1⟩ := h.alloc (.cells us e fr)
  have hf : Fresh g s w.heap.size := h.fresh (Nat.le_refl _)
  have hno : ∀ o, ¬ g.pr w.heap.size o := fun o p => by have := h.prlt _ o p; omega
  obtain ⟨h2, _⟩ := h1.newTok (sh := false) (T := T) (l := l) (tg := ⟨.slice (some ⟨w.heap.size, 0, none⟩) l.length cap, some w.heap.size, T.size⟩) ht (fun k hk => by cases hk; exact hf)
    ⟨rfl, .inr ⟨w.heap.size, cap, rfl, rfl, .inl h.hB, hl, ⟨us, e, fr, alloc_new w _, hfr, hc, hr.keeps k1.pr⟩, fun o p => absurd p (hno o), (fun x => by cases x), fun _ => hno⟩⟩
  exact ⟨_, _, h2, by simp [upd_same]; rfl, rfl⟩

theorem VR_ref {t : Nat} {tg : TG} (h : g.τ t = some tg) {ad : Option Addr} {n c : Nat} (hv : tg.val = .slice ad n c) : VR w g (.ref t) (.slice ad n c) :=
  ⟨tg, h, hv.symm, rfl⟩

/-! ### literals -/
theorem fold_set (vs : List Value) : ∀ (i off : Nat) (cs : Array Value), off + i + vs.length ≤ cs.size →
    (vs.zipIdx i).foldl (fun cs (x : Value × Nat) => cs.setIfInBounds (off + x.2) x.1) cs = (over cs.toList (off + i) vs).toArray := by
  induction vs with
  | nil => intro i off cs h; simp [over]
  | cons v vs ih =>
    intro i off cs h
    simp only [List.length_cons] at h
    simp only [List.zipIdx_cons, List.foldl_cons]
    rw [ih (i + 1) off _ (by simp; omega)]
    congr 1
    apply List.ext_getElem?
    intro j
    rw [over_get (by simp; omega), over_get (by simp; omega)]
    simp only [Array.toList_setIfInBounds, List.length_cons, List.getElem?_set, Array.length_toList]
    by_cases a : j < off + i
    · rw [if_pos (by omega), if_pos a, if_neg (by omega)]
    · by_cases b : j = off + i
      · subst b
        rw [if_pos (by omega), if_pos rfl, if_pos (by omega), if_neg (by omega), if_pos (by omega)]
        simp
      · rw [if_neg a]
        by_cases c : j < off + i + (vs.length + 1)
        · rw [if_neg (by omega), if_pos (by omega), if_pos c]
          obtain ⟨m, rfl⟩ : ∃ m, j = off + (i + 1) + m := ⟨j - (off + (i + 1)), by omega⟩
          rw [show off + (i + 1) + m - (off + (i + 1)) = m from by omega, show off + (i + 1) + m - (off + i) = m + 1 from by omega, List.getElem?_cons_succ]
        · rw [if_neg (by omega), if_neg (by omega), if_neg c, if_neg (by omega)]

theorem fill_step {place : Nat → Option (Nat × Nat)} {cells : Array Value} {i off size : Nat} {v : Value} {rest : List (Nat × Value)} (hp : place i = some (off, size)) (hs : v.cells.size = size) (hfit : off + size ≤ cells.size) :
    Instr.fill place cells ((i, v) :: rest) = Instr.fill place (over cells.toList off v.cells.toList).toArray rest := by
  rw [Instr.fill]
  have h1 : ¬ (v.cells.size ≠ size ∨ off + v.cells.size > cells.size) := by omega
  simp only [hp]
  have h2 : ¬ ((decide (v.cells.size ≠ size) || decide (off + v.cells.size > cells.size)) = true) := by simp; omega
  rw [if_neg h2]
  congr 1
  have := fold_set v.cells.toList 0 off cells (by simp; omega)
  simp only [Nat.add_zero] at this
  rw [← this, ← Array.foldl_toList, Array.toList_zipIdx]

theorem rowOf_zero {pr : Nat → Nat → Prop} {T : Ty} {zs : List Value} (hz : TR w pr T T.dflt zs) (n : Nat) : RowOf w pr T (List.replicate n T.dflt) ((Array.range (n * T.size)).map (zs.toArray[· % zs.toArray.size]!)) := by
  have hl := hz.len
  intro j x hx
  have hj : j < n := by have := (List.getElem?_eq_some_iff.1 hx).1; simpa using this
  rw [List.getElem?_replicate, if_pos hj] at hx
  cases hx
  refine ⟨zs, hl, fun i v hv => ?_, hz⟩
  have hi : i < T.size := by rw [← hl]; exact (List.getElem?_eq_some_iff.1 hv).1
  have hlt : j * T.size + i < n * T.size := by
    have : (j + 1) * T.size ≤ n * T.size := Nat.mul_le_mul_right _ hj
    have : (j + 1) * T.size = j * T.size + T.size := by rw [Nat.add_mul]; omega
    omega
  have hmod : (j * T.size + i) % T.size = i := by rw [Nat.mul_comm, Nat.mul_add_mod]; exact Nat.mod_eq_of_lt hi
  rw [Array.getElem?_map, Array.getElem?_range, if_pos hlt]
  simp only [Option.map_some, Option.some.injEq, List.size_toArray, hl, hmod]
  have : i < zs.length := by omega
  rw [List.getElem!_toArray, List.getElem!_eq_getElem?_getD, hv]; rfl

theorem litv_row {pr : Nat → Nat → Prop} {T : Ty} {place : Nat → Option (Nat × Nat)} (hpl : ∀ i, place i = some (i * T.size, T.size)) :
    ∀ {js : List Nat} {vs : List AV} {xs : List Value} {l l' : List T.den} {us : Array Value}, js.length = vs.length → All2 (PV w pr) vs xs → litv T l (js.zip vs) = some l' → RowOf w pr T l us → l.length * T.size ≤ us.size →
      ∃ us', Instr.fill place us (js.zip xs) = some us' ∧ us'.size = us.size ∧ l'.length = l.length ∧ RowOf w pr T l' us' := by
  intro js
  induction js with
  | nil =>
    intro vs xs l l' us hn hv hl hr hs
    simp only [List.zip_nil_left, litv, Option.some.injEq] at hl
    subst hl
    exact ⟨us, by simp [Instr.fill], rfl, rfl, hr⟩
  | cons j js ih =>
    intro vs xs l l' us hn hv hl hr hs
    cases vs with
    | nil => simp at hn
    | cons v vs =>
      cases xs with
      | nil => exact hv.elim
      | cons x xs =>
        simp only [List.zip_cons_cons, litv] at hl ⊢
        cases hq : decide (j < l.length) with
        | false => rw [hq] at hl; cases hl
        | true =>
          cases ho : T.ofCells v.cells with
          | none => rw [hq, ho] at hl; cases hl
          | some y =>
            rw [hq, ho] at hl
            have hj : j < l.length := by simpa using hq
            have htr := ofCells_TR ho hv.1.cells
            have hxs : x.cells.size = T.size := by have := htr.len; simpa using this
            have hjs : (j + 1) * T.size ≤ l.length * T.size := Nat.mul_le_mul_right _ hj
            have hjs2 : (j + 1) * T.size = j * T.size + T.size := by rw [Nat.add_mul]; omega
            rw [fill_step (hpl j) hxs (by omega)]
            have hrow := rowOf_set (x := y) (off := 0) (xs := x.cells.toList) hr hj (by simp [hxs]) hs (by
              intro vs0 n0 _ _
              have e : over vs0 0 x.cells.toList = x.cells.toList := by
                simp only [over, List.take_zero, List.nil_append, Nat.zero_add, Array.length_toList]
                rw [List.drop_of_length_le (by omega), List.append_nil]
              rw [e]; exact htr)
            have hsz : (over us.toList (j * T.size + 0) x.cells.toList).toArray.size = us.size := by
              rw [List.size_toArray, over_len (by simp; omega)]; simp
            obtain ⟨us', a1, a2, a3, a4⟩ := ih (by simpa using hn) hv.2 hl hrow (by rw [hsz]; simpa using hs)
            exact ⟨us', by simpa using a1, by rw [a2, hsz], by simpa using a3, a4⟩

theorem zip_unzip {α β γ : Type} (ps : List (α × β)) (f : β → γ) : ps.map (fun p => (p.1, f p.2)) = (ps.map (·.1)).zip ((ps.map (·.2)).map f) := by
  induction ps with
  | nil => rfl
  | cons p ps ih => simp [ih]

theorem All2_zip {R : AV → Value → Prop} : ∀ {js : List Nat} {vs : List AV} {xs : List Value}, js.length = vs.length → All2 R vs xs → ((js.zip vs).map (·.2)) = vs ∧ ((js.zip vs).map (·.1)) = js
  | [], [], _, _, _ => ⟨rfl, rfl⟩
  | j :: js, v :: vs, x :: xs, h, hv => by
    obtain ⟨a, b⟩ := All2_zip (js := js) (by simpa using h) hv.2
    simp [a, b]
  | _ :: _, _ :: _, [], _, hv => hv.elim
  | [], _ :: _, _, h, _ => by simp at h
  | _ :: _, [], _, h, _ => by simp at h

theorem goes_buildSlice (hT : TIok P TI) (h : Rel B g s w a N) (hd : ∀ t, o.dst = some t → t < N) {t : TypeId} {len : Nat} {ps : Array (Nat × Operand)} (ho : o.op = .buildSlice t len ps)
    (he0 : (rdvs (ps.toList.map (·.2)) fun vs => pgBuildSlice TI o.dst t len ((ps.toList.map (·.1)).zip vs)).Ev C Rd s ws) : Goes P B N o s w a ws := by
  obtain ⟨vs, hv, he⟩ := rdvs_ev h he0
  clear he0
  have hlen : (ps.toList.map (·.1)).length = vs.length := by have := hv.len; simpa using this.symm
  obtain ⟨z1, z2⟩ := All2_zip hlen hv
  unfold pgBuildSlice at he
  cases hdst : o.dst with
  | none => rw [hdst] at he; exact he.elim
  | some tt =>
    rw [hdst] at he
    simp only [z1, z2] at he
    obtain ⟨vs', ws', g1, he, hp, h2, hk, hv2⟩ := snaps_ev (Promo.refl s) (by simpa [S.puts] using h) hv he
    unfold tinf at he
    cases hi : TI t with
    | none => rw [hi] at he; exact he.elim
    | some i =>
      rw [hi] at he
      obtain ⟨ti, d, z, T⟩ := hT.get hi
      cases hkn : i.kn with
      | slice e =>
        simp only [hkn] at he
        cases hei : TI e with
        | none => rw [hei] at he; exact he.elim
        | some ei =>
          rw [hei] at he
          simp only [] at he
          obtain ⟨ti2, d2, z2', E⟩ := hT.get hei
          cases hq : ei.rep && decide (len * ei.size ≤ 16777216) with
          | false => rw [hq] at he; simp only [] at he; exact he.elim
          | true =>
            cases hl : litv ei.ty (List.replicate len ei.ty.dflt) ((ps.toList.map (·.1)).zip vs') with
            | none => rw [hq, hl] at he; exact he.elim
            | some l =>
              rw [hq, hl] at he
              simp only [Bool.and_eq_true, decide_eq_true_eq] at hq
              obtain ⟨_, he⟩ := he
              have hlen' : (ps.toList.map (·.1)).length = vs'.length := by rw [hlen, hv.len, hv2.len]
              have hz : TR w g1.pr ei.ty ei.ty.dflt z2'.cells.toList := zOf_TR (E.zrep hq.1)
              have hrow0 := rowOf_zero hz len
              have hsz0 : (List.replicate len ei.ty.dflt).length * ei.ty.size ≤ ((Array.range (len * ei.ty.size)).map (z2'.cells.toList.toArray[· % z2'.cells.toList.toArray.size]!)).size := by simp
              obtain ⟨us', f1, f2, f3, f4⟩ := litv_row (place := fun i => some (i * ei.size, ei.size)) (fun i => by rw [E.tysz]) hlen' hv2 hl hrow0 hsz0
              cases ht : s.toks tt with
              | dead => rw [ht] at he; exact he.elim
              | live _ _ _ => rw [ht] at he; exact he.elim
              | abs =>
                rw [ht] at he
                have : ws = _ := he
                subst this
                have habs : (s.puts ws').toks tt = .abs := by
                  rcases hp.toks tt with e | ⟨_, _, e, _⟩
                  · rw [e, ht]
                  · rw [ht] at e; cases e
                have hlen2 : l.length = len := by rw [f3]; simp
                have hussz : us'.size = len * ei.ty.size := by rw [f2]; simp
                obtain ⟨g2, tg, h3, hτ, htv⟩ := h2.newTokAt habs (us := us') e (fr := (0, 0)) (cap := len) (thawed0 _) (by omega) (by omega) f4
                have h4 := h3.tmp (VR_ref hτ htv) (hd tt hdst)
                refine goes_value (g' := g2) (w' := w.alloc (.cells us' e)) (u := .slice (some ⟨w.heap.size, 0, none⟩) l.length len) ?_ (by rw [hdst, S.puts_append]; exact h4) (below_alloc h _)
                have hun := T.slice hkn
                have hfill : Instr.fill (fun i => some (i * ei.size, ei.size)) ((Array.range (len * ei.size)).map ((if len * ei.size = 0 then #[] else z2'.cells)[· % (if len * ei.size = 0 then #[] else z2'.cells).size]!)) (ps.map fun (i, x) => (i, a.eval x)).toList = some us' := by
                  have e1 : (ps.map fun (i, x) => (i, a.eval x)).toList = (ps.toList.map (·.1)).zip ((ps.toList.map (·.2)).map a.eval) := by
                    rw [Array.toList_map]; exact zip_unzip _ _
                  rw [e1]
                  by_cases h0 : len * ei.size = 0
                  · have : (Array.range (len * ei.ty.size)) = #[] := by rw [E.tysz, h0]; rfl
                    rw [this] at f1
                    rw [h0, show (Array.range 0) = #[] from rfl]
                    simpa using f1
                  · rw [if_neg h0]
                    rw [E.tysz] at f1
                    simpa using f1
                have hroom : ¬ (len * ei.size > 2 ^ 24) := by omega
                have hmap : (ps.map fun (x : Nat × Operand) => (x.fst, a.eval x.snd)).toList = (ps.map fun (i, x) => (i, a.eval x)).toList := rfl
                simp only [execOp, ho, Instr.buildSlice, Sem.run_bind, run_underlying hun, Result.andThen_ok, E.sizeOf, hroom, if_false, Sem.run_ite]
                by_cases h0 : len * ei.size = 0
                · rw [if_pos h0] at hfill ⊢
                  simp only [Sem.run_bind, Sem.run_pure, Result.andThen_ok, hmap, hfill, newRow, run_newObj_alloc, hlen2]
                · rw [if_neg h0] at hfill ⊢
                  simp only [Sem.run_bind, Sem.run_pure, Result.andThen_ok, zeroValue, typeInfo, run_program, E.info, E.zero, hmap, hfill, newRow, run_newObj_alloc, hlen2]
      | _ => simp only [hkn] at he; exact he.elim

/-! ### make -/
theorem goes_makeSlice (hT : TIok P TI) (h : Rel B g s w a N) (hd : ∀ t, o.dst = some t → t < N) {t : TypeId} {x y : Operand} (ho : o.op = .makeSlice t x y)
    (he0 : (rdv x fun n => rdv y fun c => pgMakeSlice TI o.dst t n c).Ev C Rd s ws) : Goes P B N o s w a ws := by
  obtain ⟨p, hp, he1⟩ := rdv_ev h he0
  obtain ⟨q, hq, he⟩ := rdv_ev h he1
  clear he0 he1
  unfold pgMakeSlice at he
  split at he
  · rename_i tt k n k' c hdst
    have hx := VR_int hp
    have hy := VR_int hq
    unfold tinf at he
    cases hi : TI t with
    | none => rw [hi] at he; exact he.elim
    | some i =>
      rw [hi] at he
      obtain ⟨ti, d, z, T⟩ := hT.get hi
      cases hkn : i.kn with
      | slice e =>
        simp only [hkn] at he
        cases hei : TI e with
        | none => rw [hei] at he; exact he.elim
        | some ei =>
          rw [hei] at he
          simp only [] at he
          obtain ⟨ti2, d2, z2', E⟩ := hT.get hei
          obtain ⟨hrep, h0, hnc, hc47, hcb, _, he⟩ := he
          have h0 : 0 ≤ n := by simpa using h0
          have hnc : n ≤ c := by simpa using hnc
          have hc47 : c ≤ 140737488355328 := by simpa using hc47
          have hcb : c * (ei.bytes : Int) ≤ 140737488355328 := by simpa using hcb
          cases ht : s.toks tt with
          | dead => rw [ht] at he; exact he.elim
          | live _ _ _ => rw [ht] at he; exact he.elim
          | abs =>
            rw [ht] at he
            have : ws = _ := he
            subst this
            have hz : TR w g.pr ei.ty ei.ty.dflt z2'.cells.toList := zOf_TR (E.zrep hrep)
            have hrow0 := rowOf_zero hz c.toNat
            have hrow : RowOf w g.pr ei.ty (List.replicate n.toNat ei.ty.dflt) ((Array.range (c.toNat * ei.ty.size)).map (z2'.cells.toList.toArray[· % z2'.cells.toList.toArray.size]!)) := by
              intro j x hx
              refine hrow0 j x ?_
              rw [List.getElem?_replicate] at hx ⊢
              split at hx
              · rw [if_pos (by omega)]; exact hx
              · cases hx
            obtain ⟨g2, tg, h3, hτ, htv⟩ := h.newTokAt ht (us := (Array.range (c.toNat * ei.ty.size)).map (z2'.cells.toList.toArray[· % z2'.cells.toList.toArray.size]!)) e (fr := (0, 0)) (cap := c.toNat) (thawed0 _) (by simp; omega) (by simp) hrow
            have h4 := h3.tmp (VR_ref hτ htv) (hd tt hdst)
            rw [List.length_replicate] at h4
            refine goes_value (g' := g2) (w' := w.alloc (.cells ((Array.range (c.toNat * ei.ty.size)).map (z2'.cells.toList.toArray[· % z2'.cells.toList.toArray.size]!)) e)) (u := .slice (some ⟨w.heap.size, 0, none⟩) n.toNat c.toNat) ?_ (by rw [hdst]; exact h4) (below_alloc h _)
            have hun := T.slice hkn
            have hw1 : IntKind.i64.wrap n = n := by
              have e1 : (2 : Int) ^ IntKind.i64.bits = 18446744073709551616 := rfl
              have e2 : (2 : Int) ^ (IntKind.i64.bits - 1) = 9223372036854775808 := rfl
              unfold IntKind.wrap
              simp only [e1, e2]
              have : n % 18446744073709551616 = n := Int.emod_eq_of_lt h0 (by omega)
              rw [this]
              simp; omega
            have hw2 : IntKind.i64.wrap c = c := by
              have e1 : (2 : Int) ^ IntKind.i64.bits = 18446744073709551616 := rfl
              have e2 : (2 : Int) ^ (IntKind.i64.bits - 1) = 9223372036854775808 := rfl
              unfold IntKind.wrap
              simp only [e1, e2]
              have : c % 18446744073709551616 = c := Int.emod_eq_of_lt (by omega) (by omega)
              rw [this]
              simp; omega
            have hmul : (ei.bytes : Int) * c = c * ei.bytes := Int.mul_comm _ _
            have hbig : ((decide (c < 0) || decide ((ei.bytes : Int) * c > 2 ^ 48)) || decide (n < 0) || decide (n > c)) = false := by
              have : (2 : Int) ^ 48 = 281474976710656 := rfl
              rw [hmul, this]
              simp; omega
            have hb2 : ¬ (((c < 0 ∨ (ei.bytes : Int) * c > 2 ^ 48) ∨ n < 0) ∨ n > c) := by
              have : (2 : Int) ^ 48 = 281474976710656 := rfl
              rw [hmul, this]; omega
            simp only [execOp, ho, hx, hy, Instr.makeSlice, Sem.run_bind, run_underlying hun, Result.andThen_ok, asInt, asIntOf, Sem.run_pure, typeInfo, run_program, E.info, hw1, hw2, E.bytes, hbig, Bool.false_eq_true, if_false, run_askRoom, E.sizeOf, Sem.run_ite]
            by_cases hz0 : c.toNat * ei.size = 0
            · rw [if_pos hz0]
              simp only [Sem.run_bind, Sem.run_pure, Result.andThen_ok, newRow, run_newObj_alloc]
              congr 3
              rw [E.tysz, hz0, show Array.range 0 = #[] from rfl]; simp
            · rw [if_neg hz0]
              simp only [Sem.run_bind, Sem.run_pure, Result.andThen_ok, zeroValue, typeInfo, run_program, E.info, E.zero, newRow, run_newObj_alloc]
              congr 3
              rw [E.tysz]
      | _ => simp only [hkn] at he; exact he.elim
  · exact he.elim

/-! ### append -/
/-- what is appended: m elements, of these cells -/
structure Src (P : Program) (w : World) (xt : TypeId) (x : Value) (size m : Nat) (news : List Value) : Prop where
  und : ∃ dx, P.underlying xt = some dx ∧ (∀ k, dx ≠ .int k)
  len : ∀ w' : World, (Builtin.lenOf x).run P w' = .ok m w'
  cells : ∀ w' : World, w'.heap = w.heap → (Builtin.firstCells size m x).run P w' = .ok news.toArray w'
  sz : news.length = m * size
  one : ∀ v ∈ news, v.oneCell' = true

theorem cell_same_heap {w w' : World} (h : w'.heap = w.heap) (ad : Addr) : w'.cell? ad = w.cell? ad := by simp [World.cell?, h]

theorem notInt {dx : TypeDesc} (h : ∀ k, dx ≠ .int k) : (match dx with | .int _ => true | _ => false) = false := by
  cases dx <;> first | rfl | (rename_i k; exact absurd rfl (h k))

theorem run_append_fit {t xt ty e : TypeId} {ei : TInfo} {ti2 : TypeInfo} {d2 : TypeDesc} {z2 : Value} (E : TypeIs P e ei ti2 d2 z2) (ht : P.underlying t = some (.slice e)) {x : Value} {m : Nat} {news : List Value} (hs : Src P w xt x ei.size m news)
    {k n cap : Nat} {us : Array Value} {el : TypeId} {fr : Nat × Nat} (hr : w.heap[k]? = some (.cells us el fr)) (hfr : Thawed fr us.size) (hfit : n + m ≤ cap) (hsz : cap * ei.size ≤ us.size) :
    (Builtin.append_ #[t, xt] ty #[.slice (some ⟨k, 0, none⟩) n cap, x]).run P w = .ok (.slice (some ⟨k, 0, none⟩) (n + m) cap) (w.setRow k (over us.toList (n * ei.size) news).toArray) := by
  obtain ⟨dx, hdx, hni⟩ := hs.und
  have hfit2 : n * ei.size + m * ei.size ≤ us.size := by
    have : (n + m) * ei.size ≤ cap * ei.size := Nat.mul_le_mul_right _ hfit
    rw [Nat.add_mul] at this; omega
  have hst := run_storeRow (P := P) news (n * ei.size) 0 w us hr hfr (by rw [hs.sz]; omega) hs.one
  simp only [Nat.add_zero] at hst
  have hn := notInt hni
  unfold Builtin.append_
  simp only [List.getElem?_toArray, List.getElem?_cons_zero, List.getElem?_cons_succ, Sem.run_bind, run_underlying ht, run_underlying hdx, Result.andThen_ok, E.sizeOf, Sem.run_pure, hn, Bool.false_eq_true, if_false, hs.len, Sem.run_ite, hfit, if_true, Bool.not_false, hs.cells w rfl, addr_add, Nat.zero_add, hst]

theorem run_append_new {t xt ty e : TypeId} {ei : TInfo} {ti2 : TypeInfo} {d2 : TypeDesc} {z2 : Value} (E : TypeIs P e ei ti2 d2 z2) (ht : P.underlying t = some (.slice e)) {x : Value} {m : Nat} {news : List Value} (hs : Src P w xt x ei.size m news)
    {ad : Option Addr} {n cap : Nat} {olds : List Value} (ho : ∀ w' : World, w'.heap = w.heap → (Builtin.firstCells ei.size n (.slice ad n cap)).run P w' = .ok olds.toArray w') (hg : ¬ n + m ≤ cap)
    (hb : (n + m) * ei.bytes ≤ 140737488355328) (hpos : 0 < ei.bytes) :
    (Builtin.append_ #[t, xt] ty #[.slice ad n cap, x]).run P w = .ok (.slice (some ⟨w.heap.size, 0, none⟩) (n + m) (grownCap w (n + m) cap e))
      (w.drew.alloc (.cells (olds.toArray ++ news.toArray ++ Builtin.zeroCells z2.cells (grownCap w (n + m) cap e - (n + m))) e)) := by
  obtain ⟨dx, hdx, hni⟩ := hs.und
  have hn := notInt hni
  have hle : n + m ≤ (n + m) * ei.bytes := Nat.le_mul_of_pos_right _ hpos
  have hfit := growslice_fits (need := n + m) (old := cap) (bytes := ei.bytes) (by omega) hb
  have h48 : ¬ (Builtin.nextslicecap (n + m) cap * ei.bytes > 2 ^ 48) := by
    have : (2 : Nat) ^ 48 = 281474976710656 := rfl
    rw [this]; omega
  have h63 : ¬ (((n + m : Nat) : Int) > IntKind.i64.max ∧ (False ∨ ei.bytes = 0)) := by
    have : IntKind.i64.max = 9223372036854775807 := by decide
    rw [this]; omega
  unfold Builtin.append_
  simp only [List.getElem?_toArray, List.getElem?_cons_zero, List.getElem?_cons_succ, Sem.run_bind, run_underlying ht, run_underlying hdx, Result.andThen_ok, E.sizeOf, Sem.run_pure, hn, Bool.false_eq_true, if_false, hs.len, Sem.run_ite, hg,
    typeInfo, run_program, E.info, E.bytes, h63, h48, run_askRoom, Bool.not_false, if_true, run_choose_drew, Question.forced, hs.cells w.drew rfl, ho w.drew rfl, zeroValue, E.zero, newRow, run_newObj_alloc]
  rfl

/-- cells of a block that is nobody's are protected from now on -/
theorem Rel.protect (h : Rel B g s w a N) {k n : Nat} (hf : Fresh g s k) (hBk : B.mine k) (hk : k < w.heap.size) :
    Rel B { g with pr := fun i o => g.pr i o ∨ (i = k ∧ o < n) } s w a N ∧ Keeps w g w { g with pr := fun i o => g.pr i o ∨ (i = k ∧ o < n) } := by
  have hke : Keeps w g w { g with pr := fun i o => g.pr i o ∨ (i = k ∧ o < n) } := ⟨fun _ _ p => ⟨.inl p, rfl⟩, fun _ _ x => x, fun _ _ x => x⟩
  refine ⟨⟨h.df, h.nt, h.hB, fun t => (h.tm t).keeps hke, ?_, h.bx0, ?_, h.binj, h.tk0, ?_, h.tinj, h.tbx, fun i o hi => (show (g.pr i o ∨ (i = k ∧ o < n)) ↔ B.pr i o from (or_iff_left (fun (q : i = k ∧ o < n) => hi (q.1.symm ▸ hBk))).trans (h.prB i o hi)), h.ex.keep hke (fun _ h => h)⟩, hke⟩
  · rintro i o (p | ⟨rfl, _⟩)
    · exact h.prlt i o p
    · exact hk
  · intro b cs hb
    obtain ⟨i, e, ab, fr, us, el, f, r1, r2, r3⟩ := h.bx b cs hb
    refine ⟨i, e, ab, ?_, us, el, f, r1, r2, r3.imp fun _ _ => LR.keeps hke⟩
    rintro o (p | ⟨rfl, _⟩)
    · exact fr o p
    · exact (hf.β b e).elim
  · intro t sh T l ht
    obtain ⟨tg, e, ez, r⟩ := h.tk t sh T l ht
    refine ⟨tg, e, ez, r.imp id ?_⟩
    rintro ⟨i, cap, a1, a2, a3⟩
    have hne : i ≠ k := fun e' => hf.τ t tg (by rw [ht]; rfl) e (by rw [a2, e'])
    obtain ⟨us, el, f, r1, r2, r3, r4⟩ := a3.row
    have hq : ∀ o, (g.pr i o ∨ (i = k ∧ o < n)) → g.pr i o := by
      rintro o (p | ⟨e', _⟩)
      · exact p
      · exact absurd e' hne
    exact ⟨i, cap, a1, a2, a3.above, a3.len, ⟨us, el, f, r1, r2, r3, r4.keeps hke.pr⟩, fun o p => a3.prlt o (hq o p), fun e o p => .inl (a3.prsh e o p), fun e o p => a3.prno e o (hq o p)⟩

/-- a token over a row of one's own, of which the first cells may be protected -/
theorem Rel.newTokSh (h : Rel B g s w a N) {t k cap : Nat} {sh : Bool} {T : Ty} {l : List T.den} (ht : s.toks t = .abs) (hf : Fresh g s k) (hB : B.mine k) {us : Array Value} {e : TypeId} {fr : Nat × Nat}
    (hr : w.heap[k]? = some (.cells us e fr)) (hfr : Thawed fr us.size) (hl : l.length ≤ cap) (hc : cap * T.size ≤ us.size) (hrow : RowOf w g.pr T l us) (hp : ∀ o, g.pr k o → o < l.length * T.size) (hno : sh = false → ∀ o, ¬ g.pr k o) :
    ∃ g' tg, Rel B g' (s.put (.tok t (.live sh T l))) w a N ∧ g'.τ t = some tg ∧ tg.val = .slice (some ⟨k, 0, none⟩) l.length cap := by
  cases sh with
  | false =>
    obtain ⟨h2, _⟩ := h.newTok (sh := false) (T := T) (l := l) (tg := ⟨.slice (some ⟨k, 0, none⟩) l.length cap, some k, T.size⟩) ht (fun k' hk => by cases hk; exact hf)
      ⟨rfl, .inr ⟨k, cap, rfl, rfl, hB, hl, ⟨us, e, fr, hr, hfr, hc, hrow⟩, hp, (fun x => by cases x), hno⟩⟩
    exact ⟨_, _, h2, by simp [upd_same]; rfl, rfl⟩
  | true =>
    obtain ⟨h1, k1⟩ := h.protect (n := l.length * T.size) hf hB (Array.getElem?_eq_some_iff.1 hr).1
    obtain ⟨h2, _⟩ := h1.newTok (sh := true) (T := T) (l := l) (tg := ⟨.slice (some ⟨k, 0, none⟩) l.length cap, some k, T.size⟩) ht (fun k' hk => by cases hk; exact ⟨hf.β, hf.τ⟩)
      ⟨rfl, .inr ⟨k, cap, rfl, rfl, hB, hl, ⟨us, e, fr, hr, hfr, hc, hrow.keeps k1.pr⟩, (fun o p => p.elim (hp o) (fun q => q.2)), (fun _ o p => .inr ⟨rfl, p⟩), (fun x => by cases x)⟩⟩
    exact ⟨_, _, h2, by simp [upd_same]; rfl, rfl⟩

theorem execOp_append {x y : Operand} {t xt : TypeId} (ho : o.op = .call { callee := .builtin .append, args := #[x, y], argTypes := #[t, xt] }) {v : Value}
    (hr : (Builtin.append_ #[t, xt] o.type #[a.eval x, a.eval y]).run P w = .ok v w') : (execOp a.eval o).run P w = .ok (.value v) w' := by
  simp [execOp, ho, resolve, invoke, builtin, hr]

theorem Src.of_reads {pr : Nat → Nat → Prop} {xt e : TypeId} {T : Ty} {m : List T.den} {x : Value} {size : Nat} (hx : P.underlying xt = some (.slice e)) (hT : T.size = size) (hr : Reads w pr T m x) :
    ∃ news, Src P w xt x size m.length news ∧ ∀ (j : Nat) (y : T.den), m[j]? = some y → ∃ vs, vs.length = T.size ∧ (∀ (i : Nat) (v : Value), vs[i]? = some v → news[j * T.size + i]? = some v) ∧ TR w pr T y vs := by
  obtain ⟨ad, c, news, rfl, hc, hl, hnil, hcell, h1, hrow⟩ := hr.flat
  refine ⟨news, ⟨⟨_, hx, fun k e => by cases e⟩, fun w' => rfl, fun w' hw' => ?_, by rw [hl, hT], h1⟩, hrow⟩
  cases ad with
  | none =>
    have := hnil rfl; subst this
    have : news = [] := List.eq_nil_of_length_eq_zero (by simpa using hl)
    subst this; rfl
  | some ad =>
    refine run_firstCells_some w' size m.length ad m.length c news (by rw [hl, hT]) ?_
    intro j v hv
    rw [cell_same_heap hw']; exact hcell ad rfl j v hv

theorem Src.of_str {pr : Nat → Nat → Prop} {xt : TypeId} {b : List UInt8} (hx : P.underlying xt = some .string) :
    ∃ news, Src P w xt (strV b) 1 b.length news ∧ ∀ (j : Nat) (y : Int), (toBytes b)[j]? = some y → ∃ vs, vs.length = (Ty.int .u8).size ∧ (∀ (i : Nat) (v : Value), vs[i]? = some v → news[j * (Ty.int .u8).size + i]? = some v) ∧ TR w pr (.int .u8) y vs := by
  refine ⟨b.map fun x => .int .u8 (x.toNat : Int), ⟨⟨_, hx, fun k e => by cases e⟩, fun w' => ?_, fun w' _ => ?_, by simp, ?_⟩, ?_⟩
  · simp [strV, Builtin.lenOf, ByteArray.size]
  · simp only [strV, Builtin.firstCells, Sem.run_pure]
    congr 1
    have hs : b.length = (⟨b.toArray⟩ : ByteArray).size := by simp [ByteArray.size]
    rw [hs]
    have : (⟨b.toArray⟩ : ByteArray).extract 0 (⟨b.toArray⟩ : ByteArray).size = ⟨b.toArray⟩ := ByteArray.extract_zero_size
    rw [this]
    simp
  · intro v hv
    simp only [List.mem_map] at hv
    obtain ⟨x, _, rfl⟩ := hv; rfl
  · intro j y hy
    simp only [toBytes, List.getElem?_map] at hy
    refine ⟨[.int .u8 y], rfl, fun i v hv => ?_, rfl⟩
    have hi : i = 0 := by have := (List.getElem?_eq_some_iff.1 hv).1; simpa using this
    subst hi
    simp at hv; subst hv
    simp only [Ty.size, Nat.mul_one, Nat.add_zero, List.getElem?_map]
    cases hb : b[j]? with
    | none => rw [hb] at hy; cases hy
    | some x => rw [hb] at hy; simp at hy ⊢; exact hy

theorem rowOf_append {pr : Nat → Nat → Prop} {T : Ty} {l m : List T.den} {us us' : Array Value} {news : List Value} (h : RowOf w pr T l us) (hn : ∀ (j : Nat) (y : T.den), m[j]? = some y → ∃ vs, vs.length = T.size ∧ (∀ (i : Nat) (v : Value), vs[i]? = some v → news[j * T.size + i]? = some v) ∧ TR w pr T y vs)
    (hold : ∀ i, i < l.length * T.size → us'[i]? = us[i]?) (hnew : ∀ i v, news[i]? = some v → us'[l.length * T.size + i]? = some v) : RowOf w pr T (l ++ m) us' := by
  intro j x hx
  by_cases hj : j < l.length
  · rw [List.getElem?_append_left hj] at hx
    obtain ⟨vs, v1, v2, v3⟩ := h j x hx
    refine ⟨vs, v1, fun i v hv => ?_, v3⟩
    have hi : i < T.size := by rw [← v1]; exact (List.getElem?_eq_some_iff.1 hv).1
    have : (j + 1) * T.size ≤ l.length * T.size := Nat.mul_le_mul_right _ hj
    have : (j + 1) * T.size = j * T.size + T.size := by rw [Nat.add_mul]; omega
    rw [hold _ (by omega)]; exact v2 i v hv
  · rw [List.getElem?_append_right (by omega)] at hx
    obtain ⟨vs, v1, v2, v3⟩ := hn _ x hx
    refine ⟨vs, v1, fun i v hv => ?_, v3⟩
    have := hnew _ v (v2 i v hv)
    rw [← this]
    congr 1
    have : j * T.size = l.length * T.size + (j - l.length) * T.size := by rw [← Nat.add_mul]; congr 1; omega
    omega

theorem grown_size (w : World) (need old : Nat) (e : TypeId) (z : Array Value) (olds news : List Value) (size : Nat) (hz : z.size = size) (hl : olds.length + news.length = need * size) :
    (grownCap w need old e) * size ≤ (olds.toArray ++ news.toArray ++ Builtin.zeroCells z (grownCap w need old e - need)).size := by
  have := grownCap_ge w need old e
  simp only [Array.size_append, List.size_toArray, size_zeroCells, hz]
  rw [hl, ← Nat.add_mul]
  exact Nat.mul_le_mul_right _ (by omega)

/-- the append of a row that is one's own (or of none) -/
theorem append_own (h : Rel B g s w a N) (hd : ∀ t, o.dst = some t → t < N) {t xt e : TypeId} {x y : Operand} (ho : o.op = .call { callee := .builtin .append, args := #[x, y], argTypes := #[t, xt] })
    {ei : TInfo} {ti2 : TypeInfo} {d2 : TypeDesc} {z2 : Value} (E : TypeIs P e ei ti2 d2 z2) (ht : P.underlying t = some (.slice e)) (hpos : 0 < ei.bytes) {tt : Tmp} (hdst : o.dst = some tt)
    {m : List ei.ty.den} {news : List Value} (hs : Src P w xt (a.eval y) ei.size m.length news)
    (hn : ∀ (j : Nat) (q : ei.ty.den), m[j]? = some q → ∃ vs, vs.length = ei.ty.size ∧ (∀ (i : Nat) (v : Value), vs[i]? = some v → news[j * ei.ty.size + i]? = some v) ∧ TR w g.pr ei.ty q vs)
    {ws1 : List Wr} (s1 : S) (hs1 : s1 = s.puts ws1) {sh : Bool} {l : List ei.ty.den} (habs : s1.toks tt = .abs) (hb : (l.length + m.length) * ei.bytes ≤ 140737488355328) (h1 : Rel B g s1 w a N)
    (hrow : (a.eval x = .slice none 0 0 ∧ l = []) ∨ ∃ k cap, a.eval x = .slice (some ⟨k, 0, none⟩) l.length cap ∧ Fresh g s1 k ∧ TokRow B w g.pr sh ei.ty l k cap) :
    Goes P B N o s w a (ws1 ++ [.tok tt (.live sh ei.ty (l ++ m)), .tmp tt (.ref tt)]) := by
  have hsz := E.tysz
  have hzsz : z2.cells.size = ei.size := by have := (z0s_LR (w := w) (g := g) E.zrel).len; have := E.zlen; simp at *; omega
  -- what is left to do once the row lies there
  have fin : ∀ (w' : World) (g1 : Gh) (k cap : Nat) (us : Array Value) (el : TypeId) (fr : Nat × Nat), Rel B g1 s1 w' a N → BelowB B w w' → Fresh g1 s1 k → B.mine k → w'.heap[k]? = some (.cells us el fr) → Thawed fr us.size →
      l.length + m.length ≤ cap → cap * ei.ty.size ≤ us.size → RowOf w' g1.pr ei.ty (l ++ m) us → (∀ o, g1.pr k o → o < (l ++ m).length * ei.ty.size) → (sh = false → ∀ o, ¬ g1.pr k o) →
      (execOp a.eval o).run P w = .ok (.value (.slice (some ⟨k, 0, none⟩) (l.length + m.length) cap)) w' → Goes P B N o s w a (ws1 ++ [.tok tt (.live sh ei.ty (l ++ m)), .tmp tt (.ref tt)]) := by
    intro w' g1 k cap us el fr r1 r2 r3 r4 r5 r6 r7 r8 r9 r10 r11 r12
    obtain ⟨g2, tg, q1, q2, q3⟩ := r1.newTokSh (sh := sh) (T := ei.ty) (l := l ++ m) (cap := cap) habs r3 r4 r5 r6 (by simpa using r7) r8 r9 r10 r11
    have q4 := q1.tmp (VR_ref q2 q3) (hd tt hdst)
    refine goes_value (g' := g2) r12 ?_ r2
    rw [hdst, S.puts_append, ← hs1]
    rw [List.length_append] at q4
    exact q4
  -- a new row
  have new : ∀ (ad : Option Addr) (n cap : Nat) (olds : List Value), a.eval x = .slice ad n cap → n = l.length → olds.length = l.length * ei.size → ¬ n + m.length ≤ cap →
      (∀ w' : World, w'.heap = w.heap → (Builtin.firstCells ei.size n (.slice ad n cap)).run P w' = .ok olds.toArray w') → RowOf w g.pr ei.ty l olds.toArray →
      Goes P B N o s w a (ws1 ++ [.tok tt (.live sh ei.ty (l ++ m)), .tmp tt (.ref tt)]) := by
    intro ad n cap olds ex en el hg hf hro
    subst en
    have hrun := run_append_new (ty := o.type) E ht hs hf hg hb hpos
    rw [← ex] at hrun
    have hex := execOp_append ho hrun
    obtain ⟨d1, _⟩ := h1.heap (w' := w.drew) rfl
    obtain ⟨a1, k1⟩ := d1.alloc (.cells (olds.toArray ++ news.toArray ++ Builtin.zeroCells z2.cells (grownCap w (l.length + m.length) cap e - (l.length + m.length))) e)
    have hfr : Fresh g s1 w.heap.size := h1.fresh (Nat.le_refl _)
    have hno : ∀ o, ¬ g.pr w.heap.size o := fun o p => by have := h1.prlt _ o p; omega
    have hk : PrKeeps w g.pr (w.drew.alloc (.cells (olds.toArray ++ news.toArray ++ Builtin.zeroCells z2.cells (grownCap w (l.length + m.length) cap e - (l.length + m.length))) e)) g.pr := k1.pr
    refine fin _ g w.heap.size (grownCap w (l.length + m.length) cap e) _ e (0, 0) a1 (((BelowB.refl B w).drew).alloc h1.hB _) hfr (.inl h1.hB) (alloc_new w.drew _) (thawed0 _) (grownCap_ge _ _ _ _) ?_ ?_ (fun o p => absurd p (hno o)) (fun _ => hno) hex
    · rw [hsz]
      exact grown_size w _ cap e z2.cells olds news ei.size hzsz (by rw [el, hs.sz, Nat.add_mul])
    · refine (rowOf_append hro hn (fun i hi => ?_) (fun i v hv => ?_)).keeps hk
      · rw [hsz] at hi
        rw [Array.append_assoc, Array.getElem?_append_left (by simp [el]; exact hi)]
      · have hi : i < news.length := (List.getElem?_eq_some_iff.1 hv).1
        rw [hsz, ← el, Array.getElem?_append_left (by simp; omega), Array.getElem?_append_right (by simp)]
        simp [hv]
  rcases hrow with ⟨ex, rfl⟩ | ⟨k, cap, ex, hfk, hr⟩
  · -- nil
    by_cases hm : m.length = 0
    · have hm2 : m = [] := List.eq_nil_of_length_eq_zero hm
      subst hm2
      have hnews : news = [] := List.eq_nil_of_length_eq_zero (by rw [hs.sz]; simp)
      obtain ⟨dx, hdx, hni⟩ := hs.und
      have hn2 := notInt hni
      have hrun : (Builtin.append_ #[t, xt] o.type #[a.eval x, a.eval y]).run P w = .ok (.slice none 0 0) w := by
        rw [ex]
        unfold Builtin.append_
        simp only [List.getElem?_toArray, List.getElem?_cons_zero, List.getElem?_cons_succ, Sem.run_bind, run_underlying ht, run_underlying hdx, Result.andThen_ok, E.sizeOf, Sem.run_pure, hn2, Bool.false_eq_true, if_false, hs.len, Sem.run_ite,
          List.length_nil, Nat.add_zero, Nat.le_refl, if_true, Bool.not_false]
        have := hs.cells w rfl
        simp only [List.length_nil] at this
        rw [this]; rfl
      obtain ⟨q1, _⟩ := h1.newTok (t := tt) (sh := sh) (T := ei.ty) (l := []) (tg := ⟨.slice none 0 0, none, ei.ty.size⟩) habs (fun k hk => by cases hk) ⟨rfl, .inl ⟨rfl, rfl, rfl⟩⟩
      have q4 := q1.tmp (VR_ref (t := tt) (tg := ⟨.slice none 0 0, none, ei.ty.size⟩) (by simp [upd_same]) rfl) (hd tt hdst)
      refine goes_value (g' := { g with τ := upd g.τ tt (some ⟨.slice none 0 0, none, ei.ty.size⟩) }) (execOp_append ho hrun) ?_ (BelowB.refl _ _)
      rw [hdst, S.puts_append, ← hs1]
      exact q4
    · refine new none 0 0 [] ex rfl (by simp) (by omega) (fun w' _ => run_firstCells_none w' _ _ _ _) (fun j q hq => by simp at hq)
  · obtain ⟨us, el, fr, r1, r2, r3, r4⟩ := hr.row
    have hfit : l.length * ei.ty.size ≤ us.size := Nat.le_trans (Nat.mul_le_mul_right _ hr.len) r3
    by_cases hc : l.length + m.length ≤ cap
    · have hrun := run_append_fit (ty := o.type) E ht hs r1 r2 hc (by rw [← hsz]; exact r3)
      rw [← ex] at hrun
      have hex := execOp_append ho hrun
      have hnl : news.length = m.length * ei.size := hs.sz
      have hfit2 : l.length * ei.size + news.length ≤ us.toList.length := by
        have : (l.length + m.length) * ei.ty.size ≤ cap * ei.ty.size := Nat.mul_le_mul_right _ hc
        rw [Nat.add_mul, hsz] at this
        rw [hsz] at r3
        simp; omega
      have hr' := setRow_heap w k us (over us.toList (l.length * ei.size) news).toArray el fr r1
      have hsize : (over us.toList (l.length * ei.size) news).toArray.size = us.size := by rw [List.size_toArray, over_len hfit2]; simp
      have hsame : ∀ i, i < l.length * ei.size → (over us.toList (l.length * ei.size) news).toArray[i]? = us[i]? := by
        intro i hi; rw [List.getElem?_toArray, over_get hfit2, if_pos hi]; simp
      obtain ⟨o1, ok⟩ := h1.other hfk (only_setRow (w := w) k (over us.toList (l.length * ei.size) news).toArray) (fun o p => by
        rw [cell_of hr', cell_of r1]; exact hsame o (by rw [← hsz]; exact hr.prlt o p))
      refine fin _ g k cap _ el fr o1 (below_setRow hr.above _) hfk hr.above hr' (by rw [hsize]; exact r2) hc (by rw [hsize]; exact r3) ?_ (fun o p => by have := hr.prlt o p; rw [List.length_append, Nat.add_mul]; omega) hr.prno hex
      refine (rowOf_append r4 hn (fun i hi => hsame i (by rw [← hsz]; exact hi)) (fun i v hv => ?_)).keeps ok.pr
      have hi : i < news.length := (List.getElem?_eq_some_iff.1 hv).1
      rw [hsz, List.getElem?_toArray, over_get hfit2, if_neg (by omega), if_pos (by omega), show l.length * ei.size + i - l.length * ei.size = i from by omega]
      exact hv
    · refine new (some ⟨k, 0, none⟩) l.length cap (us.toList.take (l.length * ei.size)) ex rfl (by rw [List.length_take, Array.length_toList, ← hsz]; exact Nat.min_eq_left hfit) hc ?_ ?_
      · intro w' hw'
        refine run_firstCells_some w' ei.size l.length ⟨k, 0, none⟩ l.length cap _ (by rw [List.length_take, Array.length_toList, ← hsz]; exact Nat.min_eq_left hfit) ?_
        intro j v hv
        rw [cell_same_heap hw', addr_add, Nat.zero_add, cell_of r1]
        rw [List.getElem?_take] at hv
        split at hv
        · simpa using hv
        · cases hv
      · intro j q hq
        obtain ⟨vs, v1, v2, v3⟩ := r4 j q hq
        refine ⟨vs, v1, fun i v hv => ?_, v3⟩
        have hj : j < l.length := (List.getElem?_eq_some_iff.1 hq).1
        have hi : i < ei.ty.size := by rw [← v1]; exact (List.getElem?_eq_some_iff.1 hv).1
        have : (j + 1) * ei.ty.size ≤ l.length * ei.ty.size := Nat.mul_le_mul_right _ hj
        have : (j + 1) * ei.ty.size = j * ei.ty.size + ei.ty.size := by rw [Nat.add_mul]; omega
        rw [List.getElem?_toArray, List.getElem?_take, if_pos (by rw [← hsz]; omega)]
        simpa using v2 i v hv

theorem goes_appendTo (h : Rel B g s w a N) (hd : ∀ t, o.dst = some t → t < N) {t xt e : TypeId} {x y : Operand} (ho : o.op = .call { callee := .builtin .append, args := #[x, y], argTypes := #[t, xt] })
    {ei : TInfo} {ti2 : TypeInfo} {d2 : TypeDesc} {z2 : Value} (E : TypeIs P e ei ti2 d2 z2) (hun : P.underlying t = some (.slice e)) (hpos : 0 < ei.bytes) {tt : Tmp} (hdst : o.dst = some tt)
    {p : AV} (hp : VR w g p (a.eval x)) (m : List ei.ty.den) (news : List Value) (hs : Src P w xt (a.eval y) ei.size m.length news)
    (hn : ∀ (j : Nat) (q : ei.ty.den), m[j]? = some q → ∃ vs, vs.length = ei.ty.size ∧ (∀ (i : Nat) (v : Value), vs[i]? = some v → news[j * ei.ty.size + i]? = some v) ∧ TR w g.pr ei.ty q vs)
    (he : (appendTo tt ei p m).Ev C Rd s ws) : Goes P B N o s w a ws := by
  unfold appendTo at he
  cases p with
  | nilsl =>
    obtain ⟨hb, _, he⟩ := he
    have hb : m.length * ei.bytes ≤ 140737488355328 := by simpa using hb
    cases ht : s.toks tt with
    | dead => rw [ht] at he; exact he.elim
    | live _ _ _ => rw [ht] at he; exact he.elim
    | abs =>
      rw [ht] at he
      have : ws = _ := he
      subst this
      exact append_own h hd ho E hun hpos hdst hs hn (ws1 := []) s rfl (sh := false) (l := []) ht (by simpa using hb) h (.inl ⟨hp, rfl⟩)
  | ref t' =>
    obtain ⟨_, he⟩ := he
    cases ht' : s.toks t' with
    | abs => rw [ht'] at he; exact he.elim
    | dead => rw [ht'] at he; exact he.elim
    | live sh T' l =>
      rw [ht'] at he
      simp only [] at he
      cases hdc : T'.dec ei.ty with
      | none => rw [hdc] at he; exact he.elim
      | some hh =>
        rw [hdc] at he
        obtain ⟨hb, _, he⟩ := he
        have hb : (l.length + m.length) * ei.bytes ≤ 140737488355328 := by simpa using hb
        cases ht : s.toks tt with
        | dead => rw [ht] at he; exact he.elim
        | live _ _ _ => rw [ht] at he; exact he.elim
        | abs =>
          rw [ht] at he
          have : ws = _ := he
          subst this
          have hne : tt ≠ t' := by rintro rfl; rw [ht] at ht'; cases ht'
          obtain ⟨tg, hτ, ez, r⟩ := h.tk t' sh T' l ht'
          obtain ⟨tg', hτ', hu, _⟩ := hp
          rw [hτ] at hτ'; cases hτ'
          have hk := h.kill t' (by rw [ht']; simp)
          have habs : (s.put (.tok t' .dead)).toks tt = .abs := by simp [S.put, upd_ne _ _ _ _ hne, ht]
          have hlive : (s.toks t').isLive = true := by rw [ht']; rfl
          clear hdc he
          obtain ⟨hTT⟩ := hh
          subst hTT
          refine append_own h hd ho E hun hpos hdst hs hn (ws1 := [.tok t' .dead]) (s.put (.tok t' .dead)) rfl (sh := sh) (l := l) habs hb hk ?_
          rcases r with ⟨e1, _, e2⟩ | ⟨k, cap, e1, e2, r⟩
          · exact .inl ⟨hu.trans e1, e2⟩
          · refine .inr ⟨k, cap, hu.trans e1, ⟨fun b eb => h.tbx t' tg k b hlive hτ e2 eb, fun t2 tg2 hl2 hτ2 hb2 => ?_⟩, r⟩
            by_cases et : t2 = t'
            · subst et; simp [S.put, upd_same, Tok.isLive] at hl2
            · simp only [S.put, upd_ne _ _ _ _ et] at hl2
              exact et (h.tinj t2 t' tg2 tg k hl2 hlive hτ2 hτ hb2 e2)
  | _ => exact he.elim

theorem content_evV (h : Rel B g s w a N) {T : Ty} {v : AV} {u : Value} {W : List Wr} {k : List T.den → Pg} (hv : VR w g v u) (he : (content T v k).Ev C Rd s W) :
    ∃ l, (k l).Ev C Rd s W ∧ Reads w g.pr T l u := by
  rcases VR_or hv with ⟨vs, rfl, _⟩ | hl
  · exact he.elim
  · exact content_ev h hl he

theorem goes_append (hT : TIok P TI) (h : Rel B g s w a N) (hd : ∀ t, o.dst = some t → t < N) {t xt : TypeId} {x y : Operand} (ho : o.op = .call { callee := .builtin .append, args := #[x, y], argTypes := #[t, xt] })
    {p q : AV} (hp : VR w g p (a.eval x)) (hq : VR w g q (a.eval y)) (he : (pgAppend TI o.dst t xt p q).Ev C Rd s ws) : Goes P B N o s w a ws := by
  unfold pgAppend at he
  cases hdst : o.dst with
  | none => rw [hdst] at he; exact he.elim
  | some tt =>
    rw [hdst] at he
    simp only [] at he
    unfold tinf at he
    cases hi : TI t with
    | none => rw [hi] at he; exact he.elim
    | some i =>
      rw [hi] at he
      obtain ⟨ti, d, z, T⟩ := hT.get hi
      cases hkn : i.kn with
      | slice e =>
        simp only [hkn] at he
        cases hei : TI e with
        | none => rw [hei] at he; exact he.elim
        | some ei =>
          rw [hei] at he
          simp only [] at he
          obtain ⟨ti2, d2, z2', E⟩ := hT.get hei
          have hun := T.slice hkn
          obtain ⟨hpos, he⟩ := he
          have hpos : 0 < ei.bytes := by simpa using hpos
          unfold appendSrc tinf at he
          cases hxi : TI xt with
          | none => rw [hxi] at he; exact he.elim
          | some xi =>
            rw [hxi] at he
            obtain ⟨_, _, _, X⟩ := hT.get hxi
            cases hxk : xi.kn with
            | slice e' =>
              simp only [hxk] at he
              obtain ⟨m, he, hr⟩ := content_evV h hq he
              obtain ⟨news, hs, hn⟩ := Src.of_reads (X.slice hxk) E.tysz hr
              exact goes_appendTo h hd ho E hun hpos hdst hp m news hs hn he
            | str =>
              simp only [hxk] at he
              cases q with
              | str b =>
                simp only [] at he
                cases hdc : (Ty.int .u8).dec ei.ty with
                | none => rw [hdc] at he; exact he.elim
                | some hh =>
                  rw [hdc] at he
                  simp only [] at he
                  have hx := X.str hxk
                  have hyy := VR_str hq
                  clear hdc
                  obtain ⟨hTT⟩ := hh
                  have hsz : ei.size = 1 := by rw [← E.tysz, ← hTT]; rfl
                  obtain ⟨news, hs, hn⟩ := Src.of_str (w := w) (pr := g.pr) (b := b) hx
                  have hlenb : (toBytes b).length = b.length := by simp [toBytes]
                  have gen : ∀ (T : Ty) (hT1 : Ty.int .u8 = T), ∀ (j : Nat) (q : T.den), (cast (congrArg (fun T => List (Ty.den T)) hT1) (toBytes b) : List T.den)[j]? = some q → ∃ vs, vs.length = T.size ∧ (∀ (i : Nat) (v : Value), vs[i]? = some v → news[j * T.size + i]? = some v) ∧ TR w g.pr T q vs := by
                    intro T hT1
                    subst hT1
                    exact hn
                  have gen2 : ∀ (T : Ty) (hT1 : Ty.int .u8 = T), (cast (congrArg (fun T => List (Ty.den T)) hT1) (toBytes b) : List T.den).length = b.length := by
                    intro T hT1
                    subst hT1
                    exact hlenb
                  refine goes_appendTo h hd ho E hun hpos hdst hp _ news ?_ (gen _ hTT) he
                  rw [gen2 _ hTT, hyy, hsz]; exact hs
              | _ => exact he.elim
            | _ => simp only [hxk] at he; exact he.elim
      | _ => simp only [hkn] at he; exact he.elim

end
end Go.Proofs.YtjgnpmdbkgeakaaDoor.Th
