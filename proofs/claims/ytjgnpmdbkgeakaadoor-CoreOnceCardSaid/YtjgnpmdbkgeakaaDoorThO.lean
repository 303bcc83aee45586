/- THEORY, part O: structs, equality of structs, every operation, guards. No condition. -/
import Derived.Test.YtjgnpmdbkgeakaaDoorThV
import Derived.Laws.StructEq
set_option linter.unusedVariables false
set_option linter.unusedSimpArgs false
namespace Go.Proofs.YtjgnpmdbkgeakaaDoor.Th
open Go Go.RowKit

section
variable {P : Program} {TI : TEnv} {C : FuncId → List AV → AV → Prop} {Rd : Rs → Prop} {B : Bd} {N : Nat} {g g' : Gh} {s : S} {w w' : World} {a : Act} {o : Oper} {ws : List Wr}

/-! ### structs -/
theorem LR_plain' {v : AV} {u : Value} (h : LR w g v u) (hp : isPlainCell v = true) : PR w g.pr v u := by
  cases v <;> first | exact h | (simp [isPlainCell] at hp)

theorem LRs_plain : ∀ {vs : List AV} {us : List Value}, All2 (LR w g) vs us → vs.all isPlainCell = true → All2 (PR w g.pr) vs us
  | [], [], _, _ => trivial
  | v :: vs, u :: us, h, hp => by
    simp only [List.all_cons, Bool.and_eq_true] at hp
    exact ⟨LR_plain' h.1 hp.1, LRs_plain h.2 hp.2⟩
  | [], _ :: _, h, _ => h.elim
  | _ :: _, [], h, _ => h.elim

theorem fszOK_get : ∀ {fs : List (Nat × TypeId)} {ns : List Nat}, fszOK P fs ns = true → fs.length = ns.length ∧ ∀ (j : Nat) (f : Nat × TypeId) (n : Nat), fs[j]? = some f → ns[j]? = some n → ∃ ti, P.info? f.2 = some ti ∧ ti.size = n
  | [], [], _ => ⟨rfl, fun j f n h => by simp at h⟩
  | f :: fs, n :: ns, h => by
    simp only [fszOK, Bool.and_eq_true] at h
    obtain ⟨h1, h2⟩ := h
    obtain ⟨l, r⟩ := fszOK_get h2
    refine ⟨by simp [l], fun j f' n' hf hn => ?_⟩
    cases j with
    | zero =>
      simp at hf hn; subst hf; subst hn
      split at h1
      · rename_i ti hti; exact ⟨ti, hti, Nat.eq_of_beq_eq_true h1⟩
      · cases h1
    | succ j => exact r j f' n' (by simpa using hf) (by simpa using hn)
  | [], _ :: _, h => by simp [fszOK] at h
  | _ :: _, [], h => by simp [fszOK] at h

theorem run_places : ∀ {fs : List Field} {ns : List Nat}, fszOK P (fs.map fun f => (f.offset, f.type)) ns = true →
    (fs.mapM (m := Sem) fun f => do pure (f.offset, ← sizeOf f.type)).run P w = .ok ((fs.map fun f => f.offset).zip ns) w := by
  intro fs
  induction fs with
  | nil => intro ns h; cases ns with
    | nil => rfl
    | cons _ _ => simp [fszOK] at h
  | cons f fs ih =>
    intro ns h
    cases ns with
    | nil => simp [fszOK] at h
    | cons n ns =>
      simp only [List.map_cons, fszOK, Bool.and_eq_true] at h
      obtain ⟨h1, h2⟩ := h
      split at h1
      · rename_i ti hti
        have e := Nat.eq_of_beq_eq_true h1
        have hsz : (sizeOf f.type).run P w = .ok n w := by simp [Go.sizeOf, typeInfo, hti, e]
        simp only [List.mapM_cons, Sem.run_bind, hsz, Result.andThen_ok, Sem.run_pure, ih h2, List.map_cons, List.zip_cons_cons]
      · cases h1

theorem fillv_fill {place : Nat → Option (Nat × Nat)} {i : TInfo} (hp : ∀ j o n, placeOf i j = some (o, n) → place j = some (o, n)) :
    ∀ {js : List Nat} {vs : List AV} {xs : List Value} {cs cs' : List AV} {us : Array Value}, All2 (PV w g.pr) vs xs → fillv i cs (js.zip vs) = some cs' → All2 (LR w g) cs us.toList →
      ∃ us', Instr.fill place us (js.zip xs) = some us' ∧ All2 (LR w g) cs' us'.toList := by
  intro js
  induction js with
  | nil =>
    intro vs xs cs cs' us hv hf hc
    simp only [List.zip_nil_left, fillv, Option.some.injEq] at hf; subst hf
    exact ⟨us, by simp [Instr.fill], hc⟩
  | cons j js ih =>
    intro vs xs cs cs' us hv hf hc
    cases vs with
    | nil =>
      cases xs with
      | nil =>
        simp only [List.zip_nil_right, fillv, Option.some.injEq] at hf; subst hf
        exact ⟨us, by simp [Instr.fill], hc⟩
      | cons _ _ => exact hv.elim
    | cons v vs =>
      cases xs with
      | nil => exact hv.elim
      | cons x xs =>
        simp only [List.zip_cons_cons, fillv] at hf ⊢
        cases hpl : placeOf i j with
        | none => rw [hpl] at hf; cases hf
        | some q =>
          obtain ⟨off, n⟩ := q
          rw [hpl] at hf
          simp only [] at hf
          cases hq : decide (v.cells.length = n) && decide (off + n ≤ cs.length) with
          | false => rw [hq] at hf; cases hf
          | true =>
            rw [hq] at hf
            simp only [Bool.and_eq_true, decide_eq_true_eq] at hq
            have hcl := hc.len
            simp only [Array.length_toList] at hcl
            have hvc : All2 (LR w g) v.cells x.cells.toList := hv.1.cells.imp fun _ _ => LR_of_PR
            have hxl := hvc.len
            simp only [Array.length_toList] at hxl
            rw [fill_step (hp _ _ _ hpl) (by omega) (by omega)]
            exact ih hv.2 hf (by simpa using over_All2 hc hvc)

theorem goes_build (hT : TIok P TI) (h : Rel B g s w a N) (hd : ∀ t, o.dst = some t → t < N) {t : TypeId} {ps : Array (Nat × Operand)} (ho : o.op = .build t ps)
    (he0 : (rdvs (ps.toList.map (·.2)) fun vs => pgBuild TI o.dst t ((ps.toList.map (·.1)).zip vs)).Ev C Rd s ws) : Goes P B N o s w a ws := by
  obtain ⟨vs, hv, he⟩ := rdvs_ev h he0
  clear he0
  have hlen : (ps.toList.map (·.1)).length = vs.length := by have := hv.len; simpa using this.symm
  obtain ⟨z1, z2⟩ := All2_zip hlen hv
  unfold pgBuild at he
  simp only [z1, z2] at he
  obtain ⟨vs', ws', g1, he, hp, h2, hk, hv2⟩ := snaps_ev (Promo.refl s) (by simpa [S.puts] using h) hv he
  unfold tinf at he
  cases hi : TI t with
  | none => rw [hi] at he; exact he.elim
  | some i =>
    rw [hi] at he
    obtain ⟨ti, d, z, T⟩ := hT.get hi
    simp only [] at he
    cases hs : i.kn.isSt with
    | false => rw [hs] at he; exact he.elim
    | true =>
      rw [hs] at he
      simp only [] at he
      cases hf : fillv i i.zero ((ps.toList.map (·.1)).zip vs') with
      | none => rw [hf] at he; exact he.elim
      | some cs =>
        rw [hf] at he
        simp only [] at he
        cases hpl : cs.all isPlainCell with
        | false => rw [hpl] at he; exact he.elim
        | true =>
          rw [hpl] at he
          have : ws = _ := he
          subst this
          obtain ⟨fs, hu, hfs⟩ := T.struct hs
          have hsz := T.fsz hs
          rw [hfs] at hsz
          have hpls := run_places (w := w) hsz
          obtain ⟨lsz, _⟩ := fszOK_get hsz
          have hplace : ∀ j off n, placeOf i j = some (off, n) → ((fs.toList.map fun f => f.offset).zip i.fsz).toArray[j]? = some (off, n) := by
            intro j off n hj
            unfold placeOf at hj
            rw [hfs] at hj
            split at hj
            · rename_i e1 e2
              cases hj
              rw [List.getElem?_map] at e1
              cases hfj : fs.toList[j]? with
              | none => rw [hfj] at e1; cases e1
              | some f =>
                rw [hfj] at e1; cases e1
                rw [List.getElem?_toArray, List.getElem?_zip_eq_some]
                exact ⟨by rw [List.getElem?_map, hfj]; rfl, e2⟩
            · cases hj
          have hz : All2 (LR w g1) i.zero z.cells.toList := z0s_LR T.zrel
          obtain ⟨us', f1, f2⟩ := fillv_fill hplace hv2 hf hz
          have hend := h2.wrd (d := o.dst) (v := .agg cs) (VR_of_LR (show LR w g1 (.agg cs) (.agg us') from ⟨us'.toList, by simp, LRs_plain f2 hpl⟩)) hd
          refine goes_value (g' := g1) ?_ (by rw [S.puts_append]; exact hend) (BelowB.refl _ _)
          have e1 : (ps.map fun (i, x) => (i, a.eval x)).toList = (ps.toList.map (·.1)).zip ((ps.toList.map (·.2)).map a.eval) := by
            rw [Array.toList_map]; exact zip_unzip _ _
          have hmapM : (fs.mapM (m := Sem) fun f => do pure (f.offset, ← sizeOf f.type)).run P w = .ok ((fs.toList.map fun f => f.offset).zip i.fsz).toArray w := by
            rw [Array.mapM_eq_mapM_toList]
            show ((List.mapM (m := Sem) (fun f => do pure (f.offset, ← sizeOf f.type)) fs.toList) >>= fun x => pure x.toArray).run P w = _
            rw [Sem.run_bind, hpls]
            rfl
          simp only [execOp, ho, Instr.build, Sem.run_bind, zeroValue, typeInfo, run_program, T.info, T.zero, Result.andThen_ok, Sem.run_pure, run_underlying hu, hmapM]
          rw [show (ps.map fun (x : Nat × Operand) => (x.fst, a.eval x.snd)).toList = (ps.toList.map (·.1)).zip ((ps.toList.map (·.2)).map a.eval) from e1, f1]
          rfl

/-! ### equality of structs -/
theorem run_same1 {pr : Nat → Nat → Prop} {T : Ty} {t : TypeId} {x y : T.den} {xs ys : List Value} (hf : flat1 P T t = true) (hx : TR w pr T x xs) (hy : TR w pr T y ys) :
    ∃ u v, xs = [u] ∧ ys = [v] ∧ (isAgg t).run P w = .ok false w ∧ ∀ d, (Op.equalIn (d + 1) t u v).run P w = .ok (T.same x y) w := by
  unfold flat1 at hf
  split at hf
  · rename_i j j' hu
    have hf : j = j' := by simpa using hf
    subst hf
    refine ⟨_, _, hx, hy, by simp [isAgg, run_underlying hu], fun d => ?_⟩
    exact (run_equalIn_int w d t j j (x : Int) (y : Int) hu).trans rfl
  · rename_i hu
    refine ⟨_, _, hx, hy, by simp [isAgg, run_underlying hu], fun d => ?_⟩
    exact (run_equalIn_bool' w d t (x : Bool) (y : Bool) hu).trans rfl
  · rename_i hu
    refine ⟨_, _, hx, hy, by simp [isAgg, run_underlying hu], fun d => ?_⟩
    simp only [strV]
    have e : ∀ a b : List UInt8, ((⟨a.toArray⟩ : ByteArray) == ⟨b.toArray⟩) = decide (a = b) := by
      intro a b
      rw [beq_toListBytes, ByteArray.toList_eq, ByteArray.toList_eq]
      show (a == b) = _
      by_cases h : a = b <;> simp [h]
    have e2 := e x y
    have : (Op.equalIn (d + 1) t (.string ⟨List.toArray (α := UInt8) x⟩) (.string ⟨List.toArray (α := UInt8) y⟩)).run P w = .ok ((⟨List.toArray (α := UInt8) x⟩ : ByteArray) == ⟨List.toArray (α := UInt8) y⟩) w := by
      simp only [Op.equalIn, Sem.run_bind, run_underlying hu, Result.andThen_ok, Sem.run_pure]
    rw [e2] at this
    exact this.trans rfl
  · cases hf

theorem run_eqT {pr : Nat → Nat → Prop} : ∀ (T : Ty), (∀ (t : TypeId) (x y : T.den) (xs ys p q r r' : List Value) (k d : Nat), eqT P T (some t) 0 [] = true → TR w pr T x xs → TR w pr T y ys → p.length = k → q.length = k → T.nest ≤ d →
      ∃ u v, (part t (p ++ (xs ++ r)).toArray k).run P w = .ok u w ∧ (part t (q ++ (ys ++ r')).toArray k).run P w = .ok v w ∧ (Op.equalIn (d + 1) t u v).run P w = .ok (T.same x y) w) ∧
    (∀ (fs : List Field) (k d : Nat) (x y : T.den) (p q xs ys : List Value), eqT P T none k fs = true → TR w pr T x xs → TR w pr T y ys → p.length = k → q.length = k → T.nest ≤ d →
      (Op.eqFields (d + 1) (p ++ xs).toArray (q ++ ys).toArray fs).run P w = .ok (T.same x y) w) := by
  have leaf : ∀ {T : Ty} {t : TypeId} {x y : T.den} {xs ys p q r r' : List Value} {k d : Nat}, flat1 P T t = true → TR w pr T x xs → TR w pr T y ys → p.length = k → q.length = k →
      ∃ u v, (part t (p ++ (xs ++ r)).toArray k).run P w = .ok u w ∧ (part t (q ++ (ys ++ r')).toArray k).run P w = .ok v w ∧ (Op.equalIn (d + 1) t u v).run P w = .ok (T.same x y) w := by
    intro T t x y xs ys p q r r' k d hf hx hy hp hq
    obtain ⟨u, v, rfl, rfl, ha, heq⟩ := run_same1 hf hx hy
    have g1 : (p ++ ([u] ++ r)).toArray[k]? = some u := by
      rw [List.getElem?_toArray, List.getElem?_append_right (by omega), hp]; simp
    have g2 : (q ++ ([v] ++ r')).toArray[k]? = some v := by
      rw [List.getElem?_toArray, List.getElem?_append_right (by omega), hq]; simp
    refine ⟨u, v, ?_, ?_, heq d⟩
    · simp only [part, Sem.run_bind, ha, Result.andThen_ok, Bool.false_eq_true, if_false, g1, Sem.run_pure, Sem.run_ite]
    · simp only [part, Sem.run_bind, ha, Result.andThen_ok, Bool.false_eq_true, if_false, g2, Sem.run_pure, Sem.run_ite]
  intro T
  induction T with
  | int j => exact ⟨fun t x y xs ys p q r r' k d h hx hy hp hq hd => leaf h hx hy hp hq, fun fs k d x y p q xs ys h => by simp [eqT] at h⟩
  | bool => exact ⟨fun t x y xs ys p q r r' k d h hx hy hp hq hd => leaf h hx hy hp hq, fun fs k d x y p q xs ys h => by simp [eqT] at h⟩
  | str => exact ⟨fun t x y xs ys p q r r' k d h hx hy hp hq hd => leaf h hx hy hp hq, fun fs k d x y p q xs ys h => by simp [eqT] at h⟩
  | st T ih =>
    refine ⟨fun t x y xs ys p q r r' k d h hx hy hp hq hd => ?_, fun fs k d x y p q xs ys h => by simp [eqT] at h⟩
    simp only [eqT, Bool.and_eq_true, Bool.not_eq_true'] at h
    obtain ⟨⟨h1, h2⟩, h3⟩ := h
    have hx' : TR w pr T x xs := hx
    have hy' : TR w pr T y ys := hy
    have lx := hx'.len
    have ly := hy'.len
    split at h1
    · rename_i fs hu
      split at h3
      · rename_i ti hti
        have hsz := Nat.eq_of_beq_eq_true h3
        have hfo : P.fieldsOf t = fs := by simp [Program.fieldsOf, hu]
        have ha : (isAgg t).run P w = .ok true w := by simp [isAgg, run_underlying hu]
        have hs : (sizeOf t).run P w = .ok T.size w := by simp [sizeOf, typeInfo, Sem.run_bind, hti, hsz]
        obtain ⟨d', rfl⟩ : ∃ d', d = d' + 1 := ⟨d - 1, by simp only [Ty.nest] at hd; omega⟩
        have ex : ∀ (p xs r : List Value), p.length = k → xs.length = T.size → (p ++ (xs ++ r)).toArray.extract k (k + T.size) = xs.toArray := by
          intro p xs r hp hl
          rw [List.extract_toArray, List.extract_eq_take_drop]
          congr 1
          rw [← hp, List.drop_append_of_le_length (Nat.le_refl _), List.drop_length, List.nil_append]
          rw [show p.length + T.size - p.length = xs.length by omega, List.take_append_of_le_length (Nat.le_refl _), List.take_length]
        refine ⟨.agg xs.toArray, .agg ys.toArray, ?_, ?_, ?_⟩
        · simp only [part, Sem.run_bind, ha, Result.andThen_ok, if_true, hs, Sem.run_pure, ex p xs r hp lx]
        · simp only [part, Sem.run_bind, ha, Result.andThen_ok, if_true, hs, Sem.run_pure, ex q ys r' hq ly]
        · rw [run_equalIn_struct w (d' + 1) t _ _ (by rw [hfo]; exact hu) h2, hfo]
          exact ih.2 fs.toList 0 d' x y [] [] xs ys h1 hx' hy' rfl rfl (by simp only [Ty.nest] at hd; omega)
      · cases h3
    · cases h1
  | nil =>
    refine ⟨fun t x y xs ys p q r r' k d h => by simp [eqT] at h, fun fs k d x y p q xs ys h hx hy hp hq hd => ?_⟩
    cases fs with
    | nil => rfl
    | cons _ _ => simp [eqT] at h
  | cons T b ihT ihb =>
    refine ⟨fun t x y xs ys p q r r' k d h => by simp [eqT] at h, fun fs k d x y p q xs ys h hx hy hp hq hd => ?_⟩
    cases fs with
    | nil => simp [eqT] at h
    | cons f fs =>
      simp only [eqT, Bool.and_eq_true] at h
      obtain ⟨⟨⟨h1, h2⟩, h3⟩, h4⟩ := h
      obtain ⟨c1, c2, rfl, x1, x2⟩ := hx
      obtain ⟨d1, d2, rfl, y1, y2⟩ := hy
      have hoff := Nat.eq_of_beq_eq_true h2
      have hne : f.name ≠ "_" := by simpa using h1
      simp only [Ty.nest] at hd
      obtain ⟨u, v, pu, pv, heq⟩ := ihT.1 f.type x.1 y.1 c1 d1 p q c2 d2 k d h3 x1 y1 hp hq (by omega)
      rw [← hoff] at pu pv
      have lx := x1.len
      have ly := y1.len
      simp only [Op.eqFields, hne, ne_eq, not_false_eq_true, if_true, Sem.run_bind, pu, pv, heq, Result.andThen_ok, Sem.run_ite, Sem.run_pure]
      have hrest := ihb.2 fs (k + T.size) d x.2 y.2 (p ++ c1) (q ++ d1) c2 d2 h4 x2 y2 (by simp [hp, lx]) (by simp [hq, ly]) (by omega)
      simp only [List.append_assoc] at hrest
      show _ = Result.ok (T.same x.1 y.1 && b.same x.2 y.2) w
      cases hs : T.same x.1 y.1 with
      | false => simp
      | true => simp only [Bool.not_true, Bool.false_eq_true, if_false, Bool.true_and]; exact hrest
  | _ => exact ⟨fun t x y xs ys p q r r' k d h => by simp [eqT] at h, fun fs k d x y p q xs ys h => by simp [eqT] at h⟩

theorem goes_same (hT : TIok P TI) (h : Rel B g s w a N) (hd : ∀ t, o.dst = some t → t < N) {op : BinOp} {t yt : TypeId} {x y : Operand} (ho : o.op = .binOp op t x y yt) {cx cy : List AV}
    (hx : VR w g (.agg cx) (a.eval x)) (hy : VR w g (.agg cy) (a.eval y)) {i : TInfo} (hi : TI t = some i) (hq : i.eqok = true) {p q : i.ty.den} (hp : i.ty.ofCells cx = some p) (hqq : i.ty.ofCells cy = some q)
    {b : Bool} (hb : (op = .eql ∧ b = i.ty.same p q) ∨ (op = .neq ∧ b = !i.ty.same p q)) (he : (retv o.dst (.bool b)).Ev C Rd s ws) : Goes P B N o s w a ws := by
  obtain ⟨ti, d, z, T⟩ := hT.get hi
  obtain ⟨us, hus, px⟩ := hx
  obtain ⟨vs, hvs, py⟩ := hy
  have tx := ofCells_TR hp px
  have ty := ofCells_TR hqq py
  have he1 := T.eq hq
  clear T hi hq hp hqq
  unfold eqOK at he1
  generalize i.ty = ity at *
  split at he1
  · rename_i T fs hu
    simp only [Bool.and_eq_true, Bool.not_eq_true'] at he1
    obtain ⟨⟨⟨e1, e0⟩, e2⟩, e3⟩ := he1
    have hfo : P.fieldsOf t = fs := by simp [Program.fieldsOf, hu]
    have hrun : (Op.equalIn 10000 t (.agg us.toArray) (.agg vs.toArray)).run P w = .ok ((Ty.st T).same p q) w := by
      rw [run_equalIn_struct w 9999 t _ _ (by rw [hfo]; exact hu) e2, hfo]
      exact (run_eqT T).2 fs.toList 0 9998 p q [] [] us vs e1 tx ty rfl rfl (by have := Nat.le_of_ble_eq_true e0; omega)
    rcases hb with ⟨rfl, rfl⟩ | ⟨rfl, rfl⟩
    · refine goes_bool h hd ?_ he
      simp only [execOp, ho, hus, hvs, Sem.run_bind, run_eqGuard_agg w _ t x y _ _ e3, Result.andThen_ok, run_eql_struct, hrun, Sem.run_pure]
    · refine goes_bool h hd ?_ he
      simp only [execOp, ho, hus, hvs, Sem.run_bind, run_eqGuard_agg w _ t x y _ _ e3, Result.andThen_ok, run_neq_struct, hrun, Sem.run_pure]
  · cases he1

/-! ### is a slice nil? -/
theorem goes_eqNil (h : Rel B g s w a N) (hd : ∀ t, o.dst = some t → t < N) {op : BinOp} {t yt e : TypeId} {x y : Operand} (ho : o.op = .binOp op t x y yt) (ht : P.underlying t = some (.slice e)) {ad : Option Addr} {n c : Nat}
    (hx : a.eval x = .slice ad n c) (hy : a.eval y = .slice none 0 0) (he : (eqNil o.dst op ad.isNone).Ev C Rd s ws) : Goes P B N o s w a ws := by
  have hg : ∀ (op : BinOp), (eqGuard op t x y (.slice ad n c) (.slice none 0 0)).run P w = .ok () w := by
    intro op; unfold eqGuard; cases op <;> rfl
  have heq : (Op.equal t (.slice ad n c) (.slice none 0 0)).run P w = .ok ad.isNone w := by
    have : ∀ d : Nat, (Op.equalIn (d + 1) t (.slice ad n c) (.slice none 0 0)).run P w = .ok ad.isNone w := by
      intro d
      cases ad <;> simp only [Op.equalIn, Sem.run_bind, run_underlying ht, Result.andThen_ok, Sem.run_pure, Option.isNone]
    exact this 9999
  unfold eqNil at he
  split at he
  · exact goes_bool h hd (by simp [execOp, ho, hx, hy, hg, binOp, heq]) he
  · exact goes_bool h hd (by simp [execOp, ho, hx, hy, hg, binOp, heq]) he
  · exact he.elim

/-! ### every operation -/
theorem mapped {x : Operand} {v : AV} (h : VR w g v (a.eval x)) : (some v = none ∧ (some x).map a.eval = none) ∨ ∃ y z, some v = some y ∧ (some x).map a.eval = some z ∧ VR w g y z := .inr ⟨v, _, rfl, rfl, h⟩
theorem unmapped : ((none : Option AV) = none ∧ (none : Option Operand).map a.eval = none) ∨ ∃ y z, (none : Option AV) = some y ∧ (none : Option Operand).map a.eval = some z ∧ VR w g y z := .inl ⟨rfl, rfl⟩

theorem ofPlain_TR {pr : Nat → Nat → Prop} {T : Ty} {v : AV} {u : Value} {x : T.den} (h : ofPlain T v = some x) (hv : PV w pr v u) : ∃ us, InIf T.isSt u us ∧ TR w pr T x us := by
  unfold ofPlain at h
  cases hs : T.isSt with
  | true =>
    rw [hs] at h
    simp only [] at h
    split at h
    · rename_i cs
      rcases hv with hv | ⟨cs', us, e1, e2, e3⟩
      · exact hv.elim
      · cases e1
        exact ⟨us, e2, ofCells_TR h e3⟩
    · cases h
  | false =>
    rw [hs] at h
    simp only [] at h
    cases hp : isPlainCell v with
    | false => rw [hp] at h; cases h
    | true =>
      rw [hp] at h
      rcases hv with hv | ⟨cs', us, e1, _, _⟩
      · exact ⟨[u], rfl, ofCells_TR h ⟨hv, trivial⟩⟩
      · rw [e1] at hp; exact Bool.noConfusion (show false = true from hp)

theorem goes_iface (hT : TIok P TI) (h : Rel B g s w a N) (hd : ∀ t, o.dst = some t → t < N) {t : TypeId} {x : Operand} (ho : o.op = .makeInterface t x)
    (he0 : (rdv x fun v => pgIface TI o.dst t v).Ev C Rd s ws) : Goes P B N o s w a ws := by
  obtain ⟨p, hp, he⟩ := rdv_ev h he0
  clear he0
  unfold pgIface at he
  obtain ⟨v', ws', g1, he, hpm, h2, hk, hpv⟩ := snap1_ev (Promo.refl s) (by simpa [S.puts] using h) hp he
  unfold tinf at he
  cases hi : TI t with
  | none => rw [hi] at he; exact he.elim
  | some i =>
    rw [hi] at he
    obtain ⟨ti, d, z, T⟩ := hT.get hi
    simp only [] at he
    have key : i.kn ≠ .other → (∀ e, i.kn ≠ .ptr e) → (match ofPlain i.ty v' with
        | some x => Pg.ret (ws' ++ wrd o.dst (.ifv t i.ty x))
        | none => .fail).Ev C Rd s ws → Goes P B N o s w a ws := by
      intro k1 k2 he
      cases hof : ofPlain i.ty v' with
      | none => rw [hof] at he; exact he.elim
      | some y =>
        rw [hof] at he
        have : ws = ws' ++ wrd o.dst (.ifv t i.ty y) := he
        subst this
        obtain ⟨us, q1, q2⟩ := ofPlain_TR hof hpv
        have hv2 : VR w g1 (.ifv t i.ty y) (.iface t (a.eval x)) := VR_of_LR (LR_of_PR (show PR w g1.pr (.ifv t i.ty y) _ from ⟨_, us, rfl, q1, q2⟩))
        refine goes_value (g' := g1) (u := .iface t (a.eval x)) ?_ (by rw [S.puts_append]; exact h2.wrd hv2 hd) (BelowB.refl _ _)
        have hni : (Instr.makeInterface t (a.eval x)).run P w = .ok (.iface t (a.eval x)) w := by
          simp only [Instr.makeInterface, Sem.run_bind, run_underlying T.und w, Result.andThen_ok]
          have hu := T.undok
          unfold undOK at hu
          cases d <;> first | rfl | (exfalso; cases hk : i.kn <;> rw [hk] at hu k1 <;> first | exact k1 rfl | cases hu)
        simp only [execOp, ho, Sem.run_bind, hni, Result.andThen_ok, Sem.run_pure]
    cases hk : i.kn with
    | other => rw [hk] at he; exact he.elim
    | ptr e => rw [hk] at he; exact he.elim
    | _ => rw [hk] at he; exact key (by rw [hk]; simp) (by rw [hk]; simp) he

theorem goes_nilCheck (h : Rel B g s w a N) (hd : ∀ t, o.dst = some t → t < N) {x : Operand} (ho : o.op = .nilCheck x)
    (he0 : (rdv x fun v => match v with
      | .ptr _ _ | .pim _ _ | .pel _ _ _ | .gar _ _ _ | .imm _ _ => retv o.dst v
      | _ => .fail).Ev C Rd s ws) : Goes P B N o s w a ws := by
  obtain ⟨p, hp, he⟩ := rdv_ev h he0
  clear he0
  have key : ∀ ad : Addr, a.eval x = .pointer (some ad) → (retv o.dst p).Ev C Rd s ws → Goes P B N o s w a ws := fun ad hx he =>
    goes_pure h hd hp (by simp [execOp, ho, hx]) he
  cases p with
  | ptr b off => obtain ⟨k, _, hx⟩ := id hp; exact key _ hx he
  | pim cs off => obtain ⟨ad, us, hx, _⟩ := id hp; exact key _ hx he
  | pel t i off => obtain ⟨tg, k, _, _, hx⟩ := id hp; exact key _ hx he
  | gar e T l => obtain ⟨ad, hx, _⟩ := id hp; exact key _ hx he
  | imm T0 x0 =>
    obtain ⟨ad, us, hx, _⟩ := (show TR w g.pr (.ref T0) x0 [_] from hp)
    exact key ad (by simpa using hx) he
  | _ => exact he.elim

theorem goes_gar (hT : TIok P TI) (h : Rel B g s w a N) (hd : ∀ t, o.dst = some t → t < N) {t : TypeId} {x y : Operand} (ho : o.op = .indexAddr t x y)
    (he0 : (rdv x fun x => rdv y fun i => pgGar TI o.dst t x i).Ev C Rd s ws) : Goes P B N o s w a ws := by
  obtain ⟨p, hp, he1⟩ := rdv_ev h he0
  obtain ⟨q, hq, he⟩ := rdv_ev h he1
  clear he0 he1
  unfold pgGar at he
  split at he
  · rename_i e T' l k n
    have hn := VR_int hq
    unfold tinf at he
    cases hei : TI e with
    | none => rw [hei] at he; exact he.elim
    | some ei =>
      rw [hei] at he
      simp only [] at he
      obtain ⟨_, _, _, E⟩ := hT.get hei
      cases hd2 : T'.dec ei.ty with
      | none => rw [hd2] at he; exact he.elim
      | some hh =>
        rw [hd2] at he
        simp only [] at he
        split at he
        · rename_i hany
          obtain ⟨⟨t', m⟩, hmem, hpq⟩ := List.any_eq_true.1 hany
          simp only [Bool.and_eq_true] at hpq
          have e1 := Nat.eq_of_beq_eq_true hpq.1
          have e2 := Nat.eq_of_beq_eq_true hpq.2
          subst e1 e2
          have hun : P.underlying t' = some (.array l.length e) := by
            have := List.all_eq_true.1 E.arr _ hmem
            simp only at this
            split at this
            · rename_i n' e' hu
              simp only [Bool.and_eq_true] at this
              rw [hu, Nat.eq_of_beq_eq_true this.1, Nat.eq_of_beq_eq_true this.2]
            · cases this
          obtain ⟨h0, hlt, he⟩ := he
          have h0 : 0 ≤ n := by simpa using h0
          have hlt : n < l.length := by simpa using hlt
          have hnat : n.toNat < l.length := by omega
          have hsz : T'.size = ei.size := by rw [hh.down]; exact E.tysz
          obtain ⟨ad, hu, hr⟩ := (show GarR _ _ _ _ _ from hp)
          obtain ⟨vs, v1, v2, v3⟩ := hr n.toNat l[n.toNat] (by simp [hnat])
          have hget : l.getD n.toNat T'.dflt = l[n.toNat] := by simp [List.getD, hnat]
          rw [hget] at he
          refine goes_pure h hd (show VR w g (.pim (T'.cells l[n.toNat]) 0) (.pointer (some ((ad.add (n.toNat * T'.size)).add 0))) from ⟨_, vs, rfl, cells_PR v3, fun i u hu => by rw [add_add]; exact v2 i u hu⟩) ?_ he
          simp only [execOp, ho, hu, hn, Instr.indexAt, Instr.sureAddr, asIntOf, Sem.run_bind, Sem.run_pure, Result.andThen_ok, run_underlying hun, h0, hlt, and_self, if_true, E.sizeOf]
          rw [hsz]; simp [Addr.add]
        · exact he.elim
  · exact he.elim

theorem goes_pg (hT : TIok P TI) (hC : ∀ f args v, C f args v → CallOK P f args v) (h : Rel B g s w a N) (hd : ∀ t, o.dst = some t → t < N) (he : (pg TI o).Ev C Rd s ws) : Goes P B N o s w a ws := by
  cases ho : o.op with
  | move x => exact goes_move h hd (.inl ho) he
  | assign x => exact goes_move h hd (.inr ho) he
  | pick c x y => unfold pg at he; rw [ho] at he; exact goes_pick h hd ho he
  | alloc e =>
    unfold pg at he; rw [ho] at he
    cases hdst : o.dst with
    | none => simp only [hdst] at he; exact he.elim
    | some tt => simp only [hdst] at he; exact goes_alloc hT h hd ho hdst he
  | box e x =>
    unfold pg at he; rw [ho] at he
    cases hdst : o.dst with
    | none => simp only [hdst] at he; exact he.elim
    | some tt => simp only [hdst] at he; exact goes_box h hd ho hdst he
  | build t ps => unfold pg at he; rw [ho] at he; exact goes_build hT h hd ho he
  | buildSlice t n ps => unfold pg at he; rw [ho] at he; exact goes_buildSlice hT h hd ho he
  | load t x => unfold pg at he; rw [ho] at he; exact goes_load hT h hd ho he
  | store t x y =>
    unfold pg at he; rw [ho] at he
    cases hdst : o.dst with
    | some tt => simp only [hdst] at he; exact he.elim
    | none => simp only [hdst] at he; exact goes_store hT h hdst ho he
  | unOp op t x => unfold pg at he; rw [ho] at he; exact goes_un h hd ho he
  | convert x y z => unfold pg at he; rw [ho] at he; exact goes_convert hT h hd ho he
  | makeSlice t n c => unfold pg at he; rw [ho] at he; exact goes_makeSlice hT h hd ho he
  | fieldAddr t x f => unfold pg at he; rw [ho] at he; exact goes_fieldAddr hT h hd ho he
  | field t x f => unfold pg at he; rw [ho] at he; exact goes_field hT h hd ho he
  | indexAddr t x i =>
    unfold pg at he; rw [ho] at he
    cases x with
    | global n => exact goes_gar hT h hd ho he
    | _ => exact goes_indexAddr hT h hd ho he
  | nilCheck x => unfold pg at he; rw [ho] at he; exact goes_nilCheck h hd ho he
  | extract x i => unfold pg at he; rw [ho] at he; exact goes_extract h hd ho he
  | index t x i =>
    unfold pg at he; rw [ho] at he
    obtain ⟨p, hp, he1⟩ := rdv_ev h he
    obtain ⟨q, hq, he2⟩ := rdv_ev h he1
    unfold tinf at he2
    cases hi : TI t with
    | none => rw [hi] at he2; exact he2.elim
    | some ti =>
      rw [hi] at he2
      obtain ⟨_, d, z, T⟩ := hT.get hi
      simp only [] at he2
      split at he2
      · rename_i hk
        obtain ⟨h0, h1, he3⟩ := he2
        exact goes_index h hd ho (T.str hk) (VR_str hp) (VR_int hq) (by simpa using h0) (by simpa using h1) he3
      · exact he2.elim
  | binOp op t x y yt =>
    unfold pg at he; rw [ho] at he
    obtain ⟨p, hp, he1⟩ := rdv_ev h he
    obtain ⟨q, hq, he2⟩ := rdv_ev h he1
    cases p with
    | int j m =>
      cases q with
      | int j' n => exact goes_binInt h hd ho (VR_int hp) (VR_int hq) he2
      | _ => exact he2.elim
    | str m =>
      cases q with
      | str n => exact goes_binStr h hd ho (VR_str hp) (VR_str hq) he2
      | _ => exact he2.elim
    | bool m =>
      simp only [] at he2
      unfold tinf at he2
      cases hi : TI t with
      | none => rw [hi] at he2; exact he2.elim
      | some ti =>
        rw [hi] at he2
        obtain ⟨_, d, z, T⟩ := hT.get hi
        simp only [] at he2
        split at he2
        · rename_i hk
          have hu : P.underlying t = some .bool := by
            have h1 := T.undok
            rw [T.und]
            unfold undOK at h1
            rw [hk] at h1
            cases d <;> first | rfl | (simp at h1)
          cases q with
          | bool n => exact goes_binBool h hd ho hu (VR_bool hp) (VR_bool hq) he2
          | _ => exact he2.elim
        · exact he2.elim
    | nilsl =>
      cases q with
      | nilsl =>
        simp only [] at he2
        unfold tinf at he2
        cases hi : TI t with
        | none => rw [hi] at he2; exact he2.elim
        | some ti =>
          rw [hi] at he2
          obtain ⟨_, d, z, T⟩ := hT.get hi
          simp only [] at he2
          cases hk : ti.kn with
          | slice e => simp only [hk, isSlK] at he2; exact goes_eqNil h hd ho (T.slice hk) hp hq he2
          | _ => simp only [hk, isSlK] at he2; exact he2.elim
      | _ => exact he2.elim
    | nsl T' l' =>
      cases q with
      | nilsl =>
        simp only [] at he2
        unfold tinf at he2
        cases hi : TI t with
        | none => rw [hi] at he2; exact he2.elim
        | some ti =>
          rw [hi] at he2
          obtain ⟨_, d, z, T⟩ := hT.get hi
          simp only [] at he2
          obtain ⟨_, ad, n, c, hx⟩ := hp
          cases hk : ti.kn with
          | slice e => simp only [hk, isSlK] at he2; exact goes_eqNil h hd ho (T.slice hk) hx hq (by exact he2)
          | _ => simp only [hk, isSlK] at he2; exact he2.elim
      | _ => exact he2.elim
    | agg cx =>
      simp only [] at he2
      unfold tinf at he2
      cases hi : TI t with
      | none => rw [hi] at he2; exact he2.elim
      | some ti =>
        rw [hi] at he2
        simp only [] at he2
        split at he2
        · rename_i cy hq1
          split at he2
          · rename_i p q' e1 e2
            split at he2
            · exact goes_same hT h hd ho hp hq hi hq1 e1 e2 (.inl ⟨rfl, rfl⟩) he2
            · exact goes_same hT h hd ho hp hq hi hq1 e1 e2 (.inr ⟨rfl, rfl⟩) he2
            · exact he2.elim
          · exact he2.elim
        · exact he2.elim
    | _ => exact he2.elim
  | slice t x lo hi mx =>
    unfold pg at he; rw [ho] at he
    obtain ⟨p, hp, he1⟩ := rdv_ev h he
    obtain ⟨vs, hvs, he2⟩ := rdvs_ev h he1
    split at he2
    · exact goes_slice hT h hd ho hp unmapped unmapped unmapped (by simp) he2
    · exact goes_slice hT h hd ho hp (mapped hvs.1) unmapped unmapped (by simp) he2
    · exact goes_slice hT h hd ho hp unmapped (mapped hvs.1) unmapped (by simp) he2
    · exact goes_slice hT h hd ho hp (mapped hvs.1) (mapped hvs.2.1) unmapped (by simp) he2
    · exact goes_slice hT h hd ho hp unmapped (mapped hvs.1) (mapped hvs.2.1) (by simp) he2
    · exact goes_slice hT h hd ho hp (mapped hvs.1) (mapped hvs.2.1) (mapped hvs.2.2.1) (by simp) he2
    · exact he2.elim
  | makeFunc fn first captured =>
    unfold pg at he; rw [ho] at he
    cases hfst : first.toList with
    | cons _ _ => simp only [hfst] at he; cases fn <;> exact he.elim
    | nil =>
      cases fn with
      | func f =>
        simp only [hfst] at he
        have : first = #[] := by apply Array.ext'; rw [hfst]
        subst this
        exact goes_makeFunc h hd ho he
      | _ => simp only [hfst] at he; exact he.elim
  | makeInterface t x =>
    unfold pg at he; rw [ho] at he
    exact goes_iface hT h hd ho he
  | call c =>
    unfold pg at he; rw [ho] at he
    obtain ⟨vs, hvs, he2⟩ := rdvs_ev h he
    obtain ⟨callee, args, types⟩ := c
    simp only [] at he2 hvs
    unfold pgCall at he2
    split at he2
    · rename_i x
      cases hargs : args.toList with
      | nil => rw [hargs] at hvs; exact hvs.elim
      | cons y ys =>
        rw [hargs] at hvs
        cases ys with
        | cons _ _ => exact hvs.2.elim
        | nil =>
          have ea : args = #[y] := by apply Array.ext'; simpa using hargs
          subst ea
          split at he2
          · rename_i t ht
            have et : types = #[t] := by apply Array.ext'; simpa using ht
            subst et
            exact goes_len hT h hd ho hvs.1 (by unfold pgCall; exact he2)
          · exact he2.elim
    · rename_i p q
      cases hargs : args.toList with
      | nil => rw [hargs] at hvs; exact hvs.elim
      | cons y ys =>
        rw [hargs] at hvs
        cases ys with
        | nil => exact hvs.2.elim
        | cons z zs =>
          cases zs with
          | cons _ _ => exact hvs.2.2.elim
          | nil =>
            have ea : args = #[y, z] := by apply Array.ext'; simpa using hargs
            subst ea
            split at he2
            · rename_i t xt ht
              have et : types = #[t, xt] := by apply Array.ext'; simpa using ht
              subst et
              exact goes_append hT h hd ho hvs.1 hvs.2.1 he2
            · exact he2.elim
    · exact goes_call hC h hd ho hvs he2
    · exact goes_invoke hT hC h hd ho hvs he2
    · exact he2.elim
  | _ => unfold pg at he; rw [ho] at he; exact he.elim

/-! ### guards -/
theorem S.put_tmp_self {t : Nat} {v : AV} (h : s.tmps t = v) : s.put (.tmp t v) = s := by
  cases s; simp only [S.put] at h ⊢; congr 1; rw [← h]; exact upd_self _ _

end
end Go.Proofs.YtjgnpmdbkgeakaaDoor.Th
