/- THEORY, part K: stores, addresses, fields, elements. No condition. -/
import Derived.Test.YtjgnpmdbkgeakaaDoorThJ
set_option linter.unusedVariables false
set_option linter.unusedSimpArgs false
namespace Go.Proofs.YtjgnpmdbkgeakaaDoor.Th
open Go Go.RowKit

section
variable {P : Program} {TI : TEnv} {C : FuncId → List AV → AV → Prop} {Rd : Rs → Prop} {B : Bd} {N : Nat} {g g' : Gh} {s : S} {w w' : World} {a : Act} {o : Oper} {ws : List Wr}

theorem run_storeVar {t : TypeId} {i : TInfo} {ti : TypeInfo} {d : TypeDesc} {z : Value} (T : TypeIs P t i ti d z) {k off : Nat} {us : Array Value} {e : TypeId} {fr : Nat × Nat}
    (hr : w.heap[k]? = some (.cells us e fr)) (ht : Thawed fr us.size) {u : Value} (hn : u.cells.size = i.size) (hl : off + i.size ≤ us.size) (h1 : ∀ x ∈ u.cells.toList, x.oneCell' = true) :
    (storeVar t ⟨k, off, none⟩ u).run P w = .ok () (w.setRow k (over us.toList off u.cells.toList).toArray) := by
  have := run_storeRow (P := P) u.cells.toList off 0 w us hr ht (by simp; omega) h1
  simp only [storeVar, Sem.run_bind, T.sizeOf, Result.andThen_ok, hn, ne_eq, not_true_eq_false, if_false, this, Nat.add_zero, Sem.run_ite, Sem.run_pure]

theorem execOp_store {t : TypeId} {x y : Operand} (ho : o.op = .store t x y) {ad : Addr} (hx : a.eval x = .pointer (some ad)) (hl : (storeVar t ad (a.eval y)).run P w = .ok () w') :
    (execOp a.eval o).run P w = .ok .skip w' := by
  simp [execOp, ho, hx, Instr.storeAt, Instr.sureAddr, hl]

theorem over_All2 {R : AV → Value → Prop} {cs vs : List AV} {us xs : List Value} {off : Nat} (h : All2 R cs us) (k : All2 R vs xs) : All2 R (splice cs off vs) (over us off xs) := by
  unfold splice over
  rw [k.len]
  exact ((h.take off).append k).append (h.drop _)

theorem touches_toks {t : Nat} : ∀ {ws : List Wr} {s : S}, touches t ws = false → (s.puts ws).toks t = s.toks t
  | [], s, _ => rfl
  | x :: ws, s, h => by
    cases x with
    | tok u c =>
      simp only [touches, Bool.or_eq_false_iff] at h
      have hne : t ≠ u := fun e => by rw [e, beq_self] at h; cases h.1
      rw [S.puts, touches_toks h.2]
      simp [S.put, upd_ne _ _ _ _ hne]
    | tmp u c => rw [S.puts, touches_toks (by simpa [touches] using h)]; rfl
    | box u c => rw [S.puts, touches_toks (by simpa [touches] using h)]; rfl

theorem rowOf_set {pr : Nat → Nat → Prop} {T : Ty} {l : List T.den} {us : Array Value} {x : T.den} {j off : Nat} {xs : List Value} (h : RowOf w pr T l us) (hj : j < l.length) (hoff : off + xs.length ≤ T.size)
    (hfit : l.length * T.size ≤ us.size) (hx : ∀ vs : List Value, vs.length = T.size → (∀ (i : Nat) (v : Value), vs[i]? = some v → us[j * T.size + i]? = some v) → TR w pr T l[j] vs → TR w pr T x (over vs off xs)) :
    RowOf w pr T (l.set j x) (over us.toList (j * T.size + off) xs).toArray := by
  have hjs : (j + 1) * T.size ≤ l.length * T.size := Nat.mul_le_mul_right _ hj
  have hjs2 : (j + 1) * T.size = j * T.size + T.size := by rw [Nat.add_mul]; omega
  have hfit2 : j * T.size + off + xs.length ≤ us.toList.length := by simp; omega
  intro j' y hy
  by_cases e : j' = j
  · subst e
    simp [hj] at hy; subst hy
    obtain ⟨vs, v1, v2, v3⟩ := h j' l[j'] (by simp [hj])
    refine ⟨over vs off xs, by rw [over_len (by omega)]; exact v1, fun i v hv => ?_, hx vs v1 v2 v3⟩
    have hi : i < T.size := by have := (List.getElem?_eq_some_iff.1 hv).1; rw [over_len (by omega), v1] at this; exact this
    rw [List.getElem?_toArray, over_get hfit2]
    rw [over_get (by omega)] at hv
    by_cases a1 : i < off
    · rw [if_pos a1] at hv
      rw [if_pos (by omega)]
      simpa using v2 i v hv
    · rw [if_neg a1] at hv
      rw [if_neg (by omega)]
      by_cases a2 : i < off + xs.length
      · rw [if_pos a2] at hv
        rw [if_pos (by omega), show j' * T.size + i - (j' * T.size + off) = i - off from by omega]; exact hv
      · rw [if_neg a2] at hv
        rw [if_neg (by omega)]
        simpa using v2 i v hv
  · rw [List.getElem?_set_ne (Ne.symm e)] at hy
    obtain ⟨vs, v1, v2, v3⟩ := h j' y hy
    refine ⟨vs, v1, fun i v hv => ?_, v3⟩
    have hi : i < T.size := by rw [← v1]; exact (List.getElem?_eq_some_iff.1 hv).1
    rw [List.getElem?_toArray, over_get hfit2]
    have hv2 := v2 i v hv
    rcases Nat.lt_or_gt_of_ne e with lt | gt
    · have : (j' + 1) * T.size ≤ j * T.size := Nat.mul_le_mul_right _ lt
      have : (j' + 1) * T.size = j' * T.size + T.size := by rw [Nat.add_mul]; omega
      rw [if_pos (by omega)]; simpa using hv2
    · have : (j + 1) * T.size ≤ j' * T.size := Nat.mul_le_mul_right _ gt
      rw [if_neg (by omega), if_neg (by omega)]; simpa using hv2

theorem nofz {cs : List AV} {off n o : Nat} {v : AV} (h : ((cs.drop off).take n).any isFz = false) (ho : cs[o]? = some (.fz v)) : o < off ∨ off + n ≤ o := by
  by_cases h1 : o < off
  · exact .inl h1
  · by_cases h2 : off + n ≤ o
    · exact .inr h2
    · have hm : ((cs.drop off).take n)[o - off]? = some (.fz v) := by
        rw [List.getElem?_take_of_lt (by omega), List.getElem?_drop, show off + (o - off) = o by omega, ho]
      rw [List.any_eq_false] at h
      exact absurd rfl (h _ (List.mem_of_getElem? hm))
theorem splice_out {cs new : List AV} {off o : Nat} (hf : off + new.length ≤ cs.length) (h : o < off ∨ off + new.length ≤ o) : (splice cs off new)[o]? = cs[o]? := by
  unfold splice
  have hl : (cs.take off).length = off := by simp; omega
  rcases h with h | h
  · rw [List.append_assoc, List.getElem?_append_left (by omega), List.getElem?_take_of_lt h]
  · rw [List.getElem?_append_right (by simp; omega), List.getElem?_drop]
    congr 1
    simp; omega

theorem goes_store (hT : TIok P TI) (h : Rel B g s w a N) (hd : o.dst = none) {t : TypeId} {x y : Operand} (ho : o.op = .store t x y)
    (he0 : (rdv x fun p => rdv y fun v => pgStore TI t p v).Ev C Rd s ws) : Goes P B N o s w a ws := by
  obtain ⟨p, hp, he1⟩ := rdv_ev h he0
  obtain ⟨v, hv, he⟩ := rdv_ev h he1
  clear he0 he1
  unfold pgStore tinf at he
  cases hi : TI t with
  | none => rw [hi] at he; exact he.elim
  | some i =>
    rw [hi] at he
    obtain ⟨ti, d, z, T⟩ := hT.get hi
    cases hq : v.isVal && decide (v.cells.length = i.size) with
    | false => simp only [hq] at he; exact he.elim
    | true =>
      simp only [hq] at he
      simp only [Bool.and_eq_true, decide_eq_true_eq] at hq
      have hvl := VR_val hv hq.1
      obtain ⟨hc, h1⟩ := LR_cells hvl hq.1
      have hn : (a.eval y).cells.size = i.size := by have := hc.len; simp at this; omega
      cases p with
      | ptr b off =>
        simp only [] at he
        obtain ⟨_, he⟩ := he
        cases hb : s.boxes b with
        | none => rw [hb] at he; exact he.elim
        | some cs =>
          rw [hb] at he
          simp only [] at he
          cases hl : (decide (off + i.size ≤ cs.length) && !(((cs.drop off).take i.size).any isFz)) with
          | false => rw [hl] at he; exact he.elim
          | true =>
            rw [hl] at he
            simp only [Bool.and_eq_true, Bool.not_eq_true'] at hl
            obtain ⟨hl, hnf⟩ := hl
            have : ws = _ := he
            subst this
            obtain ⟨k, hβ, ok⟩ := h.bx b cs hb
            obtain ⟨us, e, fr, r1, r2, r3⟩ := ok.row
            obtain ⟨k', hβ', hu⟩ := hp
            rw [hβ] at hβ'; cases hβ'
            have hsz : cs.length = us.size := by simpa using r3.len
            have hfit : off + i.size ≤ us.size := by rw [← hsz]; simpa using hl
            have hrun := run_storeVar T r1 r2 hn hfit h1
            have hr' := setRow_heap w k us (over us.toList off (a.eval y).cells.toList).toArray e fr r1
            have hsize : (over us.toList off (a.eval y).cells.toList).toArray.size = us.size := by
              rw [List.size_toArray, over_len (by simp; omega)]; simp
            obtain ⟨h2, _⟩ := h.setBox hb hβ (only_setRow k _) hr' (by rw [hsize]; exact r2) (cs' := splice cs off v.cells) (over_All2 r3 hc) (fun o p => by
              obtain ⟨vz, hz⟩ := ok.free o p
              have hout := nofz hnf hz
              rw [cell_of hr', cell_of r1, List.getElem?_toArray, over_get (by simp; omega)]
              rcases hout with h1 | h1
              · rw [if_pos h1]; simp
              · rw [if_neg (by omega), if_neg (by simp; omega)]; simp) (fun o p => by
              obtain ⟨vz, hz⟩ := ok.free o p
              have hvl2 : v.cells.length = i.size := hq.2
              have hl' : off + i.size ≤ cs.length := by simpa using hl
              exact ⟨vz, by rw [splice_out (by omega) (by rw [hvl2]; exact nofz hnf hz), hz]⟩)
            exact goes_skip (execOp_store ho hu hrun) (by rw [hd]; exact h2) (below_setRow ok.above _)
      | pel t' j off =>
        simp only [] at he
        obtain ⟨vs, ws', g1, he, hpm, h2, hk, hvs⟩ := snaps_ev (Promo.refl s) (by simpa [S.puts] using h) (hc.imp fun _ _ => VR_of_LR) he
        obtain ⟨_, he⟩ := he
        cases ht : s.toks t' with
        | abs => rw [ht] at he; exact he.elim
        | dead => rw [ht] at he; exact he.elim
        | live sh T' l =>
          cases sh with
          | true => rw [ht] at he; exact he.elim
          | false =>
            rw [ht] at he
            obtain ⟨hj, htch, hpl, he⟩ := he
            have hj : j < l.length := by simpa using hj
            have htch : touches t' ws' = false := by simpa using htch
            cases hq1 : decide (off + i.size ≤ T'.size) with
            | false => rw [hq1] at he; exact he.elim
            | true =>
              cases hq2 : T'.ofCells (splice (T'.cells (l.getD j T'.dflt)) off vs) with
              | none => rw [hq1, hq2] at he; exact he.elim
              | some x =>
                rw [hq1, hq2] at he
                have : ws = _ := he
                subst this
                have hoff : off + i.size ≤ T'.size := by simpa using hq1
                have hlive : (s.puts ws').toks t' = .live false T' l := by rw [touches_toks htch, ht]
                obtain ⟨tg, hτ, ez, r⟩ := h2.tk t' false T' l hlive
                have hp2 := VR.keeps hk hp
                obtain ⟨tg', k, hτ', hblk, hu⟩ := hp2
                rw [hτ] at hτ'; cases hτ'
                rcases r with ⟨_, e, _⟩ | ⟨k', cap, hval, e, r⟩
                · rw [hblk] at e; cases e
                · rw [hblk] at e; cases e
                  obtain ⟨us, el, fr, r1, r2, r3, r4⟩ := r.row
                  rw [ez] at hu
                  have hxl : (a.eval y).cells.toList.length = i.size := by simpa using hn
                  have hfit : l.length * T'.size ≤ us.size := Nat.le_trans (Nat.mul_le_mul_right _ r.len) r3
                  have hjs : (j + 1) * T'.size ≤ l.length * T'.size := Nat.mul_le_mul_right _ hj
                  have hjs2 : (j + 1) * T'.size = j * T'.size + T'.size := by rw [Nat.add_mul]; omega
                  have hrun := run_storeVar (w := w) (off := j * T'.size + off) T r1 r2 hn (by omega) h1
                  have hr' := setRow_heap w k us (over us.toList (j * T'.size + off) (a.eval y).cells.toList).toArray el fr r1
                  have hsize : (over us.toList (j * T'.size + off) (a.eval y).cells.toList).toArray.size = us.size := by
                    rw [List.size_toArray, over_len (by simp; omega)]; simp
                  have hrow := rowOf_set (x := x) (off := off) (xs := (a.eval y).cells.toList) r4 hj (by omega) hfit (by
                    intro vs0 n0 _ t0
                    refine ofCells_TR hq2 ?_
                    rw [show l.getD j T'.dflt = l[j] from by simp [List.getD, hj]]
                    exact over_All2 (cells_PR t0) (PV_plain hvs hpl))
                  obtain ⟨h3, _⟩ := h2.setTok hlive hτ hval hblk (by simp) (only_setRow k _) hr' (by rw [hsize]; exact r2) (by rw [hsize]; exact r3) hrow
                  refine goes_skip (g' := g1) (execOp_store ho hu hrun) ?_ (below_setRow r.above _)
                  rw [hd, S.puts_one]
                  exact h3
      | _ => exact he.elim

/-! ### addresses of fields, fields -/
theorem run_fieldAt (hT : TIok P TI) {t : TypeId} {i : TInfo} {ti : TypeInfo} {d : TypeDesc} {z : Value} (T : TypeIs P t i ti d z) (hs : i.kn.isSt = true) {f off : Nat} {ft : TypeId} {fi : TInfo} (hf : i.fields[f]? = some (off, ft))
    (hfi : TI ft = some fi) (h0 : 0 < fi.size) (ad : Addr) : (Instr.fieldAt t (.pointer (some ad)) f).run P w = .ok (.pointer (some (ad.add off))) w := by
  obtain ⟨fs, hu, hfs⟩ := T.struct hs
  obtain ⟨_, _, _, F⟩ := hT.get hfi
  rw [hfs, List.getElem?_map] at hf
  cases hq : fs.toList[f]? with
  | none => rw [hq] at hf; cases hf
  | some fd =>
    rw [hq] at hf
    simp only [Option.map_some, Option.some.injEq, Prod.mk.injEq] at hf
    have hq2 : fs[f]? = some fd := by simpa using hq
    obtain ⟨rfl, rfl⟩ := hf
    have hz : ¬ fi.size = 0 := by omega
    simp [Instr.fieldAt, run_underlying hu, hq2, Instr.sureAddr, fieldPlace, F.sizeOf, hz]

theorem goes_fieldAddr (hT : TIok P TI) (h : Rel B g s w a N) (hd : ∀ t, o.dst = some t → t < N) {t : TypeId} {x : Operand} {f : Nat} (ho : o.op = .fieldAddr t x f)
    (he0 : (rdv x fun p => pgFieldAddr TI o.dst t p f).Ev C Rd s ws) : Goes P B N o s w a ws := by
  obtain ⟨p, hp, he⟩ := rdv_ev h he0
  clear he0
  unfold pgFieldAddr tinf at he
  cases hi : TI t with
  | none => rw [hi] at he; exact he.elim
  | some i =>
    rw [hi] at he
    obtain ⟨ti, d, z, T⟩ := hT.get hi
    cases hs : i.kn.isSt with
    | false => simp only [hs] at he; exact he.elim
    | true =>
      cases hf : i.fields[f]? with
      | none => simp only [hs, hf] at he; exact he.elim
      | some of =>
        obtain ⟨off, ft⟩ := of
        simp only [hs, hf] at he
        cases hfi : TI ft with
        | none => rw [hfi] at he; exact he.elim
        | some fi =>
          rw [hfi] at he
          simp only [] at he
          cases h0 : decide (0 < fi.size) with
          | false => rw [h0] at he; exact he.elim
          | true =>
            rw [h0] at he
            have hpos : 0 < fi.size := by simpa using h0
            have hrun : ∀ ad : Addr, a.eval x = .pointer (some ad) → (execOp a.eval o).run P w = .ok (.value (.pointer (some (ad.add off)))) w := by
              intro ad had
              simp [execOp, ho, had, run_fieldAt hT T hs hf hfi hpos ad]
            cases p with
            | ptr b o' =>
              obtain ⟨k, hβ, hu⟩ := hp
              refine goes_pure h hd (show VR w g (.ptr b (o' + off)) _ from ⟨k, hβ, rfl⟩) ?_ he
              rw [hrun _ hu, addr_add]
            | pim cs o' =>
              obtain ⟨ad, us, hu, h1, h2⟩ := hp
              refine goes_pure h hd (show VR w g (.pim cs (o' + off)) _ from ⟨ad, us, rfl, h1, h2⟩) ?_ he
              rw [hrun _ hu, add_add]
            | imm T0 x0 =>
              obtain ⟨ad, us, hu, h2, h1⟩ := (show TR w g.pr (.ref T0) x0 [_] from hp)
              have hu : a.eval x = .pointer (some ad) := by simpa using hu
              exact goes_pure h hd (show VR w g (.pim (T0.cells x0) off) _ from ⟨ad, us, rfl, cells_PR h1, h2⟩) (hrun _ hu) he
            | pel t' j o' =>
              obtain ⟨tg, k, h1, h2, hu⟩ := hp
              refine goes_pure h hd (show VR w g (.pel t' j (o' + off)) _ from ⟨tg, k, h1, h2, rfl⟩) ?_ he
              rw [hrun _ hu, addr_add, Nat.add_assoc]
            | _ => exact he.elim

theorem run_part {t : TypeId} {i : TInfo} {ti : TypeInfo} {d : TypeDesc} {z : Value} (T : TypeIs P t i ti d z) {us : List Value} {off : Nat} :
    (i.kn.isSt = true → (part t us.toArray off).run P w = .ok (.agg (us.drop off |>.take i.size).toArray) w) ∧
    (i.kn.isSt = false → ∀ u, us[off]? = some u → (part t us.toArray off).run P w = .ok u w) := by
  constructor
  · intro hs
    simp only [part, Sem.run_bind, T.isAgg, hs, Result.andThen_ok, if_true, T.sizeOf, Sem.run_pure]
    congr 2
    apply Array.ext'
    simp [List.take_drop]
  · intro hs u hu
    simp [part, T.isAgg, hs, hu]

theorem goes_field (hT : TIok P TI) (h : Rel B g s w a N) (hd : ∀ t, o.dst = some t → t < N) {t : TypeId} {x : Operand} {f : Nat} (ho : o.op = .field t x f)
    (he0 : (rdv x fun x => pgField TI o.dst t x f).Ev C Rd s ws) : Goes P B N o s w a ws := by
  obtain ⟨p, hp, he⟩ := rdv_ev h he0
  clear he0
  unfold pgField tinf at he
  cases hi : TI t with
  | none => rw [hi] at he; exact he.elim
  | some i =>
    rw [hi] at he
    obtain ⟨ti, d, z, T⟩ := hT.get hi
    cases hs : i.kn.isSt with
    | false => simp only [hs] at he; exact he.elim
    | true =>
      cases hf : i.fields[f]? with
      | none => simp only [hs, hf] at he; exact he.elim
      | some of =>
        obtain ⟨off, ft⟩ := of
        simp only [hs, hf] at he
        cases hfi : TI ft with
        | none => rw [hfi] at he; exact he.elim
        | some fi =>
          rw [hfi] at he
          simp only [] at he
          obtain ⟨_, _, _, F⟩ := hT.get hfi
          cases p with
          | agg cs =>
            obtain ⟨us, hu, hc⟩ := hp
            obtain ⟨fs, hun, hfs⟩ := T.struct hs
            rw [hfs, List.getElem?_map] at hf
            cases hq : fs.toList[f]? with
            | none => rw [hq] at hf; cases hf
            | some fd =>
              rw [hq] at hf
              simp only [Option.map_some, Option.some.injEq, Prod.mk.injEq] at hf
              have hq2 : fs[f]? = some fd := by simpa using hq
              obtain ⟨rfl, rfl⟩ := hf
              have hrun : ∀ v, (part fd.type us.toArray fd.offset).run P w = .ok v w → (execOp a.eval o).run P w = .ok (.value v) w := by
                intro v hv
                simp [execOp, ho, hu, Instr.field, run_underlying hun, hq2, asAgg, hv]
              unfold cut at he
              cases hs2 : fi.kn.isSt with
              | true =>
                rw [hs2] at he
                simp only [] at he
                cases hl : decide (fd.offset + fi.size ≤ cs.length) with
                | false => rw [hl] at he; exact he.elim
                | true =>
                  rw [hl] at he
                  simp only [cond_true] at he
                  have hc2 : All2 (LR w g) ((cs.drop fd.offset).take fi.size) ((us.drop fd.offset).take fi.size) := ((hc.imp fun _ _ => LR_of_PR).drop _).take _
                  obtain ⟨vs', ws', g', he2, hpr, h2, hk, hv⟩ := snaps_ev (Promo.refl s) (by simpa [S.puts] using h) ((unfz_all hc2).imp fun _ _ => VR_of_LR) he
                  cases hpl : vs'.all isPlainCell with
                  | false => rw [hpl] at he2; exact he2.elim
                  | true =>
                    rw [hpl] at he2
                    have : ws = ws' ++ wrd o.dst (.agg vs') := he2
                    subst this
                    refine goes_value (g' := g') (hrun _ ((run_part F).1 hs2)) ?_ (BelowB.refl _ _)
                    rw [S.puts_append]
                    exact h2.wrd (VR_of_LR (show LR w g' (.agg vs') _ from ⟨_, rfl, PV_plain hv hpl⟩)) hd
              | false =>
                rw [hs2] at he
                simp only [] at he
                cases hq3 : cs[fd.offset]? with
                | none => rw [hq3] at he; exact he.elim
                | some v =>
                  rw [hq3] at he
                  obtain ⟨u, hu2, hr⟩ := hc.get _ _ hq3
                  exact goes_pure h hd (VR_of_LR (LR_unfz (LR_of_PR hr))) (hrun _ ((run_part F).2 hs2 u hu2)) he
          | _ => exact he.elim

/-! ### elements -/
theorem goes_index (h : Rel B g s w a N) (hd : ∀ t, o.dst = some t → t < N) {t : TypeId} {x y : Operand} (ho : o.op = .index t x y) (ht : P.underlying t = some .string) {l : List UInt8} {k : IntKind} {n : Int}
    (hx : a.eval x = strV l) (hy : a.eval y = .int k n) (h0 : 0 ≤ n) (hn : n < l.length) (he : (retv o.dst (.int .u8 ((l.getD n.toNat 0).toNat : Int))).Ev C Rd s ws) : Goes P B N o s w a ws := by
  refine goes_int h hd ?_ he
  have hlt : n.toNat < l.length := by omega
  have e1 : (⟨l.toArray⟩ : ByteArray)[n.toNat]? = some (l.getD n.toNat 0) := by
    have hsz : n.toNat < (⟨l.toArray⟩ : ByteArray).size := by simpa [ByteArray.size] using hlt
    rw [getElem?_pos (⟨l.toArray⟩ : ByteArray) n.toNat hsz]
    simp [List.getD, hlt, ByteArray.getElem_eq_getElem_data]
  simp only [execOp, ho, hx, hy, Instr.index, strV, asIntOf, Sem.run_bind, Sem.run_pure, Result.andThen_ok, run_underlying ht, h0, if_true, e1]

theorem goes_extract (h : Rel B g s w a N) (hd : ∀ t, o.dst = some t → t < N) {x : Operand} {i : Nat} (ho : o.op = .extract x i)
    (he0 : (rdv x fun v => pgExtract o.dst v i).Ev C Rd s ws) : Goes P B N o s w a ws := by
  obtain ⟨p, hp, he⟩ := rdv_ev h he0
  clear he0
  unfold pgExtract at he
  cases p with
  | tup vs =>
    obtain ⟨us, hu, hc⟩ := hp
    simp only [] at he
    cases hq : vs[i]? with
    | none => rw [hq] at he; exact he.elim
    | some v =>
      rw [hq] at he
      obtain ⟨u, hu2, hr⟩ := hc.get _ _ hq
      refine goes_pure h hd (VR_of_LR hr) ?_ he
      simp [execOp, ho, hu, Instr.extract, hu2]
  | _ => exact he.elim

theorem goes_indexAddr (hT : TIok P TI) (h : Rel B g s w a N) (hd : ∀ t, o.dst = some t → t < N) {t : TypeId} {x y : Operand} (ho : o.op = .indexAddr t x y)
    (he0 : (rdv x fun x => rdv y fun i => pgIndexAddr TI o.dst t x i).Ev C Rd s ws) : Goes P B N o s w a ws := by
  obtain ⟨p, hp, he1⟩ := rdv_ev h he0
  obtain ⟨q, hq, he⟩ := rdv_ev h he1
  clear he0 he1
  unfold pgIndexAddr at he
  cases q with
  | int k n =>
    simp only [] at he
    have hn := VR_int hq
    unfold tinf at he
    cases hi : TI t with
    | none => rw [hi] at he; exact he.elim
    | some i =>
      rw [hi] at he
      obtain ⟨ti, d, z, T⟩ := hT.get hi
      cases hkn : i.kn with
      | slice e =>
        simp only [hkn] at he
        cases hei : TI e with
        | none => rw [hei] at he; exact he.elim
        | some ei =>
          rw [hei] at he
          simp only [] at he
          obtain ⟨_, _, _, E⟩ := hT.get hei
          have hun := T.slice hkn
          have hrun : ∀ (ad : Addr) (len cap : Nat), a.eval x = .slice (some ad) len cap → 0 ≤ n → n < len → (execOp a.eval o).run P w = .ok (.value (.pointer (some (ad.add (n.toNat * ei.size))))) w := by
            intro ad len cap hx h0 hlt
            simp only [execOp, ho, hx, hn, Instr.indexAt, asIntOf, Sem.run_bind, Sem.run_pure, Result.andThen_ok, run_underlying hun, h0, hlt, and_self, if_true, E.sizeOf]
          cases p with
          | sl T' l =>
            simp only [] at he
            cases hd2 : T'.dec ei.ty with
            | none => rw [hd2] at he; exact he.elim
            | some hh =>
              rw [hd2] at he
              obtain ⟨h0, hlt, he⟩ := he
              have h0 : 0 ≤ n := by simpa using h0
              have hlt : n < l.length := by simpa using hlt
              have hnat : n.toNat < l.length := by omega
              have hsz : T'.size = ei.size := by rw [hh.down]; exact E.tysz
              obtain ⟨ad, c, hu, hc, hr⟩ := (show SlR _ _ _ _ _ _ from hp)
              have hu : a.eval x = .slice ad l.length c := by simpa using hu
              obtain ⟨a0, vs, rfl, v1, v2, v3⟩ := hr n.toNat l[n.toNat] (by simp [hnat])
              have hget : l.getD n.toNat T'.dflt = l[n.toNat] := by simp [List.getD, hnat]
              rw [hget] at he
              refine goes_pure h hd (show VR w g (.pim (T'.cells l[n.toNat]) 0) (.pointer (some ((a0.add (n.toNat * T'.size)).add 0))) from ⟨_, vs, rfl, cells_PR v3, fun i u hu => by rw [add_add]; exact v2 i u hu⟩) ?_ he
              rw [hrun a0 _ c hu h0 hlt, hsz]; simp [Addr.add]
          | ref t' =>
            simp only [] at he
            obtain ⟨_, he⟩ := he
            cases ht : s.toks t' with
            | abs => rw [ht] at he; exact he.elim
            | dead => rw [ht] at he; exact he.elim
            | live sh T' l =>
              rw [ht] at he
              simp only [] at he
              cases hd2 : T'.dec ei.ty with
              | none => rw [hd2] at he; exact he.elim
              | some hh =>
                rw [hd2] at he
                obtain ⟨h0, hlt, he⟩ := he
                have h0 : 0 ≤ n := by simpa using h0
                have hlt : n < l.length := by simpa using hlt
                have hsz : T'.size = ei.size := by rw [hh.down]; exact E.tysz
                obtain ⟨tg, hτ, ez, r⟩ := h.tk t' sh T' l ht
                obtain ⟨tg', hτ', hu, _⟩ := hp
                rw [hτ] at hτ'; cases hτ'
                rcases r with ⟨_, _, e⟩ | ⟨k', cap, hval, hblk, r⟩
                · subst e; simp at hlt; omega
                · rw [hval] at hu
                  refine goes_pure h hd (show VR w g (.pel t' n.toNat 0) (.pointer (some ⟨k', n.toNat * tg.esz + 0, none⟩)) from ⟨tg, k', hτ, hblk, rfl⟩) ?_ he
                  rw [hrun _ _ cap hu h0 hlt, addr_add, ez, hsz]; simp
          | _ => exact he.elim
      | _ => simp only [hkn] at he; exact he.elim
  | _ => exact he.elim

end
end Go.Proofs.YtjgnpmdbkgeakaaDoor.Th
