/- THEORY, part M: cuts, conversions, structs, lengths. No condition. -/
import Derived.Test.YtjgnpmdbkgeakaaDoorThL
set_option linter.unusedVariables false
set_option linter.unusedSimpArgs false
namespace Go.Proofs.YtjgnpmdbkgeakaaDoor.Th
open Go Go.RowKit

section
variable {P : Program} {TI : TEnv} {C : FuncId → List AV → AV → Prop} {Rd : Rs → Prop} {B : Bd} {N : Nat} {g g' : Gh} {s : S} {w w' : World} {a : Act} {o : Oper} {ws : List Wr}

/-! ### cuts -/
theorem TR.cut {pr : Nat → Nat → Prop} {T : Ty} {l : List T.den} {ad : Option Addr} {n c lo hi m : Nat} (h : TR w pr (.slice T) l [.slice ad n c]) (h1 : lo ≤ hi) (h2 : hi ≤ l.length) (h3 : hi ≤ m) (h4 : m ≤ c) :
    TR w pr (.slice T) ((l.take hi).drop lo) [.slice (if m = lo then ad else ad.map (·.add (lo * T.size))) (hi - lo) (m - lo)] := by
  obtain ⟨a0, c0, e, hc, hr⟩ := (show SlR _ _ _ _ _ _ from h)
  have e2 : Value.slice ad n c = .slice a0 l.length c0 := by simpa using e
  cases e2
  have hlen : ((l.take hi).drop lo).length = hi - lo := by simp; omega
  refine ⟨_, _, by rw [hlen], ⟨by rw [hlen]; omega, fun ha => ?_⟩, fun j x hx => ?_⟩
  · by_cases hm : m = lo
    · omega
    · rw [if_neg hm] at ha
      have : ad = none := by cases ad with
        | none => rfl
        | some _ => cases ha
      have := hc.2 this
      omega
  have hj : j < hi - lo := by rw [← hlen]; exact (List.getElem?_eq_some_iff.1 hx).1
  rw [List.getElem?_drop, List.getElem?_take, if_pos (by omega)] at hx
  obtain ⟨a1, vs, e1, v1, v2, v3⟩ := hr (lo + j) x hx
  refine ⟨a1.add (lo * T.size), vs, by rw [if_neg (by omega), e1]; rfl, v1, fun i v hv => ?_, v3⟩
  rw [add_add]
  have := v2 i v hv
  rwa [show lo * T.size + (j * T.size + i) = (lo + j) * T.size + i from by rw [Nat.add_mul]; omega]

theorem run_bound {k : IntKind} {n : Int} {y : Nat} {code : BoundsCode} (h0 : 0 ≤ n) (h1 : n ≤ y) : (Instr.sliceBound (.int k n) y code).run P w = .ok n.toNat w := by
  have : (0 ≤ n ∧ n ≤ (y : Int)) := ⟨h0, h1⟩
  simp only [Instr.sliceBound, asIntOf, Sem.run_bind, Sem.run_pure, Result.andThen_ok, this, and_self, if_true]

/-- bounds as they are told: none, or a number -/
def BV (v : Option Value) (dflt : Nat) (n : Int) : Prop := (v = none ∧ n = dflt) ∨ ∃ k, v = some (.int k n)

theorem bnd_ev {v : Option AV} {u : Option Value} {dflt : Nat} {k : Int → Pg} (hv : (v = none ∧ u = none) ∨ ∃ x y, v = some x ∧ u = some y ∧ VR w g x y) (he : (bnd v dflt k).Ev C Rd s ws) :
    ∃ n, BV u dflt n ∧ (k n).Ev C Rd s ws := by
  rcases hv with ⟨rfl, rfl⟩ | ⟨x, y, rfl, rfl, h⟩
  · exact ⟨_, .inl ⟨rfl, rfl⟩, he⟩
  · unfold bnd at he
    cases x with
    | int j n => exact ⟨n, .inr ⟨j, by rw [VR_int h]⟩, he⟩
    | _ => exact he.elim

theorem run_bounds {isSlice : Bool} {len cap : Nat} {lo hi mx : Option Value} {x y z : Int} (hlo : BV lo 0 x) (hhi : BV hi len y) (hmx : BV mx len z) (h0 : 0 ≤ x) (h1 : x ≤ y) (h2 : y ≤ z) (h3 : z ≤ len) (hc : len ≤ cap)
    (hm : mx.isSome = true → hi.isSome = true) :
    ∃ m : Nat, (Instr.sliceBounds isSlice len cap lo hi mx).run P w = .ok (x.toNat, y.toNat, m) w ∧ y.toNat ≤ m ∧ m ≤ cap := by
  rcases hmx with ⟨rfl, rfl⟩ | ⟨km, rfl⟩
  · refine ⟨cap, ?_, by omega, Nat.le_refl _⟩
    rcases hhi with ⟨rfl, rfl⟩ | ⟨kh, rfl⟩
    · rcases hlo with ⟨rfl, rfl⟩ | ⟨kl, rfl⟩
      · simp [Instr.sliceBounds]
      · simp only [Instr.sliceBounds, Sem.run_bind, Sem.run_pure, Result.andThen_ok, Option.isSome_none, Bool.false_eq_true, if_false, run_bound h0 h1]
        simp
    · rcases hlo with ⟨rfl, rfl⟩ | ⟨kl, rfl⟩
      · simp only [Instr.sliceBounds, Sem.run_bind, Sem.run_pure, Result.andThen_ok, run_bound (by omega : 0 ≤ y) (by omega : y ≤ (cap : Int))]
        simp
      · simp only [Instr.sliceBounds, Sem.run_bind, Sem.run_pure, Result.andThen_ok, Option.isSome_none, Bool.false_eq_true, if_false, run_bound (by omega : 0 ≤ y) (by omega : y ≤ (cap : Int)), run_bound h0 (by omega : x ≤ (y.toNat : Int))]
  · have hh := hm rfl
    rcases hhi with ⟨rfl, _⟩ | ⟨kh, rfl⟩
    · cases hh
    · refine ⟨z.toNat, ?_, by omega, by omega⟩
      rcases hlo with ⟨rfl, rfl⟩ | ⟨kl, rfl⟩
      · simp only [Instr.sliceBounds, Sem.run_bind, Sem.run_pure, Result.andThen_ok, run_bound (by omega : 0 ≤ z) (by omega : z ≤ (cap : Int)), run_bound (by omega : 0 ≤ y) (by omega : y ≤ (z.toNat : Int))]
        simp
      · simp only [Instr.sliceBounds, Sem.run_bind, Sem.run_pure, Result.andThen_ok, Option.isSome_some, if_true, run_bound (by omega : 0 ≤ z) (by omega : z ≤ (cap : Int)), run_bound (by omega : 0 ≤ y) (by omega : y ≤ (z.toNat : Int)), run_bound h0 (by omega : x ≤ (y.toNat : Int))]

theorem strV_extract (l : List UInt8) (i j : Nat) : Value.string ((⟨l.toArray⟩ : ByteArray).extract i j) = strV ((l.take j).drop i) := by
  unfold strV
  congr 1
  apply ByteArray.ext
  rw [ByteArray.data_extract]
  simp [List.extract_toArray, List.extract_eq_take_drop, List.drop_take]

theorem goes_slice (hT : TIok P TI) (h : Rel B g s w a N) (hd : ∀ t, o.dst = some t → t < N) {t : TypeId} {x : Operand} {lo hi mx : Option Operand} (ho : o.op = .slice t x lo hi mx)
    {p : AV} {vl vh vm : Option AV} (hp : VR w g p (a.eval x))
    (hl : (vl = none ∧ lo.map a.eval = none) ∨ ∃ x y, vl = some x ∧ lo.map a.eval = some y ∧ VR w g x y) (hh : (vh = none ∧ hi.map a.eval = none) ∨ ∃ x y, vh = some x ∧ hi.map a.eval = some y ∧ VR w g x y)
    (hm : (vm = none ∧ mx.map a.eval = none) ∨ ∃ x y, vm = some x ∧ mx.map a.eval = some y ∧ VR w g x y) (hmh : (mx.map a.eval).isSome = true → (hi.map a.eval).isSome = true)
    (he : (pgSlice TI o.dst t p vl vh vm).Ev C Rd s ws) : Goes P B N o s w a ws := by
  unfold pgSlice at he
  split at he
  · rename_i b
    have hx := VR_str hp
    unfold tinf at he
    cases hi' : TI t with
    | none => rw [hi'] at he; exact he.elim
    | some i =>
    rw [hi'] at he
    obtain ⟨ti, d, z, T⟩ := hT.get hi'
    simp only [] at he
    split at he
    case h_2 => exact he.elim
    case h_1 hkn =>
      have hun := T.str hkn
      have hmn : mx.map a.eval = none := by rcases hm with ⟨_, e⟩ | ⟨_, _, e, _⟩
                                            · exact e
                                            · cases e
      obtain ⟨n1, b1, he⟩ := bnd_ev hl he
      obtain ⟨n2, b2, he⟩ := bnd_ev hh he
      obtain ⟨c1, c2, c3, he⟩ := he
      have c1 : 0 ≤ n1 := by simpa using c1
      have c2 : n1 ≤ n2 := by simpa using c2
      have c3 : n2 ≤ b.length := by simpa using c3
      have hsz : (⟨b.toArray⟩ : ByteArray).size = b.length := by simp [ByteArray.size]
      obtain ⟨m, hrun, _, _⟩ := run_bounds (P := P) (w := w) (isSlice := false) (len := b.length) (cap := b.length) b1 b2 (mx := none) (z := b.length) (.inl ⟨rfl, rfl⟩) c1 c2 c3 (Int.le_refl _) (Nat.le_refl _) (by simp)
      refine goes_str h hd ?_ he
      rw [← strV_extract]
      simp only [execOp, ho, hx, strV, Instr.sliceAt, Sem.run_bind, run_underlying hun, Result.andThen_ok, Instr.slice, hmn, Option.isSome_none, Bool.false_eq_true, if_false, hsz, hrun, Sem.run_pure]
  · unfold tinf at he
    cases hi' : TI t with
    | none => rw [hi'] at he; exact he.elim
    | some i =>
      rw [hi'] at he
      obtain ⟨ti, d, z, T⟩ := hT.get hi'
      cases hkn : i.kn with
      | slice e =>
        simp only [hkn] at he
        cases hei : TI e with
        | none => rw [hei] at he; exact he.elim
        | some ei =>
          rw [hei] at he
          simp only [] at he
          obtain ⟨ti2, d2, z2', E⟩ := hT.get hei
          have hun := T.slice hkn
          obtain ⟨v', ws', g1, he, hpm, h2, hk, hpv⟩ := snap1_ev (Promo.refl s) (by simpa [S.puts] using h) hp he
          have hlist : ∃ l, TR w g1.pr (.slice ei.ty) l [a.eval x] ∧ (bnd vl 0 fun a => bnd vh l.length fun b => bnd vm l.length fun m =>
              .chk (decide (0 ≤ a)) (.chk (decide (a ≤ b)) (.chk (decide (b ≤ m)) (.chk (decide (m ≤ l.length)) (.ret (ws' ++ wrd o.dst (.sl ei.ty ((l.take b.toNat).drop a.toNat)))))))).Ev C Rd s ws := by
            unfold plainList at he
            split at he
            · refine ⟨[], ?_, he⟩
              rcases hpv with e1 | ⟨_, _, e1, _⟩
              · rw [show a.eval x = _ from e1]; exact TR_nilsl _ _ _
              · cases e1
            · rename_i T' l'
              cases hdc : T'.dec ei.ty with
              | none => rw [hdc] at he; exact he.elim
              | some hh' =>
                rw [hdc] at he
                clear hdc
                obtain ⟨hTT⟩ := hh'
                subst hTT
                refine ⟨l', ?_, he⟩
                rcases hpv with e1 | ⟨_, _, e1, _⟩
                · exact e1
                · cases e1
            · exact he.elim
          obtain ⟨l, htr, he⟩ := hlist
          obtain ⟨n1, b1, he⟩ := bnd_ev hl he
          obtain ⟨n2, b2, he⟩ := bnd_ev hh he
          obtain ⟨n3, b3, he⟩ := bnd_ev hm he
          obtain ⟨c1, c2, c3, c4, he⟩ := he
          have c1 : 0 ≤ n1 := by simpa using c1
          have c2 : n1 ≤ n2 := by simpa using c2
          have c3 : n2 ≤ n3 := by simpa using c3
          have c4 : n3 ≤ l.length := by simpa using c4
          have : ws = _ := he
          subst this
          obtain ⟨ad, c, e0, hc, _⟩ := (show SlR _ _ _ _ _ _ from htr)
          have e0 : a.eval x = .slice ad l.length c := by simpa using e0
          rw [e0] at htr
          obtain ⟨m, hrun, hm1, _⟩ := run_bounds (P := P) (w := w) (isSlice := true) (len := l.length) (cap := c) b1 b2 b3 c1 c2 c3 c4 hc.1 hmh
          have hcut := htr.cut (lo := n1.toNat) (hi := n2.toNat) (m := m) (by omega) (by omega) hm1 (by assumption)
          have hend := h2.wrd (d := o.dst) (v := .sl ei.ty ((l.take n2.toNat).drop n1.toNat)) (VR_of_LR (show LR w g1 (.sl ei.ty _) _ from hcut)) hd
          refine goes_value (g' := g1) ?_ (by rw [S.puts_append]; exact hend) (BelowB.refl _ _)
          simp only [execOp, ho, e0, Instr.sliceAt, Sem.run_bind, run_underlying hun, Result.andThen_ok, Instr.slice, hrun, E.sizeOf, E.tysz, Sem.run_pure]
      | _ => simp only [hkn] at he; exact he.elim

theorem shape_alloc (W : World) (us : Array Value) (e : TypeId) : (W.alloc (.cells us e)).shape? W.heap.size = some (e, us.size) := by
  unfold World.shape?
  rw [show (W.alloc (.cells us e)).heap[W.heap.size]? = some (.cells us e) from alloc_new W _]

theorem world_heap {w : World} {h1 h2 : Array Obj} (h : h1 = h2) : ({ w with heap := h1 } : World) = { w with heap := h2 } := by rw [h]

theorem freeze_alloc (W : World) (us : Array Value) (e : TypeId) : (W.alloc (.cells us e)).freeze ⟨W.heap.size, us.size, none⟩ 1 = W.alloc (.cells us e (us.size, us.size + 1)) := by
  unfold World.freeze
  rw [if_neg (by omega)]
  refine (world_heap (w := W) (h1 := _) (h2 := W.heap.push (.cells us e (us.size, us.size + 1))) ?_)
  apply Array.ext_getElem?
  intro i
  have : (W.alloc (.cells us e)).heap = W.heap.push (.cells us e) := rfl
  rw [this]
  simp only [Array.getElem?_modify, Array.getElem?_push]
  by_cases e1 : i = W.heap.size
  · subst e1; simp
  · have : ¬ W.heap.size = i := fun h => e1 h.symm
    simp [this, e1]

/-! ### conversions -/
theorem goes_s2b (h : Rel B g s w a N) (hd : ∀ t, o.dst = some t → t < N) {src dst e : TypeId} {x : Operand} (ho : o.op = .convert src dst x) (hdst : P.underlying dst = some (.slice e)) (he8 : P.underlying e = some (.int .u8)) (hsrc : ∃ d, P.underlying src = some d) {b : List UInt8}
    (hx : a.eval x = strV b) {tt : Tmp} (hdt : o.dst = some tt) (ht : s.toks tt = .abs) : Goes P B N o s w a [.tok tt (.live false (.int .u8) (toBytes b)), .tmp tt (.ref tt)] := by
  obtain ⟨d, hd1⟩ := hsrc
  let cap := grownCap w b.length 0 e
  let us : Array Value := (⟨b.toArray⟩ : ByteArray).data.map (fun b => Value.int .u8 b.toNat) ++ Array.replicate (cap - b.length) (.int .u8 0)
  have hge : b.length ≤ cap := grownCap_ge w b.length 0 e
  have hus : us.size = cap := by simp [us]; omega
  obtain ⟨h1, _⟩ := h.heap (w' := w.drew) rfl
  have hrow : RowOf w.drew g.pr (.int .u8) (toBytes b) us := by
    intro j y hy0
    have hy : (List.map (fun q : UInt8 => (q.toNat : Int)) b)[j]? = some y := hy0
    rw [List.getElem?_map] at hy
    refine ⟨[.int .u8 y], rfl, fun i v hv => ?_, rfl⟩
    have hi : i = 0 := by have := (List.getElem?_eq_some_iff.1 hv).1; simpa using this
    subst hi
    simp at hv; subst hv
    cases hb : b[j]? with
    | none => rw [hb] at hy; cases hy
    | some q =>
      rw [hb] at hy; simp only [Option.map_some] at hy
      have hy : (q.toNat : Int) = y := by injection hy
      subst hy
      have hj : j < b.length := (List.getElem?_eq_some_iff.1 hb).1
      have hbj : b[j] = q := (List.getElem?_eq_some_iff.1 hb).2
      simp only [Ty.size, Nat.mul_one, Nat.add_zero, us]
      rw [Array.getElem?_append_left (by simpa using hj)]
      simp [hj, hbj]
  have hlen : List.length (α := (Ty.int .u8).den) (toBytes b) = b.length := by show (toBytes b).length = _; simp [toBytes]
  obtain ⟨g2, tg, h3, hτ, htv⟩ := h1.newTokAt ht (us := us) e (fr := (us.size, us.size + 1)) (cap := cap) ⟨Nat.le_succ _, by intro o' ho'; simp; omega⟩ (by rw [hlen]; exact hge) (by simp [Ty.size, hus]) hrow
  have h4 := h3.tmp (VR_ref hτ htv) (hd tt hdt)
  refine goes_value (g' := g2) (w' := w.drew.alloc (.cells us e (us.size, us.size + 1))) (u := .slice (some ⟨w.heap.size, 0, none⟩) b.length cap) ?_ (by rw [hdt]; rw [hlen] at h4; exact h4) (((BelowB.refl B w).drew).alloc h1.hB _)
  have hsz : (⟨b.toArray⟩ : ByteArray).size = b.length := by simp [ByteArray.size]
  have hconv : (Conv.stringToBytes e ⟨b.toArray⟩).run P w = .ok (.slice (some ⟨w.heap.size, 0, none⟩) b.length cap) (w.drew.alloc (.cells us e (us.size, us.size + 1))) := by
    have hsh := shape_alloc w.drew us e
    have hfz := freeze_alloc w.drew us e
    simp only [Conv.stringToBytes, Sem.run_bind, run_choose_drew, Question.forced, Bool.false_eq_true, if_false, Result.andThen_ok, newRow, run_newObj_alloc, Sem.run_pure, markStringish, run_shape, hsz]
    have e0 : (Question.appendCap b.length 0 e).cut (w.tape w.drawn (Question.appendCap b.length 0 e)) = cap := rfl
    rw [e0]
    have hus2 : (⟨b.toArray⟩ : ByteArray).data.map (fun b => Value.int .u8 b.toNat) ++ Array.replicate (cap - b.length) (.int .u8 0) = us := rfl
    rw [hus2]
    simp only [hsh, run_freeze, hfz, Result.andThen_ok]
    rfl
  simp only [execOp, ho, hx, strV, Sem.run_bind, convert, run_underlying hd1, run_underlying hdst, Result.andThen_ok, run_underlying he8, hconv, Sem.run_pure]

end
end Go.Proofs.YtjgnpmdbkgeakaaDoor.Th
