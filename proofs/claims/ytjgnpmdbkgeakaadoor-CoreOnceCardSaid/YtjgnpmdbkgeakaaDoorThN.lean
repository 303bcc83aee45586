/- THEORY, part N: bytes as text, structs, lengths, calls; every operation. No condition. -/
import Derived.Test.YtjgnpmdbkgeakaaDoorThM
import Derived.Laws.BytesString
set_option linter.unusedVariables false
set_option linter.unusedSimpArgs false
namespace Go.Proofs.YtjgnpmdbkgeakaaDoor.Th
open Go Go.RowKit

section
variable {P : Program} {TI : TEnv} {C : FuncId → List AV → AV → Prop} {Rd : Rs → Prop} {B : Bd} {N : Nat} {g g' : Gh} {s : S} {w w' : World} {a : Act} {o : Oper} {ws : List Wr}

theorem push_fold (l : List Int) : ∀ b : ByteArray, (l.foldl (fun r n => r.push (UInt8.ofNat n.toNat)) b) = ⟨b.data ++ (ofBytes l).toArray⟩ := by
  induction l with
  | nil => intro b; simp [ofBytes]
  | cons n l ih =>
    intro b
    rw [List.foldl_cons, ih]
    apply ByteArray.ext
    simp [ofBytes, ByteArray.data_push]

theorem goes_b2s (h : Rel B g s w a N) (hd : ∀ t, o.dst = some t → t < N) {src dst e : TypeId} {x : Operand} (ho : o.op = .convert src dst x) (hs : P.underlying src = some (.slice e)) (he8 : P.underlying e = some (.int .u8)) (hdst : P.underlying dst = some .string)
    {l : List Int} (hr : Reads w g.pr (.int .u8) l (a.eval x)) (he : (retv o.dst (.str (ofBytes l))).Ev C Rd s ws) : Goes P B N o s w a ws := by
  refine goes_str h hd ?_ he
  obtain ⟨ad, c, news, e00, hc0, hl0, hnil0, hcell, h1, hrow0⟩ := hr.flat
  have e0 : a.eval x = .slice ad (List.length (α := Int) l) c := e00
  have hl : news.length = List.length (α := Int) l * 1 := hl0
  have hnil : ad = none → (l : List Int) = [] := hnil0
  have hrow : ∀ (j : Nat) (y : Int), (l : List Int)[j]? = some y → ∃ vs : List Value, vs.length = 1 ∧ (∀ (i : Nat) (v : Value), vs[i]? = some v → news[j * 1 + i]? = some v) ∧ vs = [.int .u8 y] := hrow0
  clear e00 hc0 hl0 hnil0 hrow0
  have hnews : news = l.map (Value.int .u8) := by
    have hl' : news.length = l.length := by omega
    apply List.ext_getElem?
    intro j
    rw [List.getElem?_map]
    cases hj : l[j]? with
    | none =>
      have : l.length ≤ j := by simpa using hj
      simp; omega
    | some y =>
      obtain ⟨vs, v1, v2, v3⟩ := hrow j y hj
      have := v2 0 (.int .u8 y) (by rw [v3]; rfl)
      simpa using this
  simp only [execOp, ho, e0, Sem.run_bind, run_convert_bytes_string w src dst e _ _ _ hs he8 hdst]
  cases ad with
  | none =>
    have := hnil rfl; subst this
    simp [Conv.bytesToString, strV, ofBytes]
    rfl
  | some ad =>
    have hload := run_loadCells_list (P := P) w ad news (fun j v hv => hcell ad rfl j v hv)
    have hl' : news.length = l.length := by rw [hnews]; simp
    rw [hl', hnews] at hload
    rw [run_bytesToString w ad l.length c l hload]
    simp only [Result.andThen_ok, Sem.run_pure, push_fold, strV]
    congr 4
    simp

theorem thawed_mark {fr : Nat × Nat} {n : Nat} (h : Thawed fr n) : Thawed (if fr.1 == fr.2 then (n, n + 1) else (min fr.1 n, max fr.2 (n + 1))) n := by
  obtain ⟨hle, h⟩ := h
  split
  · exact ⟨Nat.le_succ _, fun o ho => by simp; omega⟩
  · rename_i hne
    have hne : fr.1 ≠ fr.2 := by simpa using hne
    refine ⟨by simp; omega, fun o ho => ?_⟩
    by_cases h1 : fr.1 < n
    · have := h fr.1 h1
      simp at this
      omega
    · simp; omega

theorem remark_freeze {w : World} {k : Nat} {us : Array Value} {e : TypeId} {fr : Nat × Nat} (hr : w.heap[k]? = some (.cells us e fr)) : Remark w (w.freeze ⟨k, us.size, none⟩ 1) := by
  have hf : w.freeze ⟨k, us.size, none⟩ 1 = { w with heap := w.heap.modify k fun
      | .cells c elem (lo, hi) => .cells c elem (if lo == hi then (us.size, us.size + 1) else (min lo us.size, max hi (us.size + 1)))
      | o => o } := rfl
  rw [hf]
  refine ⟨by simp, fun i => ?_⟩
  by_cases e1 : i = k
  · subst e1
    right
    exact ⟨us, e, fr, _, hr, by simp only [Array.getElem?_modify, if_true, hr, Option.map_some], thawed_mark⟩
  · left
    have : ¬ k = i := fun h => e1 h.symm
    simp [Array.getElem?_modify, this]

theorem goes_s2s (h : Rel B g s w a N) (hd : ∀ t, o.dst = some t → t < N) {src e : TypeId} {x : Operand} (ho : o.op = .convert src src x) (hs : P.underlying src = some (.slice e)) (he8 : P.underlying e = some (.int .u8))
    {t : Nat} (hp : VR w g (.ref t) (a.eval x)) {sh : Bool} {T : Ty} {y : T.den} {l : List T.den} (ht : s.toks t = .live sh T (y :: l)) (he : (retv o.dst (.ref t)).Ev C Rd s ws) : Goes P B N o s w a ws := by
  obtain ⟨tg, e1, e2, e3⟩ := hp
  obtain ⟨tg', q1, q2, q3⟩ := h.tk t sh T (y :: l) ht
  rw [e1] at q1; cases q1
  rcases q3 with ⟨_, _, q⟩ | ⟨k, cap, v1, v2, v3⟩
  · cases q
  · obtain ⟨us, el, fr, r1, r2, r3, r4⟩ := v3.row
    obtain ⟨h2, hk⟩ := h.remark (remark_freeze r1)
    have hv : VR (w.freeze ⟨k, us.size, none⟩ 1) g (.ref t) (a.eval x) := VR.keeps hk (show VR w g (.ref t) (a.eval x) from ⟨tg, e1, e2, e3⟩)
    have hx : a.eval x = .slice (some ⟨k, 0, none⟩) (y :: l).length cap := by rw [e2, v1]
    have : ws = wrd o.dst (.ref t) := he
    subst this
    refine goes_value (g' := g) (w' := w.freeze ⟨k, us.size, none⟩ 1) (u := a.eval x) ?_ (h2.wrd hv hd) ?_
    · have hsh : w.shape? k = some (el, us.size) := by unfold World.shape?; rw [r1]
      simp only [execOp, ho, hx, Sem.run_bind, convert, run_underlying hs, run_underlying he8, Result.andThen_ok, beq_self_eq_true, markStringish, run_shape, hsh, run_freeze, Sem.run_pure]
    · have hab := v3.above
      refine ⟨rfl, rfl, rfl, ?_, fun i hi => ?_⟩
      · rw [(remark_freeze r1).1]; exact Nat.le_refl _
      · have : ¬ k = i := fun e => hi (e ▸ hab)
        show (w.heap.modify k _)[i]? = _
        simp [Array.getElem?_modify, this]

theorem goes_convert (hT : TIok P TI) (h : Rel B g s w a N) (hd : ∀ t, o.dst = some t → t < N) {src dst : TypeId} {x : Operand} (ho : o.op = .convert src dst x)
    (he0 : (rdv x fun x => pgConvert TI o.dst src dst x).Ev C Rd s ws) : Goes P B N o s w a ws := by
  obtain ⟨p, hp, he⟩ := rdv_ev h he0
  clear he0
  unfold pgConvert tinf at he
  cases hisrc : TI src with
  | none => rw [hisrc] at he; exact he.elim
  | some isrc =>
  rw [hisrc] at he
  simp only [] at he
  obtain ⟨_, ds, _, SR0⟩ := hT.get hisrc
  have hds := SR0.und
  cases hi : TI dst with
  | none => rw [hi] at he; exact he.elim
  | some i =>
    rw [hi] at he
    obtain ⟨ti, d, z, T⟩ := hT.get hi
    simp only [] at he
    split at he
    · rename_i k _ n hk
      have hx := VR_int hp
      have hud := T.int hk
      refine goes_int h hd ?_ he
      simp only [execOp, ho, hx, Sem.run_bind, convert, run_underlying hds, run_underlying hud, Result.andThen_ok, Conv.intToInt, Sem.run_pure]
    · rename_i b hk
      have hx := VR_str hp
      have hud := T.str hk
      refine goes_str h hd ?_ he
      simp only [execOp, ho, hx, strV, Sem.run_bind, convert, run_underlying hds, run_underlying hud, Result.andThen_ok, Sem.run_pure]
    · rename_i e b hk
      have hx := VR_str hp
      have hud := T.slice hk
      cases hei : TI e with
      | none => rw [hei] at he; exact he.elim
      | some ei =>
        rw [hei] at he
        simp only [] at he
        obtain ⟨_, _, _, E⟩ := hT.get hei
        split at he
        · rename_i tt hek hdt
          obtain ⟨_, he⟩ := he
          cases ht : s.toks tt with
          | dead => rw [ht] at he; exact he.elim
          | live _ _ _ => rw [ht] at he; exact he.elim
          | abs =>
            rw [ht] at he
            have : ws = _ := he
            subst this
            exact goes_s2b h hd ho hud (E.int hek) ⟨ds, hds⟩ hx hdt ht
        · exact he.elim
    · rename_i e t hk
      have hud := T.slice hk
      split at he
      · rename_i hsd
        have hsd : src = dst := eq_of_beq (by simpa using hsd)
        subst hsd
        cases hei : TI e with
        | none => rw [hei] at he; exact he.elim
        | some ei =>
          rw [hei] at he
          simp only [] at he
          obtain ⟨_, _, _, E⟩ := hT.get hei
          split at he
          · rename_i hek
            obtain ⟨_, he⟩ := he
            cases ht : s.toks t with
            | abs => rw [ht] at he; exact he.elim
            | dead => rw [ht] at he; exact he.elim
            | live sh T' l =>
              rw [ht] at he
              simp only [] at he
              cases l with
              | nil => exact he.elim
              | cons y l =>
                simp only [] at he
                exact goes_s2s h hd ho hud (E.int hek) hp ht he
          · exact he.elim
      · exact he.elim
    · rename_i hk _
      have hud := T.str hk
      split at he
      · rename_i e hks
        cases hei : TI e with
        | none => rw [hei] at he; exact he.elim
        | some ei =>
          rw [hei] at he
          simp only [] at he
          obtain ⟨_, _, _, E⟩ := hT.get hei
          split at he
          · rename_i hek
            obtain ⟨l, he, hr⟩ := content_evV h hp he
            exact goes_b2s h hd ho (SR0.slice hks) (E.int hek) hud hr he
          · exact he.elim
      · exact he.elim
    · exact he.elim

/-! ### lengths -/
theorem goes_len (hT : TIok P TI) (h : Rel B g s w a N) (hd : ∀ t, o.dst = some t → t < N) {t : TypeId} {x : Operand} (ho : o.op = .call { callee := .builtin .len, args := #[x], argTypes := #[t] })
    {p : AV} (hp : VR w g p (a.eval x)) (he : (pgCall TI o.dst (.builtin .len) [p] [t]).Ev C Rd s ws) : Goes P B N o s w a ws := by
  unfold pgCall at he
  simp only [] at he
  unfold tinf at he
  cases hi : TI t with
  | none => rw [hi] at he; exact he.elim
  | some i =>
    rw [hi] at he
    obtain ⟨ti, d, z, T⟩ := hT.get hi
    simp only [] at he
    split at he
    · rename_i b hk
      have hx := VR_str hp
      have hu := T.str hk
      refine goes_int h hd ?_ he
      simp only [execOp, ho, resolve, invoke, builtin, Builtin.len_, List.map_toArray, List.map_cons, List.map_nil, hx, strV, List.getElem?_toArray, List.getElem?_cons_zero, Sem.run_bind, Sem.run_pure, Result.andThen_ok, run_underlying hu, goInt]
      simp [ByteArray.size]
    · exact he.elim
    · rename_i p _ _ e hk hns
      have hu := T.slice hk
      have hslice : ∀ (n : Nat) (ad : Option Addr) (c : Nat), a.eval x = .slice ad n c → (execOp a.eval o).run P w = .ok (.value (.int .i64 n)) w := by
        intro n ad c hx
        simp only [execOp, ho, resolve, invoke, builtin, Builtin.len_, List.map_toArray, List.map_cons, List.map_nil, hx, List.getElem?_toArray, List.getElem?_cons_zero, Sem.run_bind, Sem.run_pure, Result.andThen_ok, run_underlying hu, goInt]
      unfold lenOf at he
      cases p with
      | nilsl => exact goes_int h hd (n := 0) (hslice 0 none 0 hp) he
      | sl T l =>
        obtain ⟨ad, c, e0, _⟩ := (show SlR _ _ _ _ _ _ from hp)
        have e0 : a.eval x = .slice ad l.length c := by simpa using e0
        exact goes_int h hd (hslice _ ad c e0) he
      | str b => exact absurd rfl (hns b)
      | ref t' =>
        simp only [] at he
        obtain ⟨_, he⟩ := he
        cases ht : s.toks t' with
        | abs => rw [ht] at he; exact he.elim
        | dead => rw [ht] at he; exact he.elim
        | live sh T l =>
          rw [ht] at he
          obtain ⟨tg, e, ok⟩ := h.tk t' sh T l ht
          obtain ⟨tg', e', hu2, _⟩ := hp
          rw [e] at e'; cases e'
          obtain ⟨ad, c, e2, _⟩ := ok.reads.out
          exact goes_int h hd (hslice _ ad c (hu2.trans e2)) he
      | _ => exact he.elim
    · exact he.elim

/-! ### closures -/
theorem pack1_TR {pr : Nat → Nat → Prop} {v : AV} {u : Value} {p : Pk} (h : pack1 v = some p) (hv : PV w pr v u) : TR w pr p.T p.x [u] := by
  rcases hv with hv | ⟨_, _, e, _⟩
  · cases v <;> first | (simp only [pack1, Option.some.injEq] at h; subst h; first | exact hv | exact congrArg (fun z => [z]) hv) | cases h
  · rw [e] at h; cases h

theorem pack_TR {pr : Nat → Nat → Prop} : ∀ {vs : List AV} {us : List Value} {p : Pk}, pack vs = some p → All2 (PV w pr) vs us → TR w pr p.T p.x us
  | [], [], p, h, _ => by simp only [pack, Option.some.injEq] at h; subst h; rfl
  | v :: vs, u :: us, p, h, hv => by
    unfold pack at h
    split at h
    · rename_i a b ha hb
      simp only [Option.some.injEq] at h
      subst h
      exact ⟨[u], us, rfl, pack1_TR ha hv.1, pack_TR hb hv.2⟩
    · cases h
  | [], _ :: _, _, _, h => h.elim
  | _ :: _, [], _, _, h => h.elim

theorem pack_plain : ∀ {vs : List AV} {p : Pk}, pack vs = some p → vs.all isPlainCell = true
  | [], _, _ => rfl
  | v :: vs, p, h => by
    unfold pack at h
    cases h1 : pack1 v with
    | none => rw [h1] at h; simp at h
    | some a =>
      cases h2 : pack vs with
      | none => rw [h1, h2] at h; simp at h
      | some b =>
        have hv : isPlainCell v = true := by cases v <;> simp [pack1] at h1 <;> rfl
        simp only [List.all_cons, hv, pack_plain h2, Bool.and_self]

/-- a box is frozen: its cells are protected -/
theorem Rel.freeze (h : Rel B g s w a N) {b k : Nat} {cs cs1 : List AV} (hb : s.boxes b = some cs) (hβ : g.β b = some k) {us : Array Value} {el : TypeId} {fr : Nat × Nat} (hr : w.heap[k]? = some (.cells us el fr)) (hc : All2 (PR w g.pr) cs1 us.toList) :
    Rel B { g with pr := fun k' o => g.pr k' o ∨ (k' = k ∧ o < us.size) } (s.put (.box b (cs1.map .fz))) w a N ∧ Keeps w g w { g with pr := fun k' o => g.pr k' o ∨ (k' = k ∧ o < us.size) } := by
  obtain ⟨k0, e0, ok⟩ := h.bx b cs hb
  rw [hβ] at e0; cases e0
  obtain ⟨us0, el0, fr0, r1, r2, r3⟩ := ok.row
  rw [hr] at r1; cases r1
  have hk : Keeps w g w { g with pr := fun k' o => g.pr k' o ∨ (k' = k ∧ o < us.size) } := ⟨fun _ _ p => ⟨.inl p, rfl⟩, fun _ _ x => x, fun _ _ x => x⟩
  have hlt : k < w.heap.size := (Array.getElem?_eq_some_iff.1 hr).1
  have hlen := hc.len
  have hlen0 := r3.len
  refine ⟨⟨h.df, h.nt, h.hB, fun t => (h.tm t).keeps hk, ?_, ?_, ?_, h.binj, h.tk0, ?_, h.tinj, h.tbx, ?_, h.ex.keep hk (fun b' hb' => ?_)⟩, hk⟩
  · rintro k' o (p | ⟨rfl, _⟩)
    · exact h.prlt k' o p
    · exact hlt
  · intro b' e'
    by_cases eb : b' = b
    · subst eb; simp [S.put, upd_same] at e'
    · simp only [S.put, upd_ne _ _ _ _ eb] at e'; exact h.bx0 b' e'
  · intro b' cs2 hb'
    by_cases eb : b' = b
    · subst eb
      simp only [S.put, upd_same] at hb'; cases hb'
      refine ⟨k, hβ, ok.above, fun o p => ?_, us, el, fr, hr, r2, ?_⟩
      · have ho : o < us.size := by
          rcases p with p | ⟨_, p⟩
          · obtain ⟨v, hv⟩ := ok.free o p
            have := (List.getElem?_eq_some_iff.1 hv).1
            simp at hlen0; omega
          · exact p
        have ho2 : o < cs1.length := by simp at hlen; omega
        exact ⟨cs1[o], by simp [ho2]⟩
      · refine All2.of_get (by simpa using hlen) fun i x u hx hu => ?_
        rw [List.getElem?_map] at hx
        cases hq : cs1[i]? with
        | none => rw [hq] at hx; cases hx
        | some v =>
          rw [hq] at hx
          simp only [Option.map_some, Option.some.injEq] at hx
          subst hx
          obtain ⟨u', hu', hp⟩ := hc.get i v hq
          rw [hu] at hu'; cases hu'
          exact PR.keeps hk.pr hp
    · simp only [S.put, upd_ne _ _ _ _ eb] at hb'
      obtain ⟨i, ei, ab, free, us2, el2, f, q1, q2, q3⟩ := h.bx b' cs2 hb'
      have hne : i ≠ k := fun e' => eb (h.binj b' b k (by rw [ei, e']) hβ)
      refine ⟨i, ei, ab, ?_, us2, el2, f, q1, q2, q3.imp fun _ _ => LR.keeps hk⟩
      rintro o (p | ⟨e, _⟩)
      · exact free o p
      · exact absurd e hne
  · intro t sh T l ht
    obtain ⟨tg, e, ez, r⟩ := h.tk t sh T l ht
    refine ⟨tg, e, ez, r.imp id ?_⟩
    rintro ⟨i, cap, a1, a2, a3⟩
    have hl : (s.toks t).isLive = true := by rw [show s.toks t = _ from ht]; rfl
    have hne : i ≠ k := fun e' => h.tbx t tg k b hl e (by rw [a2, e']) hβ
    obtain ⟨us2, el2, f, q1, q2, q3, q4⟩ := a3.row
    have hno : ∀ o, (g.pr i o ∨ (i = k ∧ o < us.size)) → g.pr i o := by
      rintro o (p | ⟨e, _⟩)
      · exact p
      · exact absurd e hne
    exact ⟨i, cap, a1, a2, a3.above, a3.len, ⟨us2, el2, f, q1, q2, q3, q4.keeps hk.pr⟩, fun o p => a3.prlt o (hno o p), fun e o p => .inl (a3.prsh e o p), fun e o p => a3.prno e o (hno o p)⟩
  · intro k' o hm
    rw [← h.prB k' o hm]
    refine ⟨?_, .inl⟩
    rintro (p | ⟨rfl, _⟩)
    · exact p
    · exact absurd ok.above hm
  · by_cases eb : b' = b
    · rw [eb, hb]; simp
    · simpa [S.put, upd_ne _ _ _ _ eb] using hb'

/-- a captured value: plain, or a pointer to a box that is to be frozen -/
def Capt (w : World) (g : Gh) (bs : List (Nat × List AV)) (v : AV) (u : Value) : Prop :=
  PV w g.pr v u ∨ ∃ (b k : Nat) (cs1 : List AV) (us : Array Value) (el : TypeId) (fr : Nat × Nat) (p : Pk), v = .imm p.T p.x ∧ (b, cs1.map .fz) ∈ bs ∧ g.β b = some k ∧ u = .pointer (some ⟨k, 0, none⟩) ∧ pack cs1 = some p ∧ w.heap[k]? = some (.cells us el fr) ∧ All2 (PV w g.pr) cs1 us.toList

/-- a box that is to be frozen -/
def ToFz (w : World) (g : Gh) (s : S) (x : Nat × List AV) : Prop :=
  ∃ (k : Nat) (cs cs1 : List AV) (us : Array Value) (el : TypeId) (fr : Nat × Nat) (p : Pk), s.boxes x.1 = some cs ∧ x.2 = cs1.map .fz ∧ g.β x.1 = some k ∧ pack cs1 = some p ∧ w.heap[k]? = some (.cells us el fr) ∧ All2 (PV w g.pr) cs1 us.toList

theorem Capt.keeps {g g' : Gh} (hk : Keeps w g w g') {bs bs' : List (Nat × List AV)} (hb : ∀ x ∈ bs, x ∈ bs') {v : AV} {u : Value} (h : Capt w g bs v u) : Capt w g' bs' v u := by
  rcases h with h | ⟨b, k, cs1, us, el, fr, p, h1, h2, h3, h4, h5, h6, h7⟩
  · exact .inl (h.keeps hk.pr)
  · exact .inr ⟨b, k, cs1, us, el, fr, p, h1, hb _ h2, hk.β _ _ h3, h4, h5, h6, h7.imp fun _ _ => fun q => q.keeps hk.pr⟩
theorem ToFz.keeps {g g' : Gh} (hk : Keeps w g w g') {x : Nat × List AV} (h : ToFz w g s x) : ToFz w g' s x := by
  obtain ⟨k, cs, cs1, us, el, fr, p, h1, h2, h3, h4, h5, h6⟩ := h
  exact ⟨k, cs, cs1, us, el, fr, p, h1, h2, hk.β _ _ h3, h4, h5, h6.imp fun _ _ => fun q => q.keeps hk.pr⟩

theorem capts_ev : ∀ {vs : List AV} {us : List Value} {ws W : List Wr} {bs : List (Nat × List AV)} {k : List AV → List Wr → List (Nat × List AV) → Pg} {g : Gh}, Promo s (s.puts ws) → Rel B g (s.puts ws) w a N → All2 (VR w g) vs us → (∀ x ∈ bs, ToFz w g s x) →
    (capts vs ws bs k).Ev C Rd s W → ∃ vs' ws' bs' g', (k vs' ws' bs').Ev C Rd s W ∧ Promo s (s.puts ws') ∧ Rel B g' (s.puts ws') w a N ∧ Keeps w g w g' ∧ All2 (Capt w g' bs') vs' us ∧ (∀ x ∈ bs', ToFz w g' s x) ∧ (∀ x ∈ bs, x ∈ bs')
  | [], [], ws, W, bs, k, g, hp, h, _, hb, he => ⟨[], ws, bs, g, he, hp, h, Keeps.refl _ _, trivial, hb, fun _ h => h⟩
  | v :: vs, u :: us, ws, W, bs, k, g, hp, h, hv, hb, he => by
    by_cases hptr : ∃ b off, v = .ptr b off
    · obtain ⟨b, off, rfl⟩ := hptr
      simp only [capts] at he
      obtain ⟨h0, _, he⟩ := he
      have h0 := Nat.eq_of_beq_eq_true h0
      subst h0
      cases hbx : s.boxes b with
      | none => rw [hbx] at he; exact he.elim
      | some cs =>
        rw [hbx] at he
        obtain ⟨kb, hβ, hu⟩ := hv.1
        obtain ⟨k1, e1, ok⟩ := h.bx b cs (by rw [hp.boxes]; exact hbx)
        rw [hβ] at e1; cases e1
        obtain ⟨cus, el, fr, r1, r2, r3⟩ := ok.row
        obtain ⟨cs1, ws1, g1, he, hp1, h1, hk1, hc1⟩ := snaps_ev hp h ((unfz_all r3).imp fun _ _ => VR_of_LR) he
        cases hpk : pack cs1 with
        | none => rw [hpk] at he; exact he.elim
        | some p =>
          rw [hpk] at he
          have hfz : ToFz w g1 s (b, cs1.map .fz) := ⟨kb, cs, cs1, cus, el, fr, p, hbx, rfl, hk1.β _ _ hβ, hpk, r1, hc1⟩
          obtain ⟨vs', ws2, bs', g2, he, hp2, h2, hk2, hv2, hb2, hb3⟩ := capts_ev (bs := bs ++ [(b, cs1.map .fz)]) hp1 h1 (hv.2.imp fun _ _ => VR.keeps hk1) (fun x hx => by
            rcases List.mem_append.1 hx with hx | hx
            · exact (hb x hx).keeps hk1
            · rw [List.mem_singleton.1 hx]; exact hfz) he
          have hin : (b, cs1.map .fz) ∈ bs' := hb3 _ (by simp)
          refine ⟨.imm p.T p.x :: vs', ws2, bs', g2, he, hp2, h2, hk1.trans hk2, ⟨.inr ⟨b, kb, cs1, cus, el, fr, p, rfl, hin, (hk1.trans hk2).β _ _ hβ, hu, hpk, r1, hc1.imp fun _ _ => fun q => q.keeps hk2.pr⟩, hv2⟩, hb2, fun x hx => hb3 x (by simp [hx])⟩
    · have he' : (snap1 v ws fun v' ws' => capts vs ws' bs fun vs' ws'' bs' => k (v' :: vs') ws'' bs').Ev C Rd s W := by
        cases v <;> first | exact he | exact absurd ⟨_, _, rfl⟩ hptr
      obtain ⟨v', ws1, g1, he, hp1, h1, hk1, hv1⟩ := snap1_ev hp h hv.1 he'
      obtain ⟨vs', ws2, bs', g2, he, hp2, h2, hk2, hv2, hb2, hb3⟩ := capts_ev hp1 h1 (hv.2.imp fun _ _ => VR.keeps hk1) (fun x hx => (hb x hx).keeps hk1) he
      exact ⟨v' :: vs', ws2, bs', g2, he, hp2, h2, hk1.trans hk2, ⟨.inl (hv1.keeps hk2.pr), hv2⟩, hb2, hb3⟩
  | [], _ :: _, _, _, _, _, _, _, _, hv, _, _ => hv.elim
  | _ :: _, [], _, _, _, _, _, _, _, hv, _, _ => hv.elim

theorem nodupB0_spec : ∀ {l : List Nat}, nodupB0 l = true → l.Nodup
  | [], _ => List.nodup_nil
  | a :: l, h => by
    simp only [nodupB0, Bool.and_eq_true, Bool.not_eq_true'] at h
    refine List.nodup_cons.2 ⟨fun hm => ?_, nodupB0_spec h.2⟩
    have := List.any_eq_false.1 h.1 a hm
    exact this (Nat.beq_refl a)

theorem freezes_ok : ∀ {bs : List (Nat × List AV)} {ws : List Wr} {g : Gh}, Rel B g (s.puts ws) w a N → (bs.map (·.1)).Nodup → (∀ x ∈ bs, ToFz w g (s.puts ws) x) →
    ∃ g', Rel B g' (s.puts (ws ++ bs.map fun x => .box x.1 x.2)) w a N ∧ Keeps w g w g' ∧ ∀ x ∈ bs, ∀ k, g.β x.1 = some k → ∀ us el fr, w.heap[k]? = some (.cells us el fr) → ∀ o, o < us.size → g'.pr k o
  | [], ws, g, h, _, _ => ⟨g, by simpa using h, Keeps.refl _ _, fun x hx => by cases hx⟩
  | x :: bs, ws, g, h, hn, hb => by
    obtain ⟨k, cs, cs1, us, el, fr, p, b1, b2, b3, b4, b5, b6⟩ := hb x (.head _)
    obtain ⟨h1, hk1⟩ := h.freeze b1 b3 b5 (PV_plain b6 (pack_plain b4))
    have hn' := List.nodup_cons.1 (show ((x.1) :: bs.map (·.1)).Nodup from hn)
    obtain ⟨g2, h2, hk2, hp2⟩ := freezes_ok (bs := bs) (ws := ws ++ [.box x.1 x.2]) (g := { g with pr := fun k' o => g.pr k' o ∨ (k' = k ∧ o < us.size) }) (by rw [S.puts_one, b2]; exact h1) hn'.2 (fun y hy => by
      have hne : y.1 ≠ x.1 := fun e => hn'.1 (e ▸ List.mem_map.2 ⟨y, hy, rfl⟩)
      obtain ⟨k', cs', cs1', us', el', fr', p', c1, c2, c3, c4, c5, c6⟩ := (hb y (.tail _ hy)).keeps hk1
      exact ⟨k', cs', cs1', us', el', fr', p', by rw [S.puts_one]; simp only [S.put, upd_ne _ _ _ _ hne]; exact c1, c2, c3, c4, c5, c6⟩)
    refine ⟨g2, by rw [List.map_cons, ← List.singleton_append, ← List.append_assoc]; exact h2, hk1.trans hk2, fun y hy k' e' us' el' fr' hr' o ho => ?_⟩
    rcases List.mem_cons.1 hy with rfl | hy
    · rw [b3] at e'; cases e'
      rw [b5] at hr'; cases hr'
      exact (hk2.pr k o (.inr ⟨rfl, ho⟩)).1
    · exact hp2 y hy k' e' us' el' fr' hr' o ho

theorem goes_makeFunc (h : Rel B g s w a N) (hd : ∀ t, o.dst = some t → t < N) {f : FuncId} {cap : Array Operand} (ho : o.op = .makeFunc (.func f) #[] cap)
    (he0 : (rdvs cap.toList fun vs => capts vs [] [] fun vs ws bs => .chk (nodupB0 (bs.map (·.1))) (match pack vs with
      | some p => .ret (ws ++ (bs.map fun x => .box x.1 x.2) ++ wrd o.dst (.fnv f p.T p.x))
      | none => .fail)).Ev C Rd s ws) : Goes P B N o s w a ws := by
  obtain ⟨vs, hv, he⟩ := rdvs_ev h he0
  clear he0
  obtain ⟨vs', ws', bs', g1, he, hp, h2, hk, hv2, hb2, _⟩ := capts_ev (bs := []) (Promo.refl s) (by simpa [S.puts] using h) hv (fun x hx => by cases hx) he
  obtain ⟨hnd, he⟩ := he
  cases hpk : pack vs' with
  | none => rw [hpk] at he; exact he.elim
  | some p =>
    rw [hpk] at he
    have : ws = _ := he
    subst this
    obtain ⟨g3, h3, hk3, hp3⟩ := freezes_ok h2 (nodupB0_spec hnd) (fun x hx => by
      obtain ⟨k, cs, cs1, us, el, fr, p, b1, b2, b3, b4, b5, b6⟩ := hb2 x hx
      exact ⟨k, cs, cs1, us, el, fr, p, by rw [hp.boxes]; exact b1, b2, b3, b4, b5, b6⟩)
    have hv3 : All2 (PV w g3.pr) vs' (cap.toList.map a.eval) := by
      refine hv2.imp fun v u hc => ?_
      rcases hc with hc | ⟨b, k, cs1, us, el, fr, q, rfl, c2, c3, rfl, c5, c6, c7⟩
      · exact hc.keeps hk3.pr
      · refine .inl ?_
        show TR w g3.pr (.ref q.T) q.x [_]
        refine ⟨⟨k, 0, none⟩, us.toList, rfl, fun i u hu => ?_, (pack_TR c5 c7).keeps hk3.pr⟩
        have hu' : us[i]? = some u := by simpa using hu
        have hi : i < us.size := (Array.getElem?_eq_some_iff.1 hu').1
        rw [addr_add, Nat.zero_add]
        exact ⟨by rw [cell_of c6]; exact hu', hp3 _ c2 k c3 us el fr c6 i hi⟩
    have hend := h3.wrd (d := o.dst) (v := .fnv f p.T p.x) (VR_of_LR (LR_of_PR (show PR w g3.pr (.fnv f p.T p.x) (.func (.func f) #[] (cap.toList.map a.eval).toArray) from ⟨_, rfl, pack_TR hpk hv3⟩))) hd
    refine goes_value (g' := g3) ?_ (by rw [S.puts_append]; exact hend) (BelowB.refl _ _)
    simp only [execOp, ho, Instr.makeFunc, Sem.run_bind, Sem.run_pure, Result.andThen_ok]
    congr 3
    · simp
    · apply Array.ext'; simp

/-! ### calls -/
/-- a component of an answer: an own row, in its block, or a plain value -/
def OwnC (B : Bd) (w : World) (pr : Nat → Nat → Prop) (v : AV) (u : Value) (b : Option Nat) : Prop :=
  match v with
  | .own T l => ∃ tg, TokOK B w pr false T l tg ∧ u = tg.val ∧ tg.blk = b ∧ (∀ k, b = some k → k < w.heap.size)
  | v => PV w pr v u ∧ b = none

/-- what a call answers -/
def ResR (B : Bd) (w : World) (pr : Nat → Nat → Prop) (v : AV) (r : Value) : Prop :=
  match v with
  | .tup vs => ∃ (us : List Value) (bs : List (Option Nat)), r = .tuple us.toArray ∧ vs.length = us.length ∧ bs.length = us.length ∧
      (∀ (i : Nat) (x : AV) (u : Value) (b : Option Nat), vs[i]? = some x → us[i]? = some u → bs[i]? = some b → OwnC B w pr x u b) ∧
      (∀ (i j : Nat) (k : Nat), bs[i]? = some (some k) → bs[j]? = some (some k) → i = j)
  | v => ∃ b, OwnC B w pr v r b

/-- the function has a body -/
def HasBody (P : Program) (f : FuncId) : Prop := ∃ fn, P.funcs[f]? = some fn ∧ (fn.name == "runtime.NumGoroutine") = false ∧ fn.body.isNone = false

/-- a call of f with plain values answers v, and leaves what was there -/
def CallPlain (P : Program) (f : FuncId) (args : List AV) (v : AV) : Prop :=
  HasBody P f ∧
  ∀ (w : World) (pr : Nat → Nat → Prop) (us : List Value), (∀ k o, pr k o → k < w.heap.size) → GlobOK w pr → All2 (PV w pr) args us →
    Calls P f us.toArray w fun e w' => ∃ r pr', e = .returned r ∧ Below w.heap.size w w' ∧ (∀ k o, k < w.heap.size → (pr' k o ↔ pr k o)) ∧ (∀ k o, pr' k o → k < w'.heap.size) ∧ ResR (bd0 w.heap.size pr) w' pr' v r

/-- what is lent: one block, and the rows in its cells -/
def bdL (n : Nat) (pr : Nat → Nat → Prop) (kb : Nat) (own : List (Option Nat)) : Bd := ⟨n, pr, fun k => k = kb ∨ some k ∈ own, fun b => if b = lentBox then some kb else none⟩

/-- a lent block: its cells, and whose rows are in them -/
structure BoxC (B : Bd) (w : World) (pr : Nat → Nat → Prop) (kb : Nat) (cs : List AV) (own : List (Option Nat)) : Prop where
  row : ∃ us e fr, w.heap[kb]? = some (.cells us e fr) ∧ Thawed fr us.size ∧ cs.length = us.toList.length ∧
    ∀ (i : Nat) (x : AV) (u : Value) (b : Option Nat), cs[i]? = some x → us.toList[i]? = some u → own[i]? = some b → OwnC B w pr x u b
  free : ∀ o, ¬ pr kb o
  len : own.length = cs.length
  inj : ∀ (i j k : Nat), own[i]? = some (some k) → own[j]? = some (some k) → i = j
  ne : ∀ k, some k ∈ own → k ≠ kb

/-- a plain value, or a pointer into the lent box -/
def ARg (w : World) (pr : Nat → Nat → Prop) (kb : Nat) (v : AV) (u : Value) : Prop := (∃ off, v = .ptr lentBox off ∧ u = .pointer (some ⟨kb, off, none⟩)) ∨ PV w pr v u

def RetL (w : World) (pr : Nat → Nat → Prop) (kb : Nat) (r : AV) (u : Value) : Prop := match r with
  | .tup vs => ∃ us : List Value, u = .tuple us.toArray ∧ All2 (ARg w pr kb) vs us
  | v => ARg w pr kb v u

/-- a call of f that gets a box for the time of the call -/
def CallLent (P : Program) (f : FuncId) (vs cs : List AV) (r : AV) (cs' : List AV) : Prop :=
  HasBody P f ∧
  ∀ (w : World) (pr : Nat → Nat → Prop) (us : List Value) (kb : Nat) (own : List (Option Nat)), (∀ k o, pr k o → k < w.heap.size) → GlobOK w pr → BoxC (bdL w.heap.size pr kb own) w pr kb cs own → All2 (ARg w pr kb) vs us →
    Calls P f us.toArray w fun e w' => ∃ ru pr' own', e = .returned ru ∧ BelowB (bdL w.heap.size pr kb own) w w' ∧ (∀ k o, ¬ (bdL w.heap.size pr kb own).mine k → (pr' k o ↔ pr k o)) ∧ (∀ k o, pr' k o → k < w'.heap.size) ∧
      BoxC (bdL w.heap.size pr kb own) w' pr' kb cs' own' ∧ RetL w' pr' kb r ru

def AV.isBack : AV → Bool
  | .back _ _ => true
  | _ => false

/-- a call's start, to which a block was given away -/
def bdE (n : Nat) (pr : Nat → Nat → Prop) (b0 : Option Nat) : Bd := ⟨n, pr, fun k => b0 = some k, fun _ => none⟩

/-- what comes of a row that was given away, and what the call answers -/
def RetE (B : Bd) (w : World) (pr : Nat → Nat → Prop) (u0 : Value) (b0 : Option Nat) (r : AV) (bk : List AV) (ru : Value) : Prop := match bk with
  | [] => ResR B w pr r ru
  | [c] => OwnC B w pr c u0 b0 ∧ r = .tup [] ∧ ru = .tuple #[]
  | _ => False

/-- a call of f that takes its first argument over -/
def CallEat (P : Program) (f : FuncId) (a0 : AV) (rest : List AV) (r : AV) (bk : List AV) : Prop :=
  HasBody P f ∧
  ∀ (w : World) (pr : Nat → Nat → Prop) (u0 : Value) (us : List Value) (b0 : Option Nat), (∀ k o, pr k o → k < w.heap.size) → GlobOK w pr → OwnC (bdE w.heap.size pr b0) w pr a0 u0 b0 → All2 (PV w pr) rest us →
    Calls P f (u0 :: us).toArray w fun e w' => ∃ ru pr', e = .returned ru ∧ BelowB (bdE w.heap.size pr b0) w w' ∧ (∀ k o, ¬ (bdE w.heap.size pr b0).mine k → (pr' k o ↔ pr k o)) ∧ (∀ k o, pr' k o → k < w'.heap.size) ∧
      RetE (bdE w.heap.size pr b0) w' pr' u0 b0 r bk ru

def CallOK (P : Program) (f : FuncId) (args : List AV) (v : AV) : Prop :=
  (v.isBack = false ∧ CallPlain P f args v) ∨ (∃ vs cs r cs', args = vs ++ [.lent cs] ∧ v = .back r cs' ∧ CallLent P f vs cs r cs') ∨ ∃ a0 rest r bk, args = a0 :: rest ∧ v = .back r (.lent [] :: bk) ∧ CallEat P f a0 rest r bk

theorem tokOK_keeps {pr pr' : Nat → Nat → Prop} {T : Ty} {l : List T.den} {tg : TG} {B B' : Bd} (h : TokOK B w pr false T l tg) (hB : ∀ k, B.mine k → B'.mine k) (hk : PrKeeps w pr w pr') (hno : ∀ k, tg.blk = some k → ∀ o, ¬ pr' k o) : TokOK B' w pr' false T l tg := by
  obtain ⟨ez, r⟩ := h
  refine ⟨ez, r.imp id ?_⟩
  rintro ⟨k, cap, e1, e2, r⟩
  obtain ⟨us, el, fr, r1, r2, r3, r4⟩ := r.row
  exact ⟨k, cap, e1, e2, hB _ r.above, r.len, ⟨us, el, fr, r1, r2, r3, r4.keeps hk⟩, fun o p => absurd p (hno k e2 o), (fun x => by cases x), fun _ => hno k e2⟩

/-- the tokens of an answer's components, one behind the other -/
theorem answers_ev {d : Nat} {B0 : Bd} : ∀ {vs vs0 : List AV} {us us0 : List Value} {bs : List (Option Nat)} {j : Nat} {ws0 : List Wr} {g : Gh}, Rel B g (s.puts ws0) w a N → (∀ i, j ≤ i → s.toks (tokAt d i) = .abs → (s.puts ws0).toks (tokAt d i) = .abs) →
    vs.length = us.length → bs.length = us.length → (∀ k, k ∈ bs.filterMap id → Fresh g (s.puts ws0) k ∧ ∀ o, ¬ g.pr k o) → (∀ k, B0.mine k → B.mine k) →
    (∀ (i : Nat) (x : AV) (u : Value) (b : Option Nat), vs[i]? = some x → us[i]? = some u → bs[i]? = some b → OwnC B0 w g.pr x u b) → (∀ (i i' : Nat) (k : Nat), bs[i]? = some (some k) → bs[i']? = some (some k) → i = i') →
    All2 (LR w g) vs0 us0 → (answers d vs j vs0 ws0).Ev C Rd s ws → ∃ g' ws' vs', ws = ws' ++ [.tmp d (.tup vs')] ∧ Rel B g' (s.puts ws') w a N ∧ All2 (LR w g') vs' (us0 ++ us) := by
  intro vs
  induction vs with
  | nil =>
    intro vs0 us us0 bs j ws0 g h ht hl hb hf hB ho hi hv he
    have hu : us = [] := List.eq_nil_of_length_eq_zero (by simpa using hl.symm)
    subst hu
    exact ⟨g, ws0, vs0, he, h, by simpa using hv⟩
  | cons v vs ih =>
    intro vs0 us us0 bs j ws0 g h ht hl hb hf hB ho hi hv he
    cases us with
    | nil => simp at hl
    | cons u us =>
      cases bs with
      | nil => simp at hb
      | cons b bs =>
        have h0 := ho 0 v u b rfl rfl rfl
        have hi' : ∀ (i i' : Nat) (k : Nat), bs[i]? = some (some k) → bs[i']? = some (some k) → i = i' := fun i i' k e e' => by
          have := hi (i + 1) (i' + 1) k (by simpa using e) (by simpa using e'); omega
        by_cases hown : ∃ T l, v = .own T l
        · obtain ⟨T, l, rfl⟩ := hown
          simp only [answers] at he
          obtain ⟨_, he⟩ := he
          obtain ⟨tg, ok, rfl, hblk, hlt⟩ := h0
          cases htk : s.toks (tokAt d j) with
          | dead => rw [htk] at he; exact he.elim
          | live _ _ _ => rw [htk] at he; exact he.elim
          | abs =>
            rw [htk] at he
            have habs : (s.puts ws0).toks (tokAt d j) = .abs := ht j (Nat.le_refl _) htk
            have hfb : ∀ k, tg.blk = some k → Fresh g (s.puts ws0) k ∧ ∀ o, ¬ g.pr k o := by
              intro k hk
              exact hf k (by rw [← hblk, hk]; simp)
            obtain ⟨h2, k2⟩ := h.newTok (sh := false) (T := T) (l := l) (tg := tg) habs (fun k hk => (hfb k hk).1) (tokOK_keeps ok hB (fun _ _ p => ⟨p, rfl⟩) fun k hk => (hfb k hk).2)
            obtain ⟨q1, _, q2, _⟩ := ok.reads.out
            have hone : tg.val.oneCell' = true := by rw [q2]; rfl
            have := ih (vs0 := vs0 ++ [.ref (tokAt d j)]) (us0 := us0 ++ [tg.val]) (us := us) (bs := bs) (j := j + 1) (ws0 := ws0 ++ [.tok (tokAt d j) (.live false T l)]) (by rw [S.puts_one]; exact h2) ?_ (by simpa using hl) (by simpa using hb) ?_ hB
              (fun i x u' b' hx hu' hb' => by
                have := ho (i + 1) x u' b' (by simpa using hx) (by simpa using hu') (by simpa using hb'); exact this) hi'
              ((hv.imp fun _ _ => LR.keeps k2).append (show All2 (LR w _) [.ref (tokAt d j)] [tg.val] from ⟨⟨tg, upd_same _ _ _, rfl, hone⟩, trivial⟩)) he
            · simpa using this
            · intro i hi hti
              rw [S.puts_one]
              have e : tokAt d i ≠ tokAt d j := by unfold tokAt; omega
              simp only [S.put, upd_ne _ _ _ _ e]
              exact ht i (by omega) hti
            · intro k hk
              have hk2 : k ∈ (b :: bs).filterMap id := by
                cases b <;> simp at hk ⊢ <;> first | exact hk | exact .inr hk
              obtain ⟨f1, f2⟩ := hf k hk2
              refine ⟨⟨f1.β, fun t tg' hl' e' hb' => ?_⟩, f2⟩
              rw [S.puts_one] at hl'
              by_cases e : t = tokAt d j
              · subst e
                simp only [upd_same] at e'; cases e'
                -- the same block twice
                obtain ⟨i, hi0⟩ : ∃ i, bs[i]? = some (some k) := by
                  have : some k ∈ bs := by simpa using hk
                  exact List.getElem?_of_mem this
                have := hi 0 (i + 1) k (by simp [← hblk, hb']) (by simpa using hi0)
                omega
              · simp only [S.put, upd_ne _ _ _ _ e] at hl' e'
                exact f1.τ t tg' hl' e' hb'
        · have hpv : PV w g.pr v u ∧ b = none := by
            cases v <;> first | exact h0 | exact absurd ⟨_, _, rfl⟩ hown
          have he2 : (answers d vs (j + 1) (vs0 ++ [v]) ws0).Ev C Rd s ws := by
            cases v <;> first | exact he | exact absurd ⟨_, _, rfl⟩ hown
          have := ih (vs0 := vs0 ++ [v]) (us0 := us0 ++ [u]) (us := us) (bs := bs) (j := j + 1) (ws0 := ws0) h (fun i hi => ht i (by omega)) (by simpa using hl) (by simpa using hb)
            (fun k hk => hf k (by rw [hpv.2]; simpa using hk)) hB
            (fun i x u' b' hx hu' hb' => ho (i + 1) x u' b' (by simpa using hx) (by simpa using hu') (by simpa using hb')) hi' (hv.append ⟨hpv.1.LR, trivial⟩) he2
          simpa using this

theorem execOp_call {f : Operand} {args : Array Operand} {ts : Array TypeId} (ho : o.op = .call { callee := .value f, args := args, argTypes := ts }) {n : FuncId} {us : List Value} (hf : a.eval f = .func (.func n) #[] us.toArray)
    {fn : Func} (h1 : P.funcs[n]? = some fn) (h2 : (fn.name == "runtime.NumGoroutine") = false) (h3 : fn.body.isNone = false) :
    (execOp a.eval o).run P w = .ok (.enter n ((args.toList.map a.eval) ++ us).toArray) w := by
  simp only [execOp, ho, resolve, hf, Deferred.ofValue, Sem.run_bind, Sem.run_pure, Result.andThen_ok, invoke, callFunc, run_program, h1, h2, h3, Bool.false_eq_true, if_false, Sem.run_ite]
  congr 2
  apply Array.ext'
  simp

theorem ownC_block {B0 : Bd} {pr : Nat → Nat → Prop} {v : AV} {u : Value} {b : Option Nat} (h : OwnC B0 w pr v u b) {k : Nat} (hk : b = some k) : B0.mine k ∧ ∀ o, ¬ pr k o := by
  by_cases hown : ∃ T l, v = .own T l
  · obtain ⟨T, l, rfl⟩ := hown
    obtain ⟨tg, ⟨_, r⟩, _, hblk, _⟩ := h
    rcases r with ⟨_, e, _⟩ | ⟨k', cap, _, e, r⟩
    · rw [hblk, hk] at e; cases e
    · rw [hblk, hk] at e; cases e
      exact ⟨r.above, r.prno rfl⟩
  · have : PV w pr v u ∧ b = none := by cases v <;> first | exact h | exact absurd ⟨_, _, rfl⟩ hown
    rw [this.2] at hk; cases hk

theorem methsOK_get {ti : TypeInfo} {d : TypeDesc} {name : String} {n : FuncId} : ∀ {l : List (String × FuncId)}, methsOK ti d l = true → findM l name = some n →
    (∀ e, d ≠ .pointer e) ∧ ∃ m, ti.methods.find? (·.name == name) = some m ∧ m.path.toList = [] ∧ m.func = some (n, false)
  | [], _, h => by simp [findM] at h
  | (nm, f) :: l, h, hf => by
    simp only [methsOK, Bool.and_eq_true] at h
    obtain ⟨⟨h1, h2⟩, h3⟩ := h
    unfold findM at hf
    cases hs : sameName nm name with
    | false => rw [hs] at hf; exact methsOK_get h3 hf
    | true =>
      rw [hs] at hf
      simp only [cond_true, Option.some.injEq] at hf
      subst hf
      have hn : nm = name := by simpa [sameName] using hs
      subst hn
      refine ⟨fun e he => by rw [he] at h1; exact Bool.noConfusion h1, ?_⟩
      split at h2
      · rename_i m hm
        simp only [Bool.and_eq_true] at h2
        obtain ⟨h4, h5⟩ := h2
        split at h5
        · rename_i g' hg
          refine ⟨m, hm, by simpa using h4, ?_⟩
          rw [hg, Nat.eq_of_beq_eq_true h5]
        · cases h5
      · cases h2

/-- a value's method, by its row -/
theorem run_method {t : TypeId} {i : TInfo} {ti : TypeInfo} {d : TypeDesc} {z : Value} (T : TypeIs P t i ti d z) {name : String} {n : FuncId} (hm : findM i.meths name = some n) (u : Value) (fuel : Nat) :
    (method (fuel + 1) t u name).run P w = .ok (n, u) w := by
  obtain ⟨hp, m, h1, h2, h3⟩ := methsOK_get T.meth hm
  have hu : (underlying t).run P w = .ok d w := run_underlying T.und w
  have hr : (receiverAt t (.val u) false (if m.path.isEmpty then some ((name.splitOn ".").getLastD name) else none)).run P w = .ok u w := by
    simp only [receiverAt, Sem.run_bind, hu, Result.andThen_ok]
    cases d <;> first | exact absurd rfl (hp _) | rfl
  simp only [method, Sem.run_bind, typeInfo, run_program, Result.andThen_ok, T.info, Sem.run_pure, h1, h2, follow, h3, hr]

/-- what a call answered goes to its slot -/
theorem goes_answer {B0 : Bd} {g1 : Gh} {ws' : List Wr} {v : AV} {r : Value} (h3 : Rel B g1 (s.puts ws') w' a N) (hpm : ∀ i, s.toks i = .abs → (s.puts ws').toks i = .abs) (hd : ∀ t, o.dst = some t → t < N)
    (hB : BelowB B w w') (hmine : ∀ k, B0.mine k → B.mine k) (hfr : ∀ k, B0.mine k → Fresh g1 (s.puts ws') k) (hr : ResR B0 w' g1.pr v r) (he : (answer o.dst ws' v).Ev C Rd s ws)
    {K : Act → World → Prop} (hK : ∀ (g' : Gh) (a' : Act) (w' : World), Rel B g' (s.puts ws) w' a' N → BelowB B w w' → K a' w') : K (a.put o.dst r) w' := by
  have hplain : ∀ (he : (Pg.ret (ws' ++ wrd o.dst v)).Ev C Rd s ws), PV w' g1.pr v r → K (a.put o.dst r) w' := by
    intro he hpv
    have : ws = _ := he
    subst this
    refine hK g1 _ _ ?_ hB
    rw [S.puts_append]
    exact h3.wrd (VR_of_LR hpv.LR) hd
  by_cases hown : ∃ T l, v = .own T l
  · -- an own row
    obtain ⟨T, l, rfl⟩ := hown
    cases hdst : o.dst with
    | none => rw [hdst] at he; exact he.elim
    | some tt =>
    rw [hdst] at he
    obtain ⟨_, he⟩ := he
    obtain ⟨b, tg, ok, rfl, hblk, _⟩ := hr
    cases htk : s.toks (tokAt tt 0) with
    | dead => rw [htk] at he; exact he.elim
    | live _ _ _ => rw [htk] at he; exact he.elim
    | abs =>
      rw [htk] at he
      have : ws = _ := he
      subst this
      have habs : (s.puts ws').toks (tokAt tt 0) = .abs := hpm _ htk
      have hb := fun k (hk : tg.blk = some k) => ownC_block (v := .own T l) (u := tg.val) (B0 := B0) (w := w') (pr := g1.pr) ⟨tg, ok, rfl, rfl, fun k hk => by
        obtain ⟨_, r⟩ := ok
        rcases r with ⟨_, e, _⟩ | ⟨k', cap, _, e, r⟩
        · rw [hk] at e; cases e
        · rw [hk] at e; cases e
          obtain ⟨us, el, fr, r1, _⟩ := r.row
          exact (Array.getElem?_eq_some_iff.1 r1).1⟩ hk
      obtain ⟨h4, _⟩ := h3.newTok (sh := false) (T := T) (l := l) (tg := tg) habs (fun k hk => hfr k (hb k hk).1) (tokOK_keeps ok hmine (fun _ _ p => ⟨p, rfl⟩) fun k hk => (hb k hk).2)
      obtain ⟨q1, q3, q2, _⟩ := ok.reads.out
      have h5 := h4.tmp (t := tt) (v := .ref (tokAt tt 0)) (u := tg.val) ⟨tg, upd_same _ _ _, rfl, by rw [q2]; rfl⟩ (hd tt hdst)
      refine hK ?gg _ _ ?hh hB
      case hh => rw [S.puts_append]; exact h5
  by_cases htup : ∃ vs2, v = .tup vs2
  · -- several results
    obtain ⟨vs2, rfl⟩ := htup
    cases hdst : o.dst with
    | none => rw [hdst] at he; exact he.elim
    | some tt =>
    rw [hdst] at he
    obtain ⟨us, bs, rfl, l1, l2, hall, hinj⟩ := hr
    have hfb : ∀ k, k ∈ bs.filterMap id → Fresh g1 (s.puts ws') k ∧ ∀ o, ¬ g1.pr k o := by
      intro k hk
      have hk2 : some k ∈ bs := by simpa using hk
      obtain ⟨i, hi⟩ := List.getElem?_of_mem hk2
      have hlt : i < bs.length := (List.getElem?_eq_some_iff.1 hi).1
      have := ownC_block (hall i vs2[i] us[i] (some k) (by simp [show i < vs2.length by omega]) (by simp [show i < us.length by omega]) hi) rfl
      exact ⟨hfr k this.1, this.2⟩
    have hsame : ∀ i, 0 ≤ i → s.toks (tokAt tt i) = .abs → (s.puts ws').toks (tokAt tt i) = .abs := fun i _ e => hpm _ e
    obtain ⟨g2, ws2, vs3, rfl, h4, hvs3⟩ := answers_ev (B0 := B0) (vs0 := []) (us0 := []) h3 hsame l1 l2 hfb hmine hall hinj trivial he
    have h5 := h4.tmp (t := tt) (v := .tup vs3) (u := .tuple us.toArray) ⟨us, rfl, by simpa using hvs3⟩ (hd tt hdst)
    refine hK ?gg2 _ _ ?hh2 hB
    case hh2 => rw [S.puts_append]; exact h5
  · refine hplain ?_ ?_
    · cases v <;> first | exact he | exact absurd ⟨_, _, rfl⟩ hown | exact absurd ⟨_, rfl⟩ htup | (cases hdd : o.dst <;> rw [hdd] at he <;> exact he.elim)
    · cases v <;> first | (obtain ⟨b, q⟩ := hr; exact q.1) | exact absurd ⟨_, _, rfl⟩ hown | exact absurd ⟨_, rfl⟩ htup

theorem goes_enter {n : FuncId} {vargs : List AV} {us0 : List Value} {g1 : Gh} {ws' : List Wr} {v : AV} (hc0 : CallOK P n vargs v) (h2 : Rel B g1 (s.puts ws') w a N) (hpm : Promo s (s.puts ws')) (hd : ∀ t, o.dst = some t → t < N)
    (hargs : All2 (PV w g1.pr) vargs us0) (hex : HasBody P n → (execOp a.eval o).run P w = .ok (.enter n us0.toArray) w)
    (he : (answer o.dst ws' v).Ev C Rd s ws) : Goes P B N o s w a ws := by
  have hc : CallPlain P n vargs v := by
    rcases hc0 with h | ⟨_, _, r, c, _, rfl, _⟩ | ⟨_, _, r, c, _, rfl, _⟩
    · exact h.2
    · cases hd : o.dst <;> rw [hd] at he <;> exact he.elim
    · cases hd : o.dst <;> rw [hd] at he <;> exact he.elim
  obtain ⟨hfn, hcall⟩ := hc
  intro K Q hK
  unfold Oper.wp
  rw [hex hfn, Oper.upon_enter]
  refine (hcall w g1.pr _ h2.prlt h2.ex.gl hargs).mono ?_
  rintro e w' ⟨r, pr', rfl, hbel, hp1, hp2, hr⟩
  show K (a.put o.dst r) w'
  obtain ⟨h3, k3⟩ := h2.grow hbel.size (fun k hk => hbel.block k hk) hp1 hp2
  exact goes_answer (B0 := bd0 w.heap.size g1.pr) h3 (fun i e => by
    rcases hpm.toks i with e' | ⟨_, _, e', _⟩
    · rw [e', e]
    · rw [e] at e'; cases e') hd (.of (hbel.mono h2.hB)) (fun k hk => .inl (Nat.le_trans h2.hB (bd0_mine.1 hk))) (fun k hk => ⟨(h2.fresh (bd0_mine.1 hk)).β, (h2.fresh (bd0_mine.1 hk)).τ⟩) hr he hK

theorem goes_invoke (hT : TIok P TI) (hC : ∀ f args v, C f args v → CallOK P f args v) (h : Rel B g s w a N) (hd : ∀ t, o.dst = some t → t < N) {r : Operand} {name : String} {args : Array Operand} {ts : Array TypeId}
    (ho : o.op = .call { callee := .invoke r name, args := args, argTypes := ts }) {vs : List AV} (hv : All2 (VR w g) vs (args.toList.map a.eval))
    (he0 : (rdv r fun
      | .ifv t T x => tinf TI t fun i => match findM i.meths name with
        | some n => snaps vs [] fun vs ws => .call n (T.av x :: vs) fun v => answer o.dst ws v
        | none => .fail
      | _ => .fail).Ev C Rd s ws) : Goes P B N o s w a ws := by
  obtain ⟨p, hp, he⟩ := rdv_ev h he0
  clear he0
  cases p with
  | ifv t T x =>
    simp only [] at he
    unfold tinf at he
    cases hi : TI t with
    | none => rw [hi] at he; exact he.elim
    | some i =>
      rw [hi] at he
      simp only [] at he
      obtain ⟨ti, d, z, TT⟩ := hT.get hi
      cases hm : findM i.meths name with
      | none => rw [hm] at he; exact he.elim
      | some n =>
        rw [hm] at he
        simp only [] at he
        obtain ⟨vs', ws', g1, he, hpm, h2, hk, hv2⟩ := snaps_ev (Promo.refl s) (by simpa [S.puts] using h) hv he
        obtain ⟨v, hc, he⟩ := he
        have hp' : TR w g1.pr (.ifc t T) x [a.eval r] := TR.keeps hk.pr hp
        obtain ⟨u, us, e1, e2, e3⟩ := hp'
        have e1 : a.eval r = .iface t u := by simpa using e1
        have hpv : PV w g1.pr (T.av x) u := by
          cases hst : T.isSt with
          | true =>
            rw [hst] at e2
            refine .inr ⟨T.cells x, us, ?_, e2, cells_PR e3⟩
            unfold Ty.av; simp only [hst]
          | false =>
            rw [hst] at e2
            have e2 : us = [u] := e2
            subst e2
            have := cells_PR e3
            have hl := this.len
            cases hcc : T.cells x with
            | nil => rw [hcc] at hl; simp at hl
            | cons c cs =>
              rw [hcc] at this
              left
              unfold Ty.av
              simp only [hst, hcc, List.headD_cons]
              exact this.1
        exact goes_enter (hC _ _ _ hc) h2 hpm hd (vargs := T.av x :: vs') (us0 := u :: args.toList.map a.eval) ⟨hpv, hv2⟩ (fun ⟨fn, f1, f2, f3⟩ => by
          have e0 : (#[Value.iface t u] ++ args.map a.eval)[0]? = some (.iface t u) := by rw [Array.getElem?_append_left (by simp)]; rfl
          have e4 : (#[Value.iface t u] ++ args.map a.eval).extract 1 (#[Value.iface t u] ++ args.map a.eval).size = args.map a.eval := by apply Array.ext'; simp; rw [List.take_of_length_le (by simp)]
          obtain ⟨k, hk⟩ : ∃ k, P.types.size + Made.depth = k + 1 := ⟨P.types.size + 99, rfl⟩
          have hme := run_method (P := P) (w := w) TT hm u k
          have hcm : (callMethod (.iface t u) name (args.map a.eval)).run P w = .ok (.enter n (u :: args.toList.map a.eval).toArray) w := by
            simp only [callMethod, Sem.run_bind, run_program, Result.andThen_ok, hk, hme, callFunc, f1, f2, f3, Bool.false_eq_true, if_false, Sem.run_ite, Sem.run_pure]
            congr 2
            apply Array.ext'
            simp
          simp only [execOp, ho, resolve, e1, Sem.run_bind, Sem.run_pure, Result.andThen_ok, invoke, e0, e4, hcm]) he
  | _ => exact he.elim

end
end Go.Proofs.YtjgnpmdbkgeakaaDoor.Th
