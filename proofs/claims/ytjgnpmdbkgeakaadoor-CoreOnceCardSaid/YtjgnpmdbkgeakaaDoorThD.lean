/- THEORY, part D: whatever order a region draws, its operations come to the state of the text's order. No condition. -/
import Derived.Test.YtjgnpmdbkgeakaaDoorThC
set_option linter.unusedVariables false
set_option linter.unusedSimpArgs false
namespace Go.Proofs.YtjgnpmdbkgeakaaDoor.Th
open Go

def mix : List Stp → (Nat → Bool) → Nat → S → S
  | [], _, _, s => s
  | x :: xs, L, i, s => mix xs L (i + 1) (bif L i then s.puts x.ws else s)

def lookM : List Stp → (Nat → Bool) → Nat → Rs → Option RV
  | [], _, _, _ => none
  | x :: xs, L, i, r => match lookM xs L (i + 1) r with
    | some v => some v
    | none => bif L i then look x.ws r else none

theorem mix_get (xs : List Stp) (L : Nat → Bool) (r : Rs) : ∀ (i : Nat) (s : S), (mix xs L i s).get r = (lookM xs L i r).getD (s.get r) := by
  induction xs with
  | nil => intro i s; rfl
  | cons x xs ih =>
    intro i s
    simp only [mix, ih, lookM]
    cases lookM xs L (i + 1) r with
    | some v => rfl
    | none => cases L i <;> simp [S.get_puts]

theorem lookM_append (a b : List Stp) (L : Nat → Bool) (r : Rs) : ∀ i, lookM (a ++ b) L i r = match lookM b L (i + a.length) r with | some v => some v | none => lookM a L i r := by
  induction a with
  | nil => intro i; simp only [List.nil_append, List.length_nil, Nat.add_zero]; cases lookM b L i r <;> rfl
  | cons x a ih =>
    intro i
    simp only [List.cons_append, lookM, ih (i + 1), List.length_cons]
    rw [show i + 1 + a.length = i + (a.length + 1) from by omega]
    cases lookM b L (i + (a.length + 1)) r <;> rfl

theorem lookM_congr (a : List Stp) (L L' : Nat → Bool) (r : Rs) : ∀ i, (∀ j x, a[j]? = some x → L (i + j) ≠ L' (i + j) → look x.ws r = none) → lookM a L i r = lookM a L' i r := by
  induction a with
  | nil => intro i _; rfl
  | cons x a ih =>
    intro i h
    simp only [lookM]
    rw [ih (i + 1) (fun j y hy hne => h (j + 1) y (by simpa using hy) (by rw [show i + (j + 1) = i + 1 + j from by omega]; exact hne))]
    cases lookM a L' (i + 1) r with
    | some v => rfl
    | none =>
      by_cases e : L i = L' i
      · rw [e]
      · have := h 0 x (by simp) (by simpa using e)
        rw [this]; cases L i <;> cases L' i <;> rfl

theorem lookM_none (a : List Stp) (L : Nat → Bool) (r : Rs) : ∀ i, (∀ j x, a[j]? = some x → L (i + j) = true → look x.ws r = none) → lookM a L i r = none := by
  induction a with
  | nil => intro i _; rfl
  | cons x a ih =>
    intro i h
    simp only [lookM]
    rw [ih (i + 1) (fun j y hy hl => h (j + 1) y (by simpa using hy) (by rw [show i + (j + 1) = i + 1 + j from by omega]; exact hl))]
    simp only []
    cases e : L i with
    | false => rfl
    | true => exact h 0 x (by simp) (by simpa using e)

theorem txt_state {C : FuncId → List AV → AV → Prop} {TI : TEnv} {ops : List Oper} : ∀ (l : List Oper) (s : S) (st : List Stp) (s' : S), TxtEv C TI ops l s st s' →
    st.length = l.length ∧ s' = mix st (fun _ => true) 0 s ∧ ∀ (i : Nat) (x : Stp), st[i]? = some x → x.s = mix (st.take i) (fun _ => true) 0 s ∧ ∃ o, l[i]? = some o ∧ (pgG TI ops o).Ev C (· ∈ x.rd) x.s x.ws := by
  have shift : ∀ (xs : List Stp) (i j : Nat) (s : S), mix xs (fun _ => true) i s = mix xs (fun _ => true) j s := by
    intro xs; induction xs with
    | nil => intros; rfl
    | cons x xs ih => intro i j s; simp only [mix]; exact ih _ _ _
  intro l
  induction l with
  | nil =>
    rintro s st s' ⟨rfl, rfl⟩
    exact ⟨rfl, rfl, fun i x hx => by simp at hx⟩
  | cons o l ih =>
    rintro s st s' ⟨x, st', rfl, hxs, hev, hrest⟩
    obtain ⟨h1, h2, h3⟩ := ih _ _ _ hrest
    refine ⟨by simp [h1], ?_, ?_⟩
    · rw [h2]; simp only [mix, cond_true]; exact shift _ _ _ _
    · intro i y hy
      cases i with
      | zero => simp at hy; subst hy; exact ⟨hxs, o, rfl, by rw [hxs]; exact hev⟩
      | succ i =>
        simp at hy
        obtain ⟨ha, o', ho', hb⟩ := h3 i y hy
        refine ⟨?_, o', by simpa using ho', hb⟩
        rw [ha]; simp only [List.take_succ_cons, mix, cond_true]; exact shift _ _ _ _

/-! apartness -/
theorem Rs.beq_iff {a b : Rs} : a.beq b = true ↔ a = b := by
  cases a <;> cases b <;> simp [Rs.beq]
theorem Rs.mem_iff {r : Rs} {l : List Rs} : r.mem l = true ↔ r ∈ l := by
  induction l with
  | nil => simp [Rs.mem]
  | cons x l ih =>
    simp only [Rs.mem, List.mem_cons]
    cases h : r.beq x with
    | true => simp [Rs.beq_iff.1 h]
    | false => have : r ≠ x := fun e => by rw [Rs.beq_iff.2 e] at h; cases h
               simp [ih, this]
theorem meets_false {a b : List Rs} (h : meets a b = false) : ∀ r ∈ a, r ∉ b := by
  induction a with
  | nil => intro r hr; cases hr
  | cons x a ih =>
    simp only [meets] at h
    cases hm : x.mem b with
    | true => rw [hm] at h; cases h
    | false =>
      rw [hm] at h
      intro r hr
      cases hr with
      | head => exact fun hb => by rw [Rs.mem_iff.2 hb] at hm; cases hm
      | tail _ hr => exact ih h r hr

structure Apart (a b : Stp) : Prop where
  wr : ∀ r ∈ a.ws.map Wr.rs, r ∉ b.rd
  ww : ∀ r ∈ a.ws.map Wr.rs, r ∉ b.ws.map Wr.rs
  rw : ∀ r ∈ b.ws.map Wr.rs, r ∉ a.rd

theorem apart_of {a b : Stp} (h : a.fp.apart b.fp = true) : Apart a b := by
  unfold Fp.apart at h
  cases h1 : meets a.fp.wr b.fp.rd with
  | true => rw [h1] at h; cases h
  | false =>
    cases h2 : meets a.fp.wr b.fp.wr with
    | true => rw [h1, h2] at h; cases h
    | false =>
      rw [h1, h2] at h
      have h3 : meets b.fp.wr a.fp.rd = false := by simpa using h
      exact ⟨meets_false h1, meets_false h2, meets_false h3⟩

theorem apartAll_spec {m : Nat} {f : Fp} : ∀ (gs : List Fp) (k : Nat), apartAll m f k gs = true → ∀ (i : Nat) (g : Fp), gs[i]? = some g → Nat.testBit m (k + i) = true ∨ g.apart f = true := by
  intro gs
  induction gs with
  | nil => intro k _ i g hg; simp at hg
  | cons x gs ih =>
    intro k h i g hg
    simp only [apartAll] at h
    cases hc : (bif Nat.testBit m k then true else x.apart f) with
    | false => rw [hc] at h; cases h
    | true =>
      rw [hc] at h; simp only [cond_true] at h
      cases i with
      | zero =>
        simp at hg; subst hg
        cases hb : Nat.testBit m k with
        | true => exact .inl rfl
        | false => rw [hb] at hc; exact .inr (by simpa using hc)
      | succ i =>
        simp at hg
        have := ih (k + 1) h i g hg
        rwa [show k + (i + 1) = k + 1 + i from by omega]

/-! ancestors -/
def binding (o : Oper) (i : Nat) : Prop := ∃ e ∈ o.after, Region.binds .any e = true ∧ e.on = i

theorem foldMask (acc : List Nat) (es : List Edge) : ∀ (m i : Nat),
    Nat.testBit (es.foldl (maskE acc) m) i = true →
      Nat.testBit m i = true ∨ ∃ e ∈ es, Region.binds .any e = true ∧ (e.on = i ∨ Nat.testBit (acc.getD e.on 0) i = true) := by
  induction es with
  | nil => intro m i h; exact .inl h
  | cons e es ih =>
    intro m i h
    rw [List.foldl_cons] at h
    rcases ih _ _ h with h | ⟨e', he', hb, hr⟩
    · cases hb : Region.binds .any e with
      | false => rw [maskE, hb] at h; exact .inl h
      | true =>
        rw [maskE, hb] at h
        simp only [Nat.testBit_or, Bool.or_eq_true] at h
        rcases h with (h | h) | h
        · exact .inl h
        · refine .inr ⟨e, .head _, hb, .inl ?_⟩
          rw [Nat.testBit_two_pow] at h; simpa using h
        · exact .inr ⟨e, .head _, hb, .inr h⟩
    · exact .inr ⟨e', .tail _ he', hb, hr⟩

theorem ancs_get (os : List Oper) : ∀ (acc : List Nat), (∀ (i : Nat) (m : Nat), acc[i]? = some m → (ancs os acc)[i]? = some m) ∧
    ∀ (j : Nat) (o : Oper), os[j]? = some o → (ancs os acc)[acc.length + j]? = some (maskOf o ((ancs os acc).take (acc.length + j))) := by
  induction os with
  | nil => intro acc; exact ⟨fun i m h => h, fun j o h => by simp at h⟩
  | cons x os ih =>
    intro acc
    obtain ⟨h1, h2⟩ := ih (acc ++ [maskOf x acc])
    constructor
    · intro i m h
      exact h1 i m (by rw [List.getElem?_append_left (List.getElem?_eq_some_iff.1 h).1]; exact h)
    · intro j o h
      simp only [ancs]
      cases j with
      | zero =>
        simp at h; subst h
        have := h1 acc.length (maskOf x acc) (by simp)
        rw [Nat.add_zero, this]
        congr 2
        have hp : ∀ i, i < acc.length → (ancs os (acc ++ [maskOf x acc]))[i]? = acc[i]? := by
          intro i hi
          rw [h1 i acc[i] (by rw [List.getElem?_append_left hi]; exact List.getElem?_eq_getElem hi)]
          exact (List.getElem?_eq_getElem hi).symm
        refine List.ext_getElem? fun i => ?_
        rw [List.getElem?_take]
        split
        · rename_i hi; exact (hp i hi).symm
        · rename_i hi; exact List.getElem?_eq_none (by omega)
      | succ j =>
        simp at h
        have := h2 j o h
        simp only [List.length_append, List.length_cons, List.length_nil] at this
        rwa [show acc.length + (0 + 1) + j = acc.length + (j + 1) from by omega] at this

section
variable {C : FuncId → List AV → AV → Prop} {TI : TEnv} {ops : Array Oper} {st : List Stp} {s s' : S}

/-- what is known of a region that draws -/
structure Drawn (C : FuncId → List AV → AV → Prop) (TI : TEnv) (ops : Array Oper) (s : S) (st : List Stp) (s' : S) : Prop where
  len : st.length = ops.size
  fin : s' = mix st (fun _ => true) 0 s
  at_ : ∀ (i : Nat) (x : Stp), st[i]? = some x → x.s = mix (st.take i) (fun _ => true) 0 s ∧ ∃ o, ops[i]? = some o ∧ (pgG TI ops.toList o).Ev C (· ∈ x.rd) x.s x.ws
  apart : ∀ (i j : Nat) (x y : Stp), i < j → st[i]? = some x → st[j]? = some y → Nat.testBit ((ancs ops.toList []).getD j 0) i = true ∨ Apart x y
  back : ∀ (i : Nat) (o : Oper) (e : Edge), ops[i]? = some o → e ∈ o.after → Region.binds .any e = true → e.on < i

theorem edgesBack_spec (os : List Oper) : ∀ (k : Nat), edgesBack k os = true → ∀ (i : Nat) (o : Oper) (e : Edge), os[i]? = some o → e ∈ o.after → Region.binds .any e = true → e.on < k + i := by
  induction os with
  | nil => intro k _ i o e h; simp at h
  | cons x os ih =>
    intro k h i o e ho he hb
    simp only [edgesBack] at h
    cases hc : x.after.toList.all (edgeOK k) with
    | false => rw [hc] at h; cases h
    | true =>
      rw [hc] at h; simp only [cond_true] at h
      cases i with
      | zero =>
        simp at ho; subst ho
        have := List.all_eq_true.1 hc e (Array.mem_toList_iff.2 he)
        rw [edgeOK, hb] at this
        have := (Nat.blt_eq ▸ this : e.on < k)
        omega
      | succ i =>
        simp at ho
        have := ih (k + 1) h i o e ho he hb
        omega

theorem drawn_of {R : Type} {O : Orc} (hO : OrcOK O C) {K : S → Option R} {r : R} (hb : edgesBack 0 ops.toList = true)
    (h : evalDraw TI O ops.toList ops.toList (ancs ops.toList []) [] s K = some r) : ∃ st s', Drawn C TI ops s st s' ∧ K s' = some r := by
  obtain ⟨st, s', h1, h2, h3⟩ := evalDraw_ev hO _ _ _ _ h
  obtain ⟨a, b, c⟩ := txt_state _ _ _ _ h1
  refine ⟨st, s', ⟨by simpa using a, b, ?_, ?_, ?_⟩, h2⟩
  · intro i x hx
    obtain ⟨p, o, q, r⟩ := c i x hx
    exact ⟨p, o, by simpa using q, r⟩
  · intro i j x y hij hx hy
    obtain ⟨m, hm, ha⟩ := h3 j y hy
    have hlen : i < st.length := (List.getElem?_eq_some_iff.1 hx).1
    have := apartAll_spec _ 0 ha i x.fp (by simp [List.getElem?_take, hij, hx])
    rw [Nat.zero_add] at this
    have e : (ancs ops.toList []).getD j 0 = m := by simp [List.getD, hm]
    rw [e]
    exact this.imp id apart_of
  · intro i o e ho he hbd
    have := edgesBack_spec _ 0 hb i o e (by simpa using ho) he hbd
    omega

/-- what has been listed is closed under its edges -/
def Closed (ops : Array Oper) (L : Nat → Bool) : Prop := ∀ (j : Nat) (o : Oper), ops[j]? = some o → L j = true → ∀ e ∈ o.after, Region.binds .any e = true → L e.on = true

theorem anc_in {L : Nat → Bool} (hc : Closed ops L) (hback : ∀ (i : Nat) (o : Oper) (e : Edge), ops[i]? = some o → e ∈ o.after → Region.binds .any e = true → e.on < i) :
    ∀ (j : Nat) (o : Oper), ops[j]? = some o → (∀ e ∈ o.after, Region.binds .any e = true → L e.on = true) → ∀ i, Nat.testBit ((ancs ops.toList []).getD j 0) i = true → L i = true := by
  intro j
  induction j using Nat.strongRecOn with
  | _ j ih =>
    intro o ho hd i hi
    have hj := (ancs_get ops.toList []).2 j o (by simpa using ho)
    simp only [List.length_nil, Nat.zero_add] at hj
    rw [List.getD, hj, Option.getD_some] at hi
    unfold maskOf at hi
    rcases foldMask _ _ _ _ hi with h | ⟨e, he, hb, hr⟩
    · simp at h
    · have he' : e ∈ o.after := Array.mem_toList_iff.1 he
      have hlt := hback j o e ho he' hb
      have hL := hd e he' hb
      rcases hr with rfl | hr
      · exact hL
      · have hsz : j < ops.size := (Array.getElem?_eq_some_iff.1 ho).1
        have hoe : ops[e.on]? = some ops[e.on] := by simp [show e.on < ops.size by omega]
        refine ih e.on hlt _ hoe (fun e2 h2 hb2 => hc e.on _ hoe hL e2 h2 hb2) i ?_
        rw [List.getD, List.getElem?_take, if_pos hlt] at hr
        exact hr

theorem look_puts_none {x : Stp} {r : Rs} (h : r ∉ x.ws.map Wr.rs) : look x.ws r = none := look_none h

/-- main 1: where j may be taken next, it reads what it reads in the text's order -/
theorem Drawn.reads (D : Drawn C TI ops s st s') {L : Nat → Bool} (hc : Closed ops L) {j : Nat} {o : Oper} {x : Stp} (ho : ops[j]? = some o) (hx : st[j]? = some x)
    (hd : ∀ e ∈ o.after, Region.binds .any e = true → L e.on = true) (hn : L j = false) (r : Rs) (hr : r ∈ x.rd) : (mix st L 0 s).get r = x.s.get r := by
  have hj : j < st.length := (List.getElem?_eq_some_iff.1 hx).1
  have hsplit : st = st.take j ++ st.drop j := (List.take_append_drop j st).symm
  rw [(D.at_ j x hx).1, mix_get, mix_get]
  congr 1
  rw [hsplit, lookM_append]
  have hb : lookM (st.drop j) L (0 + (st.take j).length) r = none := by
    refine lookM_none _ _ _ _ fun i y hy hl => ?_
    have hlen : (st.take j).length = j := by simp; omega
    rw [hlen] at hl
    simp only [List.getElem?_drop] at hy
    have hne : i ≠ 0 := by intro e; subst e; simp at hl; rw [hl] at hn; cases hn
    rcases D.apart j (j + i) x y (by omega) hx hy with h | h
    · have hyo : ∃ oy, ops[j + i]? = some oy := by obtain ⟨_, oy, hoy, _⟩ := D.at_ _ _ hy; exact ⟨oy, hoy⟩
      obtain ⟨oy, hoy⟩ := hyo
      have := anc_in hc D.back (j + i) oy hoy (fun e he hb => hc _ _ hoy (by simpa using hl) e he hb) j h
      rw [this] at hn; cases hn
    · exact look_none (fun hm => h.rw r hm hr)
  rw [hb]; simp only []
  rw [List.take_append_drop]
  refine lookM_congr _ _ _ _ _ fun i y hy hne => ?_
  simp only [Nat.zero_add] at hne
  have hi : i < j := by have := (List.getElem?_eq_some_iff.1 hy).1; simp at this; omega
  rw [List.getElem?_take, if_pos hi] at hy
  rcases D.apart i j y x hi hy hx with h | h
  · have := anc_in hc D.back j o ho hd i h
    rw [this] at hne; exact absurd rfl hne
  · exact look_none (fun hm => h.wr r hm hr)

/-- main 2: and what it writes goes behind all that was written -/
theorem Drawn.writes (D : Drawn C TI ops s st s') {L L' : Nat → Bool} (hc : Closed ops L) {j : Nat} {o : Oper} {x : Stp} (ho : ops[j]? = some o) (hx : st[j]? = some x)
    (hn : L j = false) (hL' : ∀ i, L' i = (if i = j then true else L i)) : mix st L' 0 s = (mix st L 0 s).puts x.ws := by
  have hj : j < st.length := (List.getElem?_eq_some_iff.1 hx).1
  have hst : st = st.take j ++ (x :: st.drop (j + 1)) := by
    conv => lhs; rw [← List.take_append_drop j st]
    congr 1
    rw [List.drop_eq_getElem_cons hj]
    congr 1
    exact (List.getElem?_eq_some_iff.1 hx).2
  have hlen : (st.take j).length = j := by simp; omega
  apply S.ext_get
  intro r
  rw [mix_get, S.get_puts, mix_get]
  have hrest : lookM (st.drop (j + 1)) L' (j + 1) r = lookM (st.drop (j + 1)) L (j + 1) r := by
    refine lookM_congr _ _ _ _ _ fun i y hy hne => ?_
    exact absurd (by rw [hL', if_neg (by omega)]) hne
  have hfirst : lookM (st.take j) L' 0 r = lookM (st.take j) L 0 r := by
    refine lookM_congr _ _ _ _ _ fun i y hy hne => ?_
    have hi : i < j := by have := (List.getElem?_eq_some_iff.1 hy).1; simp at this; omega
    exact absurd (by rw [hL', if_neg (by omega)]) hne
  rw [hst, lookM_append, lookM_append, hlen]
  simp only [lookM, Nat.zero_add, hrest, hfirst, hn, cond_false]
  rw [hL' j, if_pos rfl, cond_true]
  cases hw : look x.ws r with
  | none => cases lookM (st.drop (j + 1)) L (j + 1) r <;> simp
  | some v =>
    have hmem : r ∈ x.ws.map Wr.rs := by
      by_cases e : r ∈ x.ws.map Wr.rs
      · exact e
      · rw [look_none e] at hw; cases hw
    have : lookM (st.drop (j + 1)) L (j + 1) r = none := by
      refine lookM_none _ _ _ _ fun i y hy hl => ?_
      simp only [List.getElem?_drop] at hy
      rcases D.apart j (j + 1 + i) x y (by omega) hx hy with h | h
      · obtain ⟨_, oy, hoy, _⟩ := D.at_ _ _ hy
        have := anc_in hc D.back (j + 1 + i) oy hoy (fun e he hb => hc _ _ hoy hl e he hb) j h
        rw [this] at hn; cases hn
      · exact look_none (h.ww r hmem)
    rw [this]; simp

/-- the machine's any order, over whatever holds of a state -/
theorem Drawn.any (D : Drawn C TI ops s st s') {P : Program} {Q : Exit → Act → World → Prop} (I : S → Act → World → Prop)
    (step : ∀ (i : Nat) (o : Oper) (σ : S) (ws : List Wr) (a : Act) (w : World) (K : Act → World → Prop), ops[i]? = some o → I σ a w → (pgG TI ops.toList o).Ev C (fun _ => True) σ ws →
      (∀ a' w', I (σ.puts ws) a' w' → K a' w') → wpOp P ops Q i K a w)
    (hQ : ∀ a w, I s' a w → Q .normal a w) :
    ∀ (fuel : Nat) (listed : Array Bool) (a : Act) (w : World), listed.size = ops.size → Closed ops (fun i => listed.getD i false) →
      (∀ k, (∀ i, i < k → listed.getD i false = true) ∨ True) → I (mix st (fun i => listed.getD i false) 0 s) a w →
      ((List.range ops.size).filter (fun i => !listed.getD i false)).length ≤ fuel → wpAny P .any ops Q fuel listed a w := by
  have done : ∀ (listed : Array Bool) (a : Act) (w : World), listed.size = ops.size → Region.ready .any ops listed = [] → I (mix st (fun i => listed.getD i false) 0 s) a w → Q .normal a w := by
    intro listed a w hs hr hI
    have hall : ∀ i, i < ops.size → listed.getD i false = true := by
      intro i
      induction i using Nat.strongRecOn with
      | _ i ih =>
        intro hi
        cases hl : listed.getD i false with
        | true => rfl
        | false =>
          have : i ∈ Region.ready .any ops listed := by
            rw [mem_ready]
            refine ⟨by simpa [Array.getD, hs, hi] using hl, ops[i], by simp [hi], fun e he hb => ?_⟩
            have hlt := D.back i ops[i] e (by simp [hi]) he hb
            exact ih e.on hlt (by omega)
          rw [hr] at this; cases this
    have : mix st (fun i => listed.getD i false) 0 s = s' := by
      rw [D.fin]
      apply S.ext_get; intro r
      rw [mix_get, mix_get]
      congr 1
      refine lookM_congr _ _ _ _ _ fun i y hy hne => ?_
      have hi : i < ops.size := by rw [← D.len]; exact (List.getElem?_eq_some_iff.1 hy).1
      simp only [Nat.zero_add] at hne
      exact absurd (hall i hi) hne
    rw [this] at hI
    exact hQ a w hI
  intro fuel
  induction fuel with
  | zero =>
    intro listed a w hs hcl _ hI hf
    have hempty : Region.ready .any ops listed = [] := by
      apply List.eq_nil_iff_forall_not_mem.2
      intro i hi
      rw [mem_ready] at hi
      obtain ⟨h0, o, ho, _⟩ := hi
      have hlt : i < ops.size := (Array.getElem?_eq_some_iff.1 ho).1
      have : i ∈ (List.range ops.size).filter (fun i => !listed.getD i false) := by
        rw [List.mem_filter, List.mem_range]
        refine ⟨hlt, ?_⟩
        have : listed.getD i false = false := by simpa [Array.getD, hs, hlt] using h0
        simp [this]
      have := List.length_pos_of_mem this
      omega
    exact ⟨hempty, done listed a w hs hempty hI⟩
  | succ fuel ih =>
    intro listed a w hs hcl _ hI hf
    refine ⟨fun hr => done listed a w hs hr hI, fun j hj => ?_⟩
    rw [mem_ready] at hj
    obtain ⟨h0, o, ho, hd⟩ := hj
    have hlt : j < ops.size := (Array.getElem?_eq_some_iff.1 ho).1
    have hn : listed.getD j false = false := by simpa [Array.getD, hs, hlt] using h0
    have hx : ∃ x, st[j]? = some x := by rw [← D.len] at hlt; exact ⟨st[j], by simp [hlt]⟩
    obtain ⟨x, hx⟩ := hx
    obtain ⟨hxs, o', ho', hev⟩ := D.at_ j x hx
    rw [ho] at ho'; cases ho'
    have hev2 : (pgG TI ops.toList o).Ev C (fun _ => True) (mix st (fun i => listed.getD i false) 0 s) x.ws :=
      (hev.congr (fun r hr => D.reads hcl ho hx hd hn r hr)).mono (fun _ _ => trivial)
    refine step j o _ _ a w _ ho hI hev2 fun a' w' hI' => ?_
    have hset : ∀ i, (listed.setIfInBounds j true).getD i false = (if i = j then true else listed.getD i false) := by
      intro i
      by_cases e : i = j
      · subst e; simp [Array.getD, hs, hlt]
      · rw [getD_set_ne false (Ne.symm e), if_neg e]
    have hw := D.writes hcl ho hx hn hset
    refine ih _ a' w' (by simp [hs]) ?_ (fun _ => .inr trivial) ?_ ?_
    · intro i oi hoi hli e he hb
      simp only [hset] at hli ⊢
      split
      · rfl
      · by_cases eij : i = j
        · subst eij; rw [ho] at hoi; cases hoi; exact hd e he hb
        · rw [if_neg eij] at hli; exact hcl i oi hoi hli e he hb
    · have : (fun i => (listed.setIfInBounds j true).getD i false) = fun i => (if i = j then true else listed.getD i false) := funext hset
      rw [hw]; exact hI'
    · have hsub : ((List.range ops.size).filter (fun i => !(listed.setIfInBounds j true).getD i false)).length < ((List.range ops.size).filter (fun i => !listed.getD i false)).length := by
        have : ∀ (l : List Nat), l.Nodup → j ∈ l → (l.filter (fun i => !(listed.setIfInBounds j true).getD i false)).length < (l.filter (fun i => !listed.getD i false)).length := by
          intro l
          induction l with
          | nil => intro _ h; cases h
          | cons y l ihl =>
            intro hnd hm
            rw [List.nodup_cons] at hnd
            by_cases e : y = j
            · subst e
              rw [List.filter_cons_of_neg (by simp [hset]), List.filter_cons_of_pos (by simp [hn])]
              have : l.filter (fun i => !(listed.setIfInBounds y true).getD i false) = l.filter (fun i => !listed.getD i false) := by
                apply List.filter_congr
                intro z hz
                have : z ≠ y := fun e => hnd.1 (e ▸ hz)
                rw [hset, if_neg this]
              rw [this]; simp
            · have hm' : j ∈ l := by cases hm with | head => exact absurd rfl e | tail _ h => exact h
              have h1 := ihl hnd.2 hm'
              have hey : (listed.setIfInBounds j true).getD y false = listed.getD y false := by rw [hset, if_neg e]
              simp only [List.filter_cons, hey]
              split
              · simp only [List.length_cons]; omega
              · exact h1
        exact this _ List.nodup_range (by simp [hlt])
      omega
end

end Go.Proofs.YtjgnpmdbkgeakaaDoor.Th
