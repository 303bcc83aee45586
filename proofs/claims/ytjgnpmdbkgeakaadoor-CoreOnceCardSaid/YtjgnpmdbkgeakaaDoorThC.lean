/- THEORY, part C: what the kernel's run tells, as relations; a region's operations in any order that their edges allow come to the same state. No condition. -/
import Derived.Test.YtjgnpmdbkgeakaaDoorThB
set_option linter.unusedVariables false
set_option linter.unusedSimpArgs false
namespace Go.Proofs.YtjgnpmdbkgeakaaDoor.Th
open Go

/-! ### states, resource by resource -/
inductive RV where
  | av (v : AV) | bx (c : Option (List AV)) | tk (t : Tok)

def S.get (s : S) : Rs → RV
  | .tmp t => .av (s.tmps t)
  | .box b => .bx (s.boxes b)
  | .tok g => .tk (s.toks g)

def Wr.rv : Wr → RV
  | .tmp _ v => .av v
  | .box _ c => .bx (some c)
  | .tok _ c => .tk c

theorem S.ext_get {s s' : S} (h : ∀ r, s.get r = s'.get r) : s = s' := by
  cases s; cases s'
  congr 1
  · funext t; have := h (.tmp t); simpa [S.get] using this
  · funext t; have := h (.box t); simpa [S.get] using this
  · funext t; have := h (.tok t); simpa [S.get] using this

theorem beq_ne {i t : Nat} (h : i ≠ t) : Nat.beq i t = false := by
  cases e : Nat.beq i t with
  | false => rfl
  | true => exact absurd (Nat.eq_of_beq_eq_true e) h
theorem beq_self (i : Nat) : Nat.beq i i = true := Nat.beq_refl i
theorem upd_same {α : Type} (f : Nat → α) (t : Nat) (v : α) : upd f t v t = v := by simp [upd, beq_self]
theorem upd_ne {α : Type} (f : Nat → α) (t i : Nat) (v : α) (h : i ≠ t) : upd f t v i = f i := by simp [upd, beq_ne h]
theorem upd_self {α : Type} (f : Nat → α) (t : Nat) : upd f t (f t) = f := by
  funext i; by_cases h : i = t
  · subst h; exact upd_same _ _ _
  · exact upd_ne _ _ _ _ h

theorem S.get_put_same (s : S) (w : Wr) : (s.put w).get w.rs = w.rv := by
  cases w <;> simp [S.put, S.get, Wr.rs, Wr.rv, upd_same]
theorem S.get_put_ne (s : S) (w : Wr) (r : Rs) (h : r ≠ w.rs) : (s.put w).get r = s.get r := by
  cases w with
  | tmp t v => cases r with
    | tmp i => have : i ≠ t := fun e => h (by rw [e]; rfl)
               simp [S.put, S.get, upd_ne _ _ _ _ this]
    | _ => rfl
  | box t v => cases r with
    | box i => have : i ≠ t := fun e => h (by rw [e]; rfl)
               simp [S.put, S.get, upd_ne _ _ _ _ this]
    | _ => rfl
  | tok t v => cases r with
    | tok i => have : i ≠ t := fun e => h (by rw [e]; rfl)
               simp [S.put, S.get, upd_ne _ _ _ _ this]
    | _ => rfl

/-- the last of the writes to a resource -/
def look : List Wr → Rs → Option RV
  | [], _ => none
  | w :: ws, r => match look ws r with
    | some v => some v
    | none => if r = w.rs then some w.rv else none

theorem S.get_puts (ws : List Wr) (s : S) (r : Rs) : (s.puts ws).get r = (look ws r).getD (s.get r) := by
  induction ws generalizing s with
  | nil => rfl
  | cons w ws ih =>
    simp only [S.puts, ih, look]
    cases h : look ws r with
    | some v => rfl
    | none =>
      by_cases e : r = w.rs
      · subst e; simp [S.get_put_same]
      · simp [e, S.get_put_ne]

theorem look_none {ws : List Wr} {r : Rs} (h : r ∉ ws.map Wr.rs) : look ws r = none := by
  induction ws with
  | nil => rfl
  | cons w ws ih =>
    simp only [List.map_cons, List.mem_cons, not_or] at h
    simp [look, ih h.2, h.1]

theorem S.puts_append (s : S) (a b : List Wr) : s.puts (a ++ b) = (s.puts a).puts b := by
  induction a generalizing s with
  | nil => rfl
  | cons w a ih => simp [S.puts, ih]

/-! ### Pg -/
def OrcOK (O : Orc) (C : FuncId → List AV → AV → Prop) : Prop :=
  ∀ (R : Type) (f : FuncId) (args : List AV) (K : AV → Option R) (r : R), O R f args K = some r → ∃ v, C f args v ∧ K v = some r

theorem Pg.Ev.mono {C : FuncId → List AV → AV → Prop} {Rd Rd' : Rs → Prop} {s : S} (hR : ∀ r, Rd r → Rd' r) : ∀ {p : Pg} {ws : List Wr}, p.Ev C Rd s ws → p.Ev C Rd' s ws := by
  intro p
  induction p with
  | ret w => exact fun h => h
  | fail => exact fun h => h
  | chk b k ih => exact fun h => ⟨h.1, ih h.2⟩
  | ite b k l ih1 ih2 => intro ws h; cases b <;> simp only [Pg.Ev] at h ⊢ <;> first | exact ih1 h | exact ih2 h
  | tmp t k ih => exact fun h => ⟨hR _ h.1, ih _ h.2⟩
  | box b k ih => exact fun h => ⟨hR _ h.1, ih _ h.2⟩
  | tok g k ih => exact fun h => ⟨hR _ h.1, ih _ h.2⟩
  | call f args k ih => exact fun h => let ⟨v, h1, h2⟩ := h; ⟨v, h1, ih v h2⟩

theorem Pg.Ev.congr {C : FuncId → List AV → AV → Prop} {Rd : Rs → Prop} {s s' : S} (hg : ∀ r, Rd r → s'.get r = s.get r) : ∀ {p : Pg} {ws : List Wr}, p.Ev C Rd s ws → p.Ev C Rd s' ws := by
  intro p
  induction p with
  | ret w => exact fun h => h
  | fail => exact fun h => h
  | chk b k ih => exact fun h => ⟨h.1, ih h.2⟩
  | ite b k l ih1 ih2 => intro ws h; cases b <;> simp only [Pg.Ev] at h ⊢ <;> first | exact ih1 h | exact ih2 h
  | tmp t k ih =>
    intro ws h
    have e : s'.tmps t = s.tmps t := by have := hg _ h.1; simpa [S.get] using this
    exact ⟨h.1, by rw [e]; exact ih _ h.2⟩
  | box b k ih =>
    intro ws h
    have e : s'.boxes b = s.boxes b := by have := hg _ h.1; simpa [S.get] using this
    exact ⟨h.1, by rw [e]; exact ih _ h.2⟩
  | tok g k ih =>
    intro ws h
    have e : s'.toks g = s.toks g := by have := hg _ h.1; simpa [S.get] using this
    exact ⟨h.1, by rw [e]; exact ih _ h.2⟩
  | call f args k ih => exact fun h => let ⟨v, h1, h2⟩ := h; ⟨v, h1, ih v h2⟩

theorem Pg.evalK_ev {O : Orc} {C : FuncId → List AV → AV → Prop} (hO : OrcOK O C) {R : Type} {s : S} {r : R} :
    ∀ (p : Pg) (rs : List Rs) (K : List Rs → List Wr → Option R), p.evalK O s rs K = some r →
      ∃ rs' ws, (∀ x ∈ rs, x ∈ rs') ∧ p.Ev C (· ∈ rs') s ws ∧ K rs' ws = some r := by
  intro p
  induction p with
  | ret w => exact fun rs K h => ⟨rs, w, fun _ h => h, rfl, h⟩
  | fail => exact fun rs K h => by cases h
  | chk b k ih =>
    intro rs K h
    cases b with
    | false => cases h
    | true => let ⟨rs', ws, a, b, c⟩ := ih rs K h; exact ⟨rs', ws, a, ⟨rfl, b⟩, c⟩
  | ite b k l ih1 ih2 =>
    intro rs K h
    cases b with
    | false => exact ih2 rs K h
    | true => exact ih1 rs K h
  | tmp t k ih =>
    intro rs K h
    let ⟨rs', ws, a, b, c⟩ := ih _ _ K h
    exact ⟨rs', ws, fun x hx => a x (.tail _ hx), ⟨a _ (.head _), b⟩, c⟩
  | box t k ih =>
    intro rs K h
    let ⟨rs', ws, a, b, c⟩ := ih _ _ K h
    exact ⟨rs', ws, fun x hx => a x (.tail _ hx), ⟨a _ (.head _), b⟩, c⟩
  | tok t k ih =>
    intro rs K h
    let ⟨rs', ws, a, b, c⟩ := ih _ _ K h
    exact ⟨rs', ws, fun x hx => a x (.tail _ hx), ⟨a _ (.head _), b⟩, c⟩
  | call f args k ih =>
    intro rs K h
    obtain ⟨v, hv, h⟩ := hO _ _ _ _ _ h
    let ⟨rs', ws, a, b, c⟩ := ih v rs K h
    exact ⟨rs', ws, a, ⟨v, hv, b⟩, c⟩

/-! ### guards -/
theorem S.put_self (s : S) (t : Nat) (v : AV) (h : s.tmps t = v) : s.put (.tmp t v) = s := by
  cases s; simp only [S.put] at h ⊢; congr 1; rw [← h]; exact upd_self _ _

theorem evalG_ev {TI : TEnv} {O : Orc} {C : FuncId → List AV → AV → Prop} (hO : OrcOK O C) {R : Type} {ops : List Oper} {o : Oper} {s : S} {K : S → List Rs → List Wr → Option R} {r : R}
    (h : evalG TI O ops o s K = some r) : ∃ rs ws, (pgG TI ops o).Ev C (· ∈ rs) s ws ∧ K s rs ws = some r := by
  unfold evalG at h
  unfold pgG
  cases hg : o.guard with
  | none =>
    rw [hg] at h; simp only [] at h ⊢
    obtain ⟨rs, ws, _, h1, h2⟩ := Pg.evalK_ev hO _ _ _ h
    exact ⟨rs, ws, h1, h2⟩
  | some jw =>
    obtain ⟨j, want⟩ := jw
    rw [hg] at h; simp only [] at h ⊢
    cases ht : (ops[j]?).bind (·.dst) with
    | none => rw [ht] at h; cases h
    | some t =>
      rw [ht] at h; simp only [] at h ⊢
      cases hb : s.tmps t with
      | bool b =>
        rw [hb] at h; simp only [] at h
        cases b with
        | true =>
          rw [S.put_self s t _ hb] at h
          cases want with
          | true =>
            simp only [sel, cond_true] at h
            obtain ⟨rs, ws, h0, h1, h2⟩ := Pg.evalK_ev hO _ _ _ h
            exact ⟨rs, ws, ⟨h0 _ (.head _), by rw [hb]; simpa [Pg.Ev] using h1⟩, h2⟩
          | false =>
            simp only [sel, cond_true] at h
            exact ⟨_, _, ⟨.head _, by rw [hb]; simp [Pg.Ev]⟩, h⟩
        | false =>
          rw [S.put_self s t _ hb] at h
          cases want with
          | true =>
            simp only [sel, cond_false] at h
            exact ⟨_, _, ⟨.head _, by rw [hb]; simp [Pg.Ev]⟩, h⟩
          | false =>
            simp only [sel, cond_false] at h
            obtain ⟨rs, ws, h0, h1, h2⟩ := Pg.evalK_ev hO _ _ _ h
            exact ⟨rs, ws, ⟨h0 _ (.head _), by rw [hb]; simpa [Pg.Ev] using h1⟩, h2⟩
      | tup l =>
        rw [hb] at h
        cases l with
        | nil => exact ⟨_, _, ⟨.head _, by rw [hb]; rfl⟩, h⟩
        | cons _ _ => cases h
      | _ => rw [hb] at h; cases h

def OpsEv (C : FuncId → List AV → AV → Prop) (TI : TEnv) (ops : List Oper) : List Oper → S → S → Prop
  | [], s, s' => s' = s
  | o :: rest, s, s' => ∃ ws, (pgG TI ops o).Ev C (fun _ => True) s ws ∧ OpsEv C TI ops rest (s.puts ws) s'

theorem evalOps_ev {TI : TEnv} {O : Orc} {C : FuncId → List AV → AV → Prop} (hO : OrcOK O C) {R : Type} {ops : List Oper} {r : R} {K : S → Option R} :
    ∀ (l : List Oper) (s : S), evalOps TI O ops l s K = some r → ∃ s', OpsEv C TI ops l s s' ∧ K s' = some r := by
  intro l
  induction l with
  | nil => exact fun s h => ⟨s, rfl, h⟩
  | cons o l ih =>
    intro s h
    obtain ⟨rs, ws, h1, h2⟩ := evalG_ev hO h
    obtain ⟨s', h3, h4⟩ := ih _ h2
    exact ⟨s', ⟨ws, h1.mono (fun _ _ => trivial), h3⟩, h4⟩

/-! ### regions that draw: the text's order, step by step -/
structure Stp where
  s : S
  rd : List Rs
  ws : List Wr

/-- the steps of the text's order -/
def TxtEv (C : FuncId → List AV → AV → Prop) (TI : TEnv) (ops : List Oper) : List Oper → S → List Stp → S → Prop
  | [], s, st, s' => st = [] ∧ s' = s
  | o :: rest, s, st, s' => ∃ x st', st = x :: st' ∧ x.s = s ∧ (pgG TI ops o).Ev C (· ∈ x.rd) s x.ws ∧ TxtEv C TI ops rest (s.puts x.ws) st' s'

def Stp.fp (x : Stp) : Fp := ⟨x.rd, x.ws.map Wr.rs⟩

theorem evalDraw_ev {TI : TEnv} {O : Orc} {C : FuncId → List AV → AV → Prop} (hO : OrcOK O C) {R : Type} {ops : List Oper} {r : R} {K : S → Option R} :
    ∀ (l : List Oper) (ms : List Nat) (fs : List Fp) (s : S), evalDraw TI O ops l ms fs s K = some r →
      ∃ st s', TxtEv C TI ops l s st s' ∧ K s' = some r ∧
        ∀ i x, st[i]? = some x → ∃ m, ms[i]? = some m ∧ apartAll m x.fp 0 (fs ++ (st.take i).map Stp.fp) = true := by
  intro l
  induction l with
  | nil => exact fun ms fs s h => ⟨[], s, ⟨rfl, rfl⟩, h, fun i x hx => by simp at hx⟩
  | cons o l ih =>
    intro ms fs s h
    obtain ⟨rs, ws, h1, h2⟩ := evalG_ev hO h
    cases ms with
    | nil => cases h2
    | cons m ms =>
      simp only [] at h2
      cases hap : apartAll m ⟨rs, ws.map Wr.rs⟩ 0 fs with
      | false => rw [hap] at h2; cases h2
      | true =>
        rw [hap] at h2; simp only [cond_true] at h2
        obtain ⟨st, s', h3, h4, h5⟩ := ih ms _ _ h2
        refine ⟨⟨s, rs, ws⟩ :: st, s', ⟨_, st, rfl, rfl, h1, h3⟩, h4, ?_⟩
        intro i x hx
        cases i with
        | zero =>
          simp at hx; subst hx
          exact ⟨m, rfl, by simpa [Stp.fp] using hap⟩
        | succ i =>
          simp at hx
          obtain ⟨m', hm', ha⟩ := h5 i x hx
          refine ⟨m', by simpa using hm', ?_⟩
          simpa [Stp.fp] using ha

end Go.Proofs.YtjgnpmdbkgeakaaDoor.Th
