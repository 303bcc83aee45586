/- THEORY, part E: how abstract values and states lie in the machine's memory. No condition. -/
import Derived.Test.YtjgnpmdbkgeakaaDoorThD
set_option linter.unusedVariables false
set_option linter.unusedSimpArgs false
namespace Go.Proofs.YtjgnpmdbkgeakaaDoor.Th
open Go Go.RowKit

def All2 {α β : Type} (R : α → β → Prop) : List α → List β → Prop
  | [], [] => True
  | a :: as, b :: bs => R a b ∧ All2 R as bs
  | _, _ => False

theorem All2.imp {α β : Type} {R R' : α → β → Prop} (h : ∀ a b, R a b → R' a b) : ∀ {as : List α} {bs : List β}, All2 R as bs → All2 R' as bs
  | [], [], _ => trivial
  | _ :: _, _ :: _, ⟨x, y⟩ => ⟨h _ _ x, All2.imp h y⟩
  | [], _ :: _, k => k.elim
  | _ :: _, [], k => k.elim
theorem All2.len {α β : Type} {R : α → β → Prop} : ∀ {as : List α} {bs : List β}, All2 R as bs → as.length = bs.length
  | [], [], _ => rfl
  | _ :: _, _ :: _, ⟨_, y⟩ => by simp [All2.len y]
  | [], _ :: _, k => k.elim
  | _ :: _, [], k => k.elim
theorem All2.get {α β : Type} {R : α → β → Prop} : ∀ {as : List α} {bs : List β}, All2 R as bs → ∀ (i : Nat) (a : α), as[i]? = some a → ∃ b, bs[i]? = some b ∧ R a b
  | [], [], _, i, a, h => by simp at h
  | x :: _, y :: _, ⟨p, q⟩, i, a, h => by
    cases i with
    | zero => simp at h; subst h; exact ⟨y, rfl, p⟩
    | succ i => simp at h; simpa using All2.get q i a h
  | [], _ :: _, k, _, _, _ => k.elim
  | _ :: _, [], k, _, _, _ => k.elim
theorem All2.append {α β : Type} {R : α → β → Prop} : ∀ {as : List α} {bs : List β} {cs : List α} {ds : List β}, All2 R as bs → All2 R cs ds → All2 R (as ++ cs) (bs ++ ds)
  | [], [], _, _, _, h => h
  | _ :: _, _ :: _, _, _, ⟨p, q⟩, h => ⟨p, All2.append q h⟩
  | [], _ :: _, _, _, k, _ => k.elim
  | _ :: _, [], _, _, k, _ => k.elim
theorem All2.take {α β : Type} {R : α → β → Prop} (n : Nat) : ∀ {as : List α} {bs : List β}, All2 R as bs → All2 R (as.take n) (bs.take n) := by
  induction n with
  | zero => intro as bs h; simp [All2]
  | succ n ih =>
    intro as bs h
    cases as <;> cases bs
    · simp [All2]
    · exact h.elim
    · exact h.elim
    · exact ⟨h.1, ih h.2⟩
theorem All2.drop {α β : Type} {R : α → β → Prop} (n : Nat) : ∀ {as : List α} {bs : List β}, All2 R as bs → All2 R (as.drop n) (bs.drop n) := by
  induction n with
  | zero => intro as bs h; simpa using h
  | succ n ih =>
    intro as bs h
    cases as <;> cases bs
    · simp [All2]
    · exact h.elim
    · exact h.elim
    · simpa using ih h.2
theorem All2.of_get {α β : Type} {R : α → β → Prop} : ∀ {as : List α} {bs : List β}, as.length = bs.length → (∀ (i : Nat) (a : α) (b : β), as[i]? = some a → bs[i]? = some b → R a b) → All2 R as bs
  | [], [], _, _ => trivial
  | x :: as, y :: bs, h, k => ⟨k 0 x y rfl rfl, All2.of_get (by simpa using h) fun i a b ha hb => k (i + 1) a b (by simpa using ha) (by simpa using hb)⟩
  | [], _ :: _, h, _ => by simp at h
  | _ :: _, [], h, _ => by simp at h

/-! ### pure values in memory -/
/-- the cell at an address holds v and is protected -/
def Cell (w : World) (pr : Nat → Nat → Prop) (a : Addr) (v : Value) : Prop := w.cell? a = some v ∧ pr a.block a.off

def strV (s : List UInt8) : Value := .string ⟨s.toArray⟩

/-- a slice's length and capacity; a nil slice has none -/
def CapOK (a : Option Addr) (n c : Nat) : Prop := n ≤ c ∧ (a = none → c = 0)

/-- a slice's value over elements of sz cells, of which R tells -/
def SlR {α : Type} (w : World) (pr : Nat → Nat → Prop) (sz : Nat) (R : α → List Value → Prop) (l : List α) (cs : List Value) : Prop :=
  ∃ a c, cs = [.slice a l.length c] ∧ CapOK a l.length c ∧
    ∀ (j : Nat) (x : α), l[j]? = some x → ∃ ad vs, a = some ad ∧ vs.length = sz ∧
      (∀ (i : Nat) (v : Value), vs[i]? = some v → Cell w pr (ad.add (j * sz + i)) v) ∧ R x vs

/-- how a value stands in an interface -/
def InIf (st : Bool) (u : Value) (us : List Value) : Prop := match st with
  | true => u = .agg us.toArray
  | false => us = [u]

def TR (w : World) (pr : Nat → Nat → Prop) : (T : Ty) → T.den → List Value → Prop
  | .int k, n, cs => cs = [.int k n]
  | .bool, b, cs => cs = [.bool b]
  | .str, s, cs => cs = [strV s]
  | .flt, b, cs => cs = [.float .f64 b]
  | .cpx, z, cs => cs = [.complex .f64 z.1 z.2]
  | .slice e, l, cs => SlR w pr e.size (TR w pr e) l cs
  | .st f, x, cs => TR w pr f x cs
  | .nil, _, cs => cs = []
  | .cons a b, x, cs => ∃ c1 c2, cs = c1 ++ c2 ∧ TR w pr a x.1 c1 ∧ TR w pr b x.2 c2
  | .ifc t a, x, cs => ∃ u us, cs = [Value.iface t u] ∧ InIf a.isSt u us ∧ TR w pr a x us
  | .clo f a, x, cs => ∃ us : List Value, cs = [Value.func (.func f) #[] us.toArray] ∧ TR w pr a x us
  | .ref a, x, cs => ∃ (ad : Addr) (us : List Value), cs = [Value.pointer (some ad)] ∧ (∀ (i : Nat) (u : Value), us[i]? = some u → Cell w pr (ad.add i) u) ∧ TR w pr a x us

theorem TR.len {w : World} {pr : Nat → Nat → Prop} : ∀ {T : Ty} {x : T.den} {cs : List Value}, TR w pr T x cs → cs.length = T.size := by
  intro T
  induction T with
  | st f ih => intro x cs h; exact ih h
  | cons a b iha ihb => rintro x cs ⟨c1, c2, rfl, h1, h2⟩; simp [iha h1, ihb h2, Ty.size]
  | slice e _ => rintro x cs ⟨a, c, rfl, _⟩; rfl
  | ifc t a _ => rintro x cs ⟨u, us, rfl, _⟩; rfl
  | clo t a _ => rintro x cs ⟨us, rfl, _⟩; rfl
  | ref a _ => rintro x cs ⟨ad, us, rfl, _⟩; rfl
  | nil => intro x cs h; cases h; rfl
  | _ => intro x cs h; cases h; rfl

/-- what is protected stays as it is -/
def PrKeeps (w : World) (pr : Nat → Nat → Prop) (w' : World) (pr' : Nat → Nat → Prop) : Prop :=
  ∀ k o, pr k o → pr' k o ∧ w'.cell? ⟨k, o, none⟩ = w.cell? ⟨k, o, none⟩

theorem cell_spot {w : World} {a : Addr} {v : Value} (h : w.cell? a = some v) : a = ⟨a.block, a.off, none⟩ := by
  obtain ⟨b, o, s⟩ := a
  simp only [World.cell?] at h
  split at h
  · cases s with
    | none => rfl
    | some x => simp at h
  · cases h

theorem Cell.keeps {w w' : World} {pr pr' : Nat → Nat → Prop} (hk : PrKeeps w pr w' pr') {a : Addr} {v : Value} (h : Cell w pr a v) : Cell w' pr' a v := by
  obtain ⟨h1, h2⟩ := h
  have e := cell_spot h1
  obtain ⟨p, q⟩ := hk _ _ h2
  refine ⟨?_, p⟩
  rw [e] at h1 ⊢
  rw [q]; exact h1

theorem TR.keeps {w w' : World} {pr pr' : Nat → Nat → Prop} (hk : PrKeeps w pr w' pr') : ∀ {T : Ty} {x : T.den} {cs : List Value}, TR w pr T x cs → TR w' pr' T x cs := by
  intro T
  induction T with
  | st f ih => intro x cs h; exact ih h
  | cons a b iha ihb => rintro x cs ⟨c1, c2, rfl, h1, h2⟩; exact ⟨c1, c2, rfl, iha h1, ihb h2⟩
  | slice e ih =>
    rintro x cs ⟨a, c, rfl, h1, h2⟩
    refine ⟨a, c, rfl, h1, fun j y hj => ?_⟩
    obtain ⟨ad, vs, p, q, r, t⟩ := h2 j y hj
    exact ⟨ad, vs, p, q, fun i v hv => (r i v hv).keeps hk, ih t⟩
  | ifc t a ih => rintro x cs ⟨u, us, e, h1, h2⟩; exact ⟨u, us, e, h1, ih h2⟩
  | clo t a ih => rintro x cs ⟨us, e, h2⟩; exact ⟨us, e, ih h2⟩
  | ref a ih => rintro x cs ⟨ad, us, e, h1, h2⟩; exact ⟨ad, us, e, fun i u hu => (h1 i u hu).keeps hk, ih h2⟩
  | _ => intro x cs h; exact h

/-- a plain cell -/
def PR (w : World) (pr : Nat → Nat → Prop) : AV → Value → Prop
  | .int k n, v => v = .int k n
  | .bool b, v => v = .bool b
  | .str s, v => v = strV s
  | .flt b, v => v = .float .f64 b
  | .cpx a b, v => v = .complex .f64 a b
  | .nilsl, v => v = .slice none 0 0
  | .sl T l, v => TR w pr (.slice T) l [v]
  | .ifv t T x, v => TR w pr (.ifc t T) x [v]
  | .fnv f T x, v => TR w pr (.clo f T) x [v]
  | .imm T x, v => TR w pr (.ref T) x [v]
  | _, _ => False

theorem PR.keeps {w w' : World} {pr pr' : Nat → Nat → Prop} (hk : PrKeeps w pr w' pr') {v : AV} {u : Value} (h : PR w pr v u) : PR w' pr' v u := by
  cases v <;> first | exact h | exact TR.keeps hk h

theorem PR.plain {w : World} {pr : Nat → Nat → Prop} {v : AV} {u : Value} (h : PR w pr v u) : isPlainCell v = true := by
  cases v <;> first | rfl | exact h.elim

theorem cells_PR {w : World} {pr : Nat → Nat → Prop} : ∀ {T : Ty} {x : T.den} {cs : List Value}, TR w pr T x cs → All2 (PR w pr) (T.cells x) cs := by
  intro T
  induction T with
  | st f ih => intro x cs h; exact ih h
  | cons a b iha ihb => rintro x cs ⟨c1, c2, rfl, h1, h2⟩; exact (iha h1).append (ihb h2)
  | slice e _ =>
    intro x cs h
    obtain ⟨a, c, rfl, _⟩ := id h
    exact ⟨h, trivial⟩
  | ifc t a _ =>
    intro x cs h
    obtain ⟨u, us, rfl, _⟩ := id h
    exact ⟨h, trivial⟩
  | clo t a _ =>
    intro x cs h
    obtain ⟨us, rfl, _⟩ := id h
    exact ⟨h, trivial⟩
  | ref a _ =>
    intro x cs h
    obtain ⟨ad, us, rfl, _⟩ := id h
    exact ⟨h, trivial⟩
  | nil => intro x cs h; cases h; trivial
  | _ => intro x cs h; cases h; exact ⟨rfl, trivial⟩

theorem cells_len {T : Ty} (x : T.den) : (T.cells x).length = T.size := by
  induction T with
  | st f ih => exact ih x
  | cons a b iha ihb => simp [Ty.cells, Ty.size, iha, ihb]
  | _ => rfl

theorem TR_nilsl (w : World) (pr : Nat → Nat → Prop) (e : Ty) : TR w pr (.slice e) ([] : List e.den) [.slice none 0 0] :=
  ⟨none, 0, rfl, ⟨Nat.le_refl _, fun _ => rfl⟩, fun j x h => by simp at h⟩

theorem one_of {R : AV → Value → Prop} {v : AV} {us : List Value} (h : All2 R [v] us) : ∃ u, us = [u] ∧ R v u := by
  cases us with
  | nil => exact h.elim
  | cons u us => cases us with
    | nil => exact ⟨u, rfl, h.1⟩
    | cons _ _ => exact h.2.elim

theorem oInt_eq {k : IntKind} {cs : List AV} {n : Int} (h : oInt k cs = some n) : cs = [.int k n] := by
  unfold oInt at h
  split at h
  · split at h
    · rename_i e; cases h; rw [e]
    · cases h
  · cases h
theorem oBool_eq {cs : List AV} {b : Bool} (h : oBool cs = some b) : cs = [.bool b] := by
  unfold oBool at h
  split at h <;> cases h; rfl
theorem oStr_eq {cs : List AV} {b : List UInt8} (h : oStr cs = some b) : cs = [.str b] := by
  unfold oStr at h
  split at h <;> cases h; rfl
theorem oFlt_eq {cs : List AV} {b : Nat} (h : oFlt cs = some b) : cs = [.flt b] := by
  unfold oFlt at h
  split at h <;> cases h; rfl
theorem oCpx_eq {cs : List AV} {z : Nat × Nat} (h : oCpx cs = some z) : cs = [.cpx z.1 z.2] := by
  unfold oCpx at h
  split at h <;> cases h; rfl
theorem oNil_eq {cs : List AV} {z : Unit} (h : oNil cs = some z) : cs = [] := by
  unfold oNil at h
  split at h <;> cases h; rfl
theorem oSl_eq {e : Ty} {cs : List AV} {l : List e.den} (h : oSl e cs = some l) : (cs = [.nilsl] ∧ l = []) ∨ cs = [.sl e l] := by
  unfold oSl at h
  split at h
  · cases h; exact .inl ⟨rfl, rfl⟩
  · split at h
    · rename_i hd _
      obtain ⟨rfl⟩ := hd
      cases h
      exact .inr rfl
    · cases h
  · cases h

theorem oIfc_eq {t : Nat} {a : Ty} {cs : List AV} {x : a.den} (h : oIfc t a cs = some x) : cs = [.ifv t a x] := by
  unfold oIfc at h
  split at h
  · split at h
    · rename_i e
      subst e
      split at h
      · rename_i hd _
        obtain ⟨rfl⟩ := hd
        cases h
        rfl
      · cases h
    · cases h
  · cases h

theorem oClo_eq {t : Nat} {a : Ty} {cs : List AV} {x : a.den} (h : oClo t a cs = some x) : cs = [.fnv t a x] := by
  unfold oClo at h
  split at h
  · split at h
    · rename_i e
      subst e
      split at h
      · rename_i hd _
        obtain ⟨rfl⟩ := hd
        cases h
        rfl
      · cases h
    · cases h
  · cases h

theorem oRef_eq {a : Ty} {cs : List AV} {x : a.den} (h : oRef a cs = some x) : cs = [.imm a x] := by
  unfold oRef at h
  split at h
  · split at h
    · rename_i hd _
      obtain ⟨rfl⟩ := hd
      cases h
      rfl
    · cases h
  · cases h

theorem ofCells_TR {w : World} {pr : Nat → Nat → Prop} : ∀ {T : Ty} {x : T.den} {cs : List AV} {us : List Value}, T.ofCells cs = some x → All2 (PR w pr) cs us → TR w pr T x us := by
  intro T
  induction T with
  | int k => intro x cs us h hr; rw [oInt_eq h] at hr; obtain ⟨u, rfl, hu⟩ := one_of hr; exact congrArg (fun z => [z]) hu
  | bool => intro x cs us h hr; rw [oBool_eq h] at hr; obtain ⟨u, rfl, hu⟩ := one_of hr; exact congrArg (fun z => [z]) hu
  | str => intro x cs us h hr; rw [oStr_eq h] at hr; obtain ⟨u, rfl, hu⟩ := one_of hr; exact congrArg (fun z => [z]) hu
  | flt => intro x cs us h hr; rw [oFlt_eq h] at hr; obtain ⟨u, rfl, hu⟩ := one_of hr; exact congrArg (fun z => [z]) hu
  | cpx => intro x cs us h hr; rw [oCpx_eq h] at hr; obtain ⟨u, rfl, hu⟩ := one_of hr; exact congrArg (fun z => [z]) hu
  | slice e ih =>
    intro x cs us h hr
    rcases oSl_eq h with ⟨rfl, rfl⟩ | rfl
    · obtain ⟨u, rfl, hu⟩ := one_of hr
      rw [show u = _ from hu]; exact TR_nilsl _ _ _
    · obtain ⟨u, rfl, hu⟩ := one_of hr
      exact hu
  | st f ih => intro x cs us h hr; exact ih h hr
  | ifc t a _ =>
    intro x cs us h hr
    rw [oIfc_eq h] at hr
    obtain ⟨u, rfl, hu⟩ := one_of hr
    exact hu
  | clo t a _ =>
    intro x cs us h hr
    rw [oClo_eq h] at hr
    obtain ⟨u, rfl, hu⟩ := one_of hr
    exact hu
  | ref a _ =>
    intro x cs us h hr
    rw [oRef_eq h] at hr
    obtain ⟨u, rfl, hu⟩ := one_of hr
    exact hu
  | nil => intro x cs us h hr; rw [oNil_eq h] at hr; cases us with | nil => rfl | cons _ _ => exact hr.elim
  | cons a b iha ihb =>
    intro x cs us h hr
    simp only [Ty.ofCells] at h
    cases hx : a.ofCells (cs.take a.size) with
    | none => rw [hx] at h; cases h
    | some x1 =>
      cases hy : b.ofCells (cs.drop a.size) with
      | none => rw [hx, hy] at h; cases h
      | some y1 =>
        rw [hx, hy] at h; cases h
        exact ⟨us.take a.size, us.drop a.size, (List.take_append_drop _ _).symm, iha hx (hr.take _), ihb hy (hr.drop _)⟩

/-- a package-level row, in memory -/
def GarR (w : World) (pr : Nat → Nat → Prop) (T : Ty) (l : List T.den) (v : Value) : Prop :=
  ∃ ad : Addr, v = .pointer (some ad) ∧ ∀ (j : Nat) (x : T.den), l[j]? = some x → ∃ vs, vs.length = T.size ∧ (∀ (i : Nat) (u : Value), vs[i]? = some u → Cell w pr (ad.add (j * T.size + i)) u) ∧ TR w pr T x vs
theorem GarR.keeps {w w' : World} {pr pr' : Nat → Nat → Prop} (hk : PrKeeps w pr w' pr') {T : Ty} {l : List T.den} {v : Value} (h : GarR w pr T l v) : GarR w' pr' T l v := by
  obtain ⟨ad, e, h⟩ := h
  refine ⟨ad, e, fun j x hx => ?_⟩
  obtain ⟨vs, a, b, c⟩ := h j x hx
  exact ⟨vs, a, fun i u hu => (b i u hu).keeps hk, c.keeps hk⟩
def GlobOK (w : World) (pr : Nat → Nat → Prop) : Prop := ∀ n r, gtab n = some r → GarR w pr r.T r.l (.pointer (some ⟨n, 0, none⟩))
theorem GlobOK.keeps {w w' : World} {pr pr' : Nat → Nat → Prop} (hk : PrKeeps w pr w' pr') (h : GlobOK w pr) : GlobOK w' pr' := fun n r hr => (h n r hr).keeps hk

/-! ### all values, boxes, tokens -/
structure TG where
  val : Value
  blk : Option Nat
  esz : Nat

structure Gh where
  pr : Nat → Nat → Prop
  β : Nat → Option Nat
  τ : Nat → Option TG

/-- a value that is one cell (or a plain struct) -/
def LR (w : World) (g : Gh) : AV → Value → Prop
  | .undef, _ => True
  | .ref t, v => ∃ tg, g.τ t = some tg ∧ v = tg.val ∧ v.oneCell' = true
  | .agg cs, v => ∃ us : List Value, v = .agg us.toArray ∧ All2 (PR w g.pr) cs us
  | .nilptr, v => v = .pointer none
  | .ptr b o, v => ∃ k, g.β b = some k ∧ v = .pointer (some ⟨k, o, none⟩)
  | .pim cs o, v => ∃ (ad : Addr) (us : List Value), v = .pointer (some (ad.add o)) ∧ All2 (PR w g.pr) cs us ∧ ∀ (i : Nat) (u : Value), us[i]? = some u → Cell w g.pr (ad.add i) u
  | .pel t i o, v => ∃ tg k, g.τ t = some tg ∧ tg.blk = some k ∧ v = .pointer (some ⟨k, i * tg.esz + o, none⟩)
  | .fn f cap, v => ∃ us : List Value, v = .func (.func f) #[] us.toArray ∧ All2 (PR w g.pr) cap us
  | .nilfn, v => v = .nilFunc
  | .nilif, v => v = .nilIface
  | .nsl T l, v => PR w g.pr (.sl T l) v ∧ ∃ ad n c, v = .slice (some ad) n c
  | .gar _ T l, v => GarR w g.pr T l v
  | .own _ _, _ => False
  | .tup _, _ => False
  | .lent _, _ => False
  | .back _ _, _ => False
  | .fz c, v => PR w g.pr c v
  | c, v => PR w g.pr c v

def VR (w : World) (g : Gh) : AV → Value → Prop
  | .tup vs, v => ∃ us : List Value, v = .tuple us.toArray ∧ All2 (LR w g) vs us
  | c, v => LR w g c v

structure Keeps (w : World) (g : Gh) (w' : World) (g' : Gh) : Prop where
  pr : PrKeeps w g.pr w' g'.pr
  β : ∀ b k, g.β b = some k → g'.β b = some k
  τ : ∀ t tg, g.τ t = some tg → g'.τ t = some tg

theorem Keeps.refl (w : World) (g : Gh) : Keeps w g w g := ⟨fun _ _ h => ⟨h, rfl⟩, fun _ _ h => h, fun _ _ h => h⟩
theorem Keeps.trans {w w1 w2 : World} {g g1 g2 : Gh} (h : Keeps w g w1 g1) (k : Keeps w1 g1 w2 g2) : Keeps w g w2 g2 :=
  ⟨fun a o p => ⟨(k.pr _ _ (h.pr _ _ p).1).1, (k.pr _ _ (h.pr _ _ p).1).2.trans (h.pr _ _ p).2⟩, fun b x y => k.β _ _ (h.β _ _ y), fun t x y => k.τ _ _ (h.τ _ _ y)⟩

theorem LR.keeps {w w' : World} {g g' : Gh} (hk : Keeps w g w' g') {v : AV} {u : Value} (h : LR w g v u) : LR w' g' v u := by
  cases v with
  | undef => trivial
  | ref t => obtain ⟨tg, a, b⟩ := h; exact ⟨tg, hk.τ _ _ a, b⟩
  | agg cs => obtain ⟨us, a, b⟩ := h; exact ⟨us, a, b.imp fun _ _ => PR.keeps hk.pr⟩
  | ptr b o => obtain ⟨k, a, c⟩ := h; exact ⟨k, hk.β _ _ a, c⟩
  | pim cs o => obtain ⟨ad, us, a, b, c⟩ := h; exact ⟨ad, us, a, b.imp fun _ _ => PR.keeps hk.pr, fun i u hu => (c i u hu).keeps hk.pr⟩
  | pel t i o => obtain ⟨tg, k, a, b, c⟩ := h; exact ⟨tg, k, hk.τ _ _ a, b, c⟩
  | fn f cap => obtain ⟨us, a, b⟩ := h; exact ⟨us, a, b.imp fun _ _ => PR.keeps hk.pr⟩
  | sl T l => exact TR.keeps hk.pr h
  | ifv t T x => exact TR.keeps hk.pr h
  | fnv t T x => exact TR.keeps hk.pr h
  | imm T x => exact TR.keeps hk.pr h
  | fz v => exact PR.keeps hk.pr (v := v) h
  | nsl T l => obtain ⟨a, b⟩ := h; exact ⟨PR.keeps hk.pr a, b⟩
  | gar e T l => exact GarR.keeps hk.pr h
  | _ => exact h

theorem VR_or {w : World} {g : Gh} {v : AV} {u : Value} (h : VR w g v u) : (∃ vs, v = .tup vs ∧ ∃ us : List Value, u = .tuple us.toArray ∧ All2 (LR w g) vs us) ∨ LR w g v u := by
  cases v with
  | tup vs => exact .inl ⟨vs, rfl, h⟩
  | _ => exact .inr h
theorem VR_of_LR {w : World} {g : Gh} {v : AV} {u : Value} (h : LR w g v u) : VR w g v u := by
  cases v with
  | tup vs => exact h.elim
  | _ => exact h

theorem VR.keeps {w w' : World} {g g' : Gh} (hk : Keeps w g w' g') {v : AV} {u : Value} (h : VR w g v u) : VR w' g' v u := by
  rcases VR_or h with ⟨vs, rfl, us, a, b⟩ | h
  · exact ⟨us, a, b.imp fun _ _ => LR.keeps hk⟩
  · exact VR_of_LR (LR.keeps hk h)

theorem LR_of_PR {w : World} {g : Gh} {v : AV} {u : Value} (h : PR w g.pr v u) : LR w g v u := by
  cases v <;> first | exact h | exact h.elim

/-- a call's start: how many blocks there were, what was protected of them, which blocks are lent, and which boxes lie there -/
structure Bd where
  n : Nat
  pr : Nat → Nat → Prop
  ln : Nat → Prop
  lb : Nat → Option Nat
def Bd.mine (B : Bd) (k : Nat) : Prop := B.n ≤ k ∨ B.ln k
/-- nothing is lent -/
def bd0 (n : Nat) (pr : Nat → Nat → Prop) : Bd := ⟨n, pr, fun _ => False, fun _ => none⟩
theorem bd0_mine {n : Nat} {pr : Nat → Nat → Prop} {k : Nat} : (bd0 n pr).mine k ↔ n ≤ k := ⟨fun h => h.elim id False.elim, .inl⟩
theorem Bd.mine_lt {B : Bd} {k : Nat} (h : ¬ B.mine k) : k < B.n := by
  rcases Nat.lt_or_ge k B.n with h1 | h1
  · exact h1
  · exact absurd (.inl h1) h

/-- what isn't the call's own is as it was -/
structure BelowB (B : Bd) (w w' : World) : Prop where
  os : w'.os = w.os
  tape : w'.tape = w.tape
  output : w'.output = w.output
  size : w.heap.size ≤ w'.heap.size
  block : ∀ k, ¬ B.mine k → w'.heap[k]? = w.heap[k]?
theorem BelowB.refl (B : Bd) (w : World) : BelowB B w w := ⟨rfl, rfl, rfl, Nat.le_refl _, fun _ _ => rfl⟩
theorem BelowB.trans {B : Bd} {a b c : World} (h : BelowB B a b) (k : BelowB B b c) : BelowB B a c :=
  ⟨k.os.trans h.os, k.tape.trans h.tape, k.output.trans h.output, Nat.le_trans h.size k.size, fun i hi => (k.block i hi).trans (h.block i hi)⟩
theorem BelowB.of {B : Bd} {w w' : World} (h : Below B.n w w') : BelowB B w w' := ⟨h.os, h.tape, h.output, h.size, fun k hk => h.block k (Bd.mine_lt hk)⟩
theorem BelowB.to {n : Nat} {pr : Nat → Nat → Prop} {w w' : World} (h : BelowB (bd0 n pr) w w') : Below n w w' := ⟨h.os, h.tape, h.output, h.size, fun k hk => h.block k fun e => by have := bd0_mine.1 e; omega⟩
theorem BelowB.drew {B : Bd} {a w : World} (h : BelowB B a w) : BelowB B a w.drew := ⟨h.os, h.tape, h.output, h.size, h.block⟩
theorem BelowB.alloc {B : Bd} {a w : World} (h : BelowB B a w) (hB : B.n ≤ w.heap.size) (o : Obj) : BelowB B a (w.alloc o) := h.trans (.of ((Below.refl _ _).alloc hB o))

/-- a block's cells aren't frozen -/
def Thawed (fr : Nat × Nat) (n : Nat) : Prop := fr.1 ≤ fr.2 ∧ ∀ o, o < n → (decide (fr.1 ≤ o) && decide (o < fr.2)) = false

structure BoxOK (B : Bd) (w : World) (g : Gh) (cs : List AV) (k : Nat) : Prop where
  above : B.mine k
  free : ∀ o, g.pr k o → ∃ v, cs[o]? = some (.fz v)
  row : ∃ us e fr, w.heap[k]? = some (.cells us e fr) ∧ Thawed fr us.size ∧ All2 (LR w g) cs us.toList

/-- elements of a row: from cell 0 on -/
def RowOf (w : World) (pr : Nat → Nat → Prop) (T : Ty) (l : List T.den) (us : Array Value) : Prop :=
  ∀ (j : Nat) (x : T.den), l[j]? = some x → ∃ vs, vs.length = T.size ∧ (∀ (i : Nat) (v : Value), vs[i]? = some v → us[j * T.size + i]? = some v) ∧ TR w pr T x vs

structure TokRow (B : Bd) (w : World) (pr : Nat → Nat → Prop) (sh : Bool) (T : Ty) (l : List T.den) (k cap : Nat) : Prop where
  above : B.mine k
  len : l.length ≤ cap
  row : ∃ us e fr, w.heap[k]? = some (.cells us e fr) ∧ Thawed fr us.size ∧ cap * T.size ≤ us.size ∧ RowOf w pr T l us
  prlt : ∀ o, pr k o → o < l.length * T.size
  prsh : sh = true → ∀ o, o < l.length * T.size → pr k o
  prno : sh = false → ∀ o, ¬ pr k o

def TokOK (B : Bd) (w : World) (pr : Nat → Nat → Prop) (sh : Bool) (T : Ty) (l : List T.den) (tg : TG) : Prop :=
  tg.esz = T.size ∧ ((tg.val = .slice none 0 0 ∧ tg.blk = none ∧ l = []) ∨
    ∃ k cap, tg.val = .slice (some ⟨k, 0, none⟩) l.length cap ∧ tg.blk = some k ∧ TokRow B w pr sh T l k cap)

def Tok.isLive : Tok → Bool
  | .live _ _ _ => true
  | _ => false


/-- lent boxes lie where they lay; package-level rows are there -/
structure Ext (B : Bd) (g : Gh) (s : S) (w : World) (N : Nat) : Prop where
  lb : ∀ b k, B.lb b = some k → N ≤ b ∧ (s.boxes b ≠ none → g.β b = some k)
  gl : GlobOK w g.pr
theorem Ext.keep {B : Bd} {g g' : Gh} {s s' : S} {w w' : World} {N : Nat} (h : Ext B g s w N) (hk : Keeps w g w' g') (hs : ∀ b, s'.boxes b ≠ none → s.boxes b ≠ none) : Ext B g' s' w' N :=
  ⟨fun b k e => ⟨(h.lb b k e).1, fun hb => hk.β b k ((h.lb b k e).2 (hs b hb))⟩, h.gl.keeps hk.pr⟩

structure Rel (B : Bd) (g : Gh) (s : S) (w : World) (a : Act) (N : Nat) : Prop where
  df : a.defers = []
  nt : a.tmps.size = N
  hB : B.n ≤ w.heap.size
  tm : ∀ t, VR w g (s.tmps t) (a.tmps.getD t undef)
  prlt : ∀ k o, g.pr k o → k < w.heap.size
  bx0 : ∀ b, s.boxes b = none → g.β b = none
  bx : ∀ b cs, s.boxes b = some cs → ∃ k, g.β b = some k ∧ BoxOK B w g cs k
  binj : ∀ b b' k, g.β b = some k → g.β b' = some k → b = b'
  tk0 : ∀ t, s.toks t = .abs → g.τ t = none
  tk : ∀ t sh T l, s.toks t = .live sh T l → ∃ tg, g.τ t = some tg ∧ TokOK B w g.pr sh T l tg
  tinj : ∀ t t' tg tg' k, (s.toks t).isLive = true → (s.toks t').isLive = true → g.τ t = some tg → g.τ t' = some tg' → tg.blk = some k → tg'.blk = some k → t = t'
  tbx : ∀ t tg k b, (s.toks t).isLive = true → g.τ t = some tg → tg.blk = some k → g.β b ≠ some k
  prB : ∀ k o, ¬ B.mine k → (g.pr k o ↔ B.pr k o)
  ex : Ext B g s w N

end Go.Proofs.YtjgnpmdbkgeakaaDoor.Th
