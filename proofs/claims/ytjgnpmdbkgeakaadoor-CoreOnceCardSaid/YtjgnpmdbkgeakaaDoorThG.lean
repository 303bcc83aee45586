/- THEORY, part G: the machine's small steps on rows of cells; types; operands. No condition. -/
import Derived.Test.YtjgnpmdbkgeakaaDoorThF
import Derived.Laws.Tables
import Derived.Laws.AppendOwn
import Derived.Laws.IdiomCopy
import Derived.Laws.Entries
import Derived.ChangeKeysEq
set_option linter.unusedVariables false
set_option linter.unusedSimpArgs false
namespace Go.Proofs.YtjgnpmdbkgeakaaDoor.Th
open Go Go.RowKit

theorem addr_add (k o j : Nat) : (⟨k, o, none⟩ : Addr).add j = ⟨k, o + j, none⟩ := by unfold Addr.add; split <;> simp_all
theorem add_add (a : Addr) (i j : Nat) : (a.add i).add j = a.add (i + j) := by
  unfold Addr.add
  by_cases hi : i = 0
  · subst hi; simp
  · by_cases hj : j = 0
    · subst hj; simp [hi]
    · simp [hi, hj, Nat.add_assoc]

/-! ### rows -/
section
variable {P : Program} {w : World}

theorem setCell_row {k : Nat} {us : Array Value} {e : TypeId} {fr : Nat × Nat} (h : w.heap[k]? = some (.cells us e fr)) (o : Nat) (v : Value) :
    w.setCell ⟨k, o, none⟩ v = w.setRow k (us.setIfInBounds o v) := by
  unfold World.setCell World.setRow
  congr 1
  apply Array.ext_getElem?
  intro i
  simp only [Array.getElem?_modify]
  by_cases e : k = i
  · subst e; simp [h]
  · simp [e]

theorem setRow_setRow (k : Nat) (a b : Array Value) : (w.setRow k a).setRow k b = w.setRow k b := by
  unfold World.setRow
  congr 1
  apply Array.ext_getElem?
  intro i
  simp only [Array.getElem?_modify]
  by_cases e : k = i
  · subst e
    simp only [if_true, Option.map_map]
    congr 1
    funext o
    cases o <;> rfl
  · simp [e]

theorem setRow_self {k : Nat} {us : Array Value} {e : TypeId} {fr : Nat × Nat} (h : w.heap[k]? = some (.cells us e fr)) : w.setRow k us = w := by
  cases w with
  | mk heap tape drawn os output =>
  unfold World.setRow
  congr 1
  apply Array.ext_getElem?
  intro i
  simp only [Array.getElem?_modify]
  by_cases e : k = i
  · subst e; simp at h; simp [h]
  · simp [e]

theorem only_setRow (k : Nat) (us : Array Value) : Only k w (w.setRow k us) := ⟨by simp [World.setRow], fun i hi => setRow_other w k i us hi⟩

theorem below_setRow {B : Bd} {k : Nat} (hk : B.mine k) (us : Array Value) : BelowB B w (w.setRow k us) :=
  ⟨rfl, rfl, rfl, by simp [World.setRow], fun i hi => setRow_other w k i us (fun e => hi (e ▸ hk))⟩

/-- cells put over others from o on -/
def over (us : List Value) (o : Nat) (vs : List Value) : List Value := us.take o ++ vs ++ us.drop (o + vs.length)

theorem over_len {us vs : List Value} {o : Nat} (h : o + vs.length ≤ us.length) : (over us o vs).length = us.length := by
  simp [over]; omega

theorem over_get {us vs : List Value} {o : Nat} (h : o + vs.length ≤ us.length) (i : Nat) :
    (over us o vs)[i]? = if i < o then us[i]? else if i < o + vs.length then vs[i - o]? else us[i]? := by
  unfold over
  have h1 : (us.take o).length = o := by simp; omega
  by_cases a : i < o
  · rw [if_pos a, List.append_assoc, List.getElem?_append_left (by omega), List.getElem?_take, if_pos a]
  · rw [if_neg a, List.append_assoc, List.getElem?_append_right (by omega), h1]
    by_cases b : i < o + vs.length
    · rw [if_pos b, List.getElem?_append_left (by omega)]
    · rw [if_neg b, List.getElem?_append_right (by omega), List.getElem?_drop]
      congr 1; omega

theorem run_storeRow {k : Nat} {e : TypeId} {fr : Nat × Nat} : ∀ (vs : List Value) (o i : Nat) (w : World) (us : Array Value), w.heap[k]? = some (.cells us e fr) → Thawed fr us.size → o + i + vs.length ≤ us.size →
    (∀ v ∈ vs, v.oneCell' = true) → (storeCells ⟨k, o, none⟩ vs i).run P w = .ok () (w.setRow k (over us.toList (o + i) vs).toArray) := by
  intro vs
  induction vs with
  | nil =>
    intro o i w us h ht hl h1
    simp only [storeCells, Sem.run_pure, over, List.append_nil, List.length_nil, Nat.add_zero, List.take_append_drop]
    rw [setRow_self h]
  | cons v vs ih =>
    intro o i w us h ht hl h1
    simp only [List.length_cons] at hl
    have hlt : o + i < us.size := by omega
    have hst : (store ((⟨k, o, none⟩ : Addr).add i) v).run P w = .ok () (w.setRow k (us.setIfInBounds (o + i) v)) := by
      rw [addr_add, run_store P w _ v .plain (h1 v (.head _)), cell_of h, Array.getElem?_eq_getElem hlt]
      simp only [frozen_of h ht hlt, Bool.false_eq_true, if_false]
      rw [setCell_row h]
    have h' : (w.setRow k (us.setIfInBounds (o + i) v)).heap[k]? = some (.cells (us.setIfInBounds (o + i) v) e fr) := setRow_heap w k us _ e fr h
    have := ih o (i + 1) _ _ h' (by simpa [Thawed] using ht) (by simp; omega) (fun u hu => h1 u (.tail _ hu))
    simp only [storeCells, Sem.run_bind, hst, Result.andThen_ok, this, setRow_setRow]
    congr 3
    apply List.ext_getElem?
    intro j
    rw [over_get (by simp; omega), over_get (by simp; omega)]
    simp only [Array.toList_setIfInBounds, List.length_cons, List.getElem?_set, Array.length_toList]
    by_cases a : j < o + i
    · rw [if_pos (by omega), if_pos a, if_neg (by omega)]
    · by_cases b : j = o + i
      · subst b; simp [hlt]
      · rw [if_neg (by omega), if_neg a]
        by_cases c : j < o + i + (vs.length + 1)
        · rw [if_pos (by omega), if_pos c]
          obtain ⟨m, rfl⟩ : ∃ m, j = o + (i + 1) + m := ⟨j - (o + (i + 1)), by omega⟩
          rw [show o + (i + 1) + m - (o + (i + 1)) = m from by omega, show o + (i + 1) + m - (o + i) = m + 1 from by omega, List.getElem?_cons_succ]
        · rw [if_neg (by omega), if_neg c, if_neg (by omega)]
end

theorem PR.one {w : World} {pr : Nat → Nat → Prop} {v : AV} {u : Value} (h : PR w pr v u) : u.oneCell' = true := by
  cases v with
  | sl T l => obtain ⟨a, c, e, _⟩ := (show SlR _ _ _ _ _ _ from h); cases e; rfl
  | ifv t T x => obtain ⟨a, us, e, _⟩ := id h; cases e; rfl
  | fnv t T x => obtain ⟨us, e, _⟩ := id h; cases e; rfl
  | imm T x => obtain ⟨ad, us, e, _⟩ := id h; cases e; rfl
  | _ => first | (rw [show u = _ from h]; rfl) | exact h.elim

theorem All2.one {w : World} {pr : Nat → Nat → Prop} {vs : List AV} {us : List Value} (h : All2 (PR w pr) vs us) : ∀ u ∈ us, u.oneCell' = true := by
  intro u hu
  obtain ⟨i, hi, rfl⟩ := List.getElem_of_mem hu
  have : i < vs.length := by rw [h.len]; exact hi
  obtain ⟨b, hb, hr⟩ := h.get i vs[i] (by simp [this])
  rw [List.getElem?_eq_getElem hi] at hb; cases hb
  exact hr.one

theorem TR.one {w : World} {pr : Nat → Nat → Prop} {T : Ty} {x : T.den} {us : List Value} (h : TR w pr T x us) : ∀ u ∈ us, u.oneCell' = true := (cells_PR h).one

/-! ### types -/
/-- a cell of a zero value -/
def z0 : AV → Value → Bool
  | .int k n, .int k' n' => decide (k = k') && decide (n = n')
  | .bool b, .bool b' => b == b'
  | .str [], .string s => s.data.toList.isEmpty
  | .flt b, .float .f64 b' => Nat.beq b b'
  | .cpx a b, .complex .f64 a' b' => Nat.beq a a' && Nat.beq b b'
  | .nilsl, .slice none 0 0 => true
  | .nilptr, .pointer none => true
  | .nilfn, .nilFunc => true
  | .nilif, .nilIface => true
  | .undef, _ => true
  | _, _ => false

def z0s : List AV → List Value → Bool
  | [], [] => true
  | a :: as, u :: us => z0 a u && z0s as us
  | _, _ => false

/-- a kind's zero value, as the machine has it -/
def zOf : Ty → List Value → Bool
  | .int k, [.int k' n] => decide (k = k') && decide (n = 0)
  | .bool, [.bool b] => !b
  | .str, [.string s] => s.data.toList.isEmpty
  | .flt, [.float .f64 b] => Nat.beq b 0
  | .cpx, [.complex .f64 a b] => Nat.beq a 0 && Nat.beq b 0
  | .slice _, [.slice none 0 0] => true
  | .st f, cs => zOf f cs
  | .nil, [] => true
  | .cons a b, cs => zOf a (cs.take a.size) && zOf b (cs.drop a.size)
  | _, _ => false

theorem zOf_TR {w : World} {pr : Nat → Nat → Prop} : ∀ {T : Ty} {cs : List Value}, zOf T cs = true → TR w pr T T.dflt cs := by
  intro T
  induction T with
  | st f ih => intro cs h; exact ih h
  | ifc t a _ => intro cs h; simp [zOf] at h
  | clo t a _ => intro cs h; simp [zOf] at h
  | ref a _ => intro cs h; simp [zOf] at h
  | cons a b iha ihb =>
    intro cs h
    simp only [zOf, Bool.and_eq_true] at h
    exact ⟨_, _, (List.take_append_drop a.size cs).symm, iha h.1, ihb h.2⟩
  | int k =>
    intro cs h
    match cs with
    | [.int k' n] => simp only [zOf, Bool.and_eq_true, decide_eq_true_eq] at h; show _ = _; rw [h.1, h.2]; rfl
    | [] => simp [zOf] at h
    | [.bool _] | [.float _ _] | [.complex _ _ _] | [.string _] | [.pointer _] | [.slice _ _ _] | [.map _] | [.chan _] | [.func _ _ _] | [.nilFunc] | [.iface _ _] | [.nilIface] | [.agg _] | [.tuple _] => simp [zOf] at h
    | _ :: _ :: _ => simp [zOf] at h
  | bool =>
    intro cs h
    match cs with
    | [.bool b] => simp only [zOf, Bool.not_eq_true'] at h; show _ = _; rw [h]; rfl
    | [] => simp [zOf] at h
    | [.int _ _] | [.float _ _] | [.complex _ _ _] | [.string _] | [.pointer _] | [.slice _ _ _] | [.map _] | [.chan _] | [.func _ _ _] | [.nilFunc] | [.iface _ _] | [.nilIface] | [.agg _] | [.tuple _] => simp [zOf] at h
    | _ :: _ :: _ => simp [zOf] at h
  | str =>
    intro cs h
    match cs with
    | [.string s] =>
      simp only [zOf] at h
      have : s.data.toList = [] := by simpa using h
      have hs : s = ⟨#[]⟩ := by cases s; simp at this; rw [this]
      rw [hs]; rfl
    | [] => simp [zOf] at h
    | [.int _ _] | [.float _ _] | [.complex _ _ _] | [.bool _] | [.pointer _] | [.slice _ _ _] | [.map _] | [.chan _] | [.func _ _ _] | [.nilFunc] | [.iface _ _] | [.nilIface] | [.agg _] | [.tuple _] => simp [zOf] at h
    | _ :: _ :: _ => simp [zOf] at h
  | flt =>
    intro cs h
    match cs with
    | [.float .f64 b] => simp only [zOf] at h; show _ = _; rw [Nat.eq_of_beq_eq_true h]; rfl
    | [.float .f32 b] => simp [zOf] at h
    | [] => simp [zOf] at h
    | [.int _ _] | [.string _] | [.complex _ _ _] | [.bool _] | [.pointer _] | [.slice _ _ _] | [.map _] | [.chan _] | [.func _ _ _] | [.nilFunc] | [.iface _ _] | [.nilIface] | [.agg _] | [.tuple _] => simp [zOf] at h
    | _ :: _ :: _ => simp [zOf] at h
  | cpx =>
    intro cs h
    match cs with
    | [.complex .f64 a b] => simp only [zOf, Bool.and_eq_true] at h; show _ = _; rw [Nat.eq_of_beq_eq_true h.1, Nat.eq_of_beq_eq_true h.2]; rfl
    | [.complex .f32 a b] => simp [zOf] at h
    | [] => simp [zOf] at h
    | [.int _ _] | [.string _] | [.float _ _] | [.bool _] | [.pointer _] | [.slice _ _ _] | [.map _] | [.chan _] | [.func _ _ _] | [.nilFunc] | [.iface _ _] | [.nilIface] | [.agg _] | [.tuple _] => simp [zOf] at h
    | _ :: _ :: _ => simp [zOf] at h
  | slice e _ =>
    intro cs h
    match cs with
    | [.slice none 0 0] => exact TR_nilsl _ _ _
    | [.slice none 0 (_ + 1)] | [.slice none (_ + 1) _] | [.slice (some _) _ _] => simp [zOf] at h
    | [] => simp [zOf] at h
    | [.int _ _] | [.string _] | [.float _ _] | [.bool _] | [.pointer _] | [.complex _ _ _] | [.map _] | [.chan _] | [.func _ _ _] | [.nilFunc] | [.iface _ _] | [.nilIface] | [.agg _] | [.tuple _] => simp [zOf] at h
    | _ :: _ :: _ => simp [zOf] at h
  | nil =>
    intro cs h
    match cs with
    | [] => rfl
    | _ :: _ => simp [zOf] at h

def isAggV : Value → Bool
  | .agg _ => true
  | _ => false

def undOK (i : TInfo) (d : TypeDesc) : Bool :=
  match i.kn, d with
  | .bool, .bool => true
  | .int k, .int k' => decide (k = k')
  | .str, .string => true
  | .flt, .float .f64 => true
  | .cpx, .complex .f64 => true
  | .slice e, .slice e' => Nat.beq e e'
  | .struct, .struct fs => (i.fields.length == fs.toList.length) && (i.fields.zip fs.toList).all (fun p => Nat.beq p.1.1 p.2.offset && Nat.beq p.1.2 p.2.type)
  | .ptr e, .pointer e' => Nat.beq e e'
  | .other, .struct _ => false
  | .other, .array _ _ => false
  | .other, _ => true
  | _, _ => false

def fszOK (P : Program) : List (Nat × TypeId) → List Nat → Bool
  | [], [] => true
  | f :: fs, n :: ns => (match P.info? f.2 with
    | some ti => Nat.beq ti.size n
    | none => false) && fszOK P fs ns
  | _, _ => false

def flat1 (P : Program) (T : Ty) (t : TypeId) : Bool := match T, P.underlying t with
  | .int j, some (.int j') => decide (j = j')
  | .bool, some .bool => true
  | .str, some .string => true
  | _, _ => false
/-- how deep a kind's structs lie -/
def Ty.nest : Ty → Nat
  | .st T => T.nest + 1
  | .cons a b => a.nest + b.nest
  | _ => 0
/-- a type's values can be held equal (some t), or a struct's fields from cell k on (none) -/
def eqT (P : Program) : Ty → Option TypeId → Nat → List Field → Bool
  | .st T, some t, _, _ => (match P.underlying t with
    | some (.struct fs) => eqT P T none 0 fs.toList
    | _ => false) && !P.stoodInHeld t && (match P.info? t with
    | some ti => Nat.beq ti.size T.size
    | none => false)
  | .int j, some t, _, _ => flat1 P (.int j) t
  | .bool, some t, _, _ => flat1 P .bool t
  | .str, some t, _, _ => flat1 P .str t
  | .nil, none, _, [] => true
  | .cons T b, none, k, f :: fs => (f.name != "_") && Nat.beq f.offset k && eqT P T (some f.type) 0 [] && eqT P b none (k + T.size) fs
  | _, _, _, _ => false
/-- values of the type can be held equal -/
def eqOK (P : Program) (t : TypeId) (i : TInfo) : Bool := match i.ty, P.underlying t with
  | .st T, some (.struct fs) => eqT P T none 0 fs.toList && Nat.ble T.nest 100 && !P.stoodInHeld t && !P.eqGuardType P.depth t
  | _, _ => false

/-- methods of values, by their names -/
def methsOK (ti : TypeInfo) (d : TypeDesc) : List (String × FuncId) → Bool
  | [] => true
  | (name, f) :: l => (match d with
    | .pointer _ => false
    | _ => true) && (match ti.methods.find? (·.name == name) with
    | some m => m.path.toList.isEmpty && (match m.func with
      | some (g, false) => Nat.beq f g
      | _ => false)
    | none => false) && methsOK ti d l

/-- array types of these elements -/
def arrsOK (P : Program) (t : TypeId) (l : List (Nat × Nat)) : Bool := l.all fun p => match P.underlying p.1 with
  | some (.array n e) => Nat.beq n p.2 && Nat.beq e t
  | _ => false

def tiOK1 (P : Program) (t : TypeId) (i : TInfo) : Bool :=
  match P.info? t, P.underlying t with
  | some ti, some d => Nat.beq ti.size i.size && Nat.beq ti.bytes i.bytes && (Nat.beq i.ty.size i.size && (undOK i d && (i.ty.isSt == i.kn.isSt) &&
    (match ti.zero with
     | some z => z0s i.zero z.cells.toList && Nat.beq i.zero.length i.size && (!i.rep || zOf i.ty z.cells.toList)
     | none => false) && (!i.kn.isSt || fszOK P i.fields i.fsz) && (!i.eqok || eqOK P t i) && methsOK ti d i.meths && arrsOK P t i.arrs))
  | _, _ => false

def tiOf (l : List (Nat × TInfo)) : TEnv := fun t => match l.find? (fun p => Nat.beq t p.1) with
  | some p => some p.2
  | none => none

structure TIok (P : Program) (TI : TEnv) : Prop where
  ok : ∀ t i, TI t = some i → tiOK1 P t i = true

theorem TIok.of {P : Program} {l : List (Nat × TInfo)} (h : l.all (fun p => tiOK1 P p.1 p.2) = true) : TIok P (tiOf l) := by
  refine ⟨fun t i hi => ?_⟩
  unfold tiOf at hi
  split at hi
  · rename_i p hp
    cases hi
    have h1 := List.find?_some hp
    have h2 := List.mem_of_find?_eq_some hp
    have := List.all_eq_true.1 h p h2
    rw [Nat.eq_of_beq_eq_true h1]; exact this
  · cases hi

section
variable {P : Program} {TI : TEnv} {t : TypeId} {i : TInfo}

structure TypeIs (P : Program) (t : TypeId) (i : TInfo) (ti : TypeInfo) (d : TypeDesc) (z : Value) : Prop where
  info : P.info? t = some ti
  und : P.underlying t = some d
  size : ti.size = i.size
  bytes : ti.bytes = i.bytes
  tysz : i.ty.size = i.size
  tyst : i.ty.isSt = i.kn.isSt
  undok : undOK i d = true
  zero : ti.zero = some z
  zrel : z0s i.zero z.cells.toList = true
  zlen : i.zero.length = i.size
  zrep : i.rep = true → zOf i.ty z.cells.toList = true
  fsz : i.kn.isSt = true → fszOK P i.fields i.fsz = true
  eq : i.eqok = true → eqOK P t i = true
  meth : methsOK ti d i.meths = true
  arr : arrsOK P t i.arrs = true

theorem TIok.get (h : TIok P TI) (hi : TI t = some i) : ∃ ti d z, TypeIs P t i ti d z := by
  have := h.ok t i hi
  unfold tiOK1 at this
  split at this
  · rename_i ti d h1 h2
    simp only [Bool.and_eq_true] at this
    obtain ⟨⟨a, b⟩, c, ⟨⟨⟨⟨⟨e, f⟩, g⟩, k1⟩, k2⟩, k3⟩, k4⟩ := this
    split at g
    · rename_i z hz
      simp only [Bool.and_eq_true] at g
      exact ⟨ti, d, z, h1, h2, Nat.eq_of_beq_eq_true a, Nat.eq_of_beq_eq_true b, Nat.eq_of_beq_eq_true c, by simpa using f, e, hz, g.1.1, Nat.eq_of_beq_eq_true g.1.2, fun hr => by simpa [hr] using g.2, fun hr => by simpa [hr] using k1, fun hr => by simpa [hr] using k2, k3, k4⟩
    · cases g
  · cases this

theorem z0_LR {w : World} {g : Gh} {v : AV} {u : Value} (h : z0 v u = true) : LR w g v u := by
  unfold z0 at h
  split at h
  · simp only [Bool.and_eq_true, decide_eq_true_eq] at h; rw [h.1, h.2]; rfl
  · simp at h; rw [h]; rfl
  · rename_i s
    have : s.data.toList = [] := by simpa using h
    have hs : s = ⟨#[]⟩ := by cases s; simp at this; rw [this]
    rw [hs]; rfl
  · rw [Nat.eq_of_beq_eq_true h]; rfl
  · simp only [Bool.and_eq_true] at h; rw [Nat.eq_of_beq_eq_true h.1, Nat.eq_of_beq_eq_true h.2]; rfl
  · rfl
  · rfl
  · rfl
  · rfl
  · trivial
  · cases h

theorem z0s_LR {w : World} {g : Gh} : ∀ {vs : List AV} {us : List Value}, z0s vs us = true → All2 (LR w g) vs us
  | [], [], _ => trivial
  | v :: vs, u :: us, h => by
    simp only [z0s, Bool.and_eq_true] at h
    exact ⟨z0_LR h.1, z0s_LR h.2⟩
  | [], _ :: _, h => by simp [z0s] at h
  | _ :: _, [], h => by simp [z0s] at h

theorem TypeIs.isAgg {ti : TypeInfo} {d : TypeDesc} {z : Value} (h : TypeIs P t i ti d z) (w : World) : (isAgg t).run P w = .ok i.kn.isSt w := by
  have h1 := h.undok
  unfold Go.isAgg
  rw [Sem.run_bind, run_underlying h.und]
  unfold undOK at h1
  cases hn : i.kn <;> rw [hn] at h1 <;> cases d <;> simp [Kn.isSt] at h1 ⊢

theorem TypeIs.sizeOf {ti : TypeInfo} {d : TypeDesc} {z : Value} (h : TypeIs P t i ti d z) (w : World) : (sizeOf t).run P w = .ok i.size w := by
  simp [Go.sizeOf, typeInfo, h.info, h.size]

theorem TypeIs.slice {ti : TypeInfo} {d : TypeDesc} {z : Value} (h : TypeIs P t i ti d z) {e : TypeId} (hk : i.kn = .slice e) : P.underlying t = some (.slice e) := by
  have h1 := h.undok
  rw [h.und]
  unfold undOK at h1
  rw [hk] at h1
  cases d with
  | slice e' => simp only [] at h1; rw [Nat.eq_of_beq_eq_true h1]
  | _ => simp at h1
theorem TypeIs.int {ti : TypeInfo} {d : TypeDesc} {z : Value} (h : TypeIs P t i ti d z) {k : IntKind} (hk : i.kn = .int k) : P.underlying t = some (.int k) := by
  have h1 := h.undok
  rw [h.und]
  unfold undOK at h1
  rw [hk] at h1
  cases d with
  | int e' => simp at h1; rw [h1]
  | _ => simp at h1
theorem TypeIs.str {ti : TypeInfo} {d : TypeDesc} {z : Value} (h : TypeIs P t i ti d z) (hk : i.kn = .str) : P.underlying t = some .string := by
  have h1 := h.undok
  rw [h.und]
  unfold undOK at h1
  rw [hk] at h1
  cases d with
  | string => rfl
  | _ => simp at h1
theorem TypeIs.struct {ti : TypeInfo} {d : TypeDesc} {z : Value} (h : TypeIs P t i ti d z) (hk : i.kn.isSt = true) : ∃ fs, P.underlying t = some (.struct fs) ∧ i.fields = fs.toList.map (fun f => (f.offset, f.type)) := by
  have h1 := h.undok
  have hn : i.kn = .struct := by cases hn : i.kn <;> rw [hn] at hk <;> first | rfl | cases hk
  rw [h.und]
  unfold undOK at h1
  rw [hn] at h1
  cases d with
  | struct fs =>
    refine ⟨fs, rfl, ?_⟩
    simp only [Bool.and_eq_true, beq_iff_eq] at h1
    apply List.ext_getElem?
    intro j
    rw [List.getElem?_map]
    rcases Nat.lt_or_ge j i.fields.length with hj | hj
    · have hj2 : j < fs.toList.length := by omega
      have := List.all_eq_true.1 h1.2 (i.fields[j], fs.toList[j]) (by
        rw [List.mem_iff_getElem?]; exact ⟨j, by rw [List.getElem?_zip_eq_some]; simp [hj, hj2]⟩)
      simp only [Bool.and_eq_true] at this
      rw [List.getElem?_eq_getElem hj, List.getElem?_eq_getElem hj2]
      simp only [Option.map_some, Option.some.injEq]
      exact Prod.ext (Nat.eq_of_beq_eq_true this.1) (Nat.eq_of_beq_eq_true this.2)
    · rw [List.getElem?_eq_none hj, List.getElem?_eq_none (by omega)]; rfl
  | _ => simp at h1
end

end Go.Proofs.YtjgnpmdbkgeakaaDoor.Th
