/- THEORY, part A: an abstract machine over pure values: its kinds, values, states and operations. No condition. -/
import Derived.Orders
import Derived.LoopN
import Derived.Below
set_option linter.unusedVariables false
set_option linter.unusedSimpArgs false
namespace Go.Proofs.YtjgnpmdbkgeakaaDoor.Th
open Go

/-! ### kinds of pure values -/
inductive Ty where
  | int (k : IntKind) | bool | str | flt | cpx
  | slice (e : Ty) | st (f : Ty) | nil | cons (a b : Ty) | ifc (t : Nat) (a : Ty) | clo (f : Nat) (a : Ty) | ref (a : Ty)

def Ty.den : Ty → Type
  | .int _ => Int
  | .bool => Bool
  | .str => List UInt8
  | .flt => Nat
  | .cpx => Nat × Nat
  | .slice e => List e.den
  | .st f => f.den
  | .nil => Unit
  | .cons a b => a.den × b.den
  | .ifc _ a => a.den
  | .clo _ a => a.den
  | .ref a => a.den

def Ty.dflt : (T : Ty) → T.den
  | .int _ => (0 : Int)
  | .bool => false
  | .str => ([] : List UInt8)
  | .flt => (0 : Nat)
  | .cpx => ((0, 0) : Nat × Nat)
  | .slice e => ([] : List e.den)
  | .st f => f.dflt
  | .nil => ()
  | .cons a b => (a.dflt, b.dflt)
  | .ifc _ a => a.dflt
  | .clo _ a => a.dflt
  | .ref a => a.dflt

def Ty.size : Ty → Nat
  | .st f => f.size
  | .nil => 0
  | .cons a b => a.size + b.size
  | _ => 1

def Ty.isSt : Ty → Bool
  | .st _ => true
  | _ => false

/-- equality of kinds, as a function that the kernel runs -/
def Ty.dec : (a b : Ty) → Option (PLift (a = b))
  | .int j, .int k => if h : j = k then some ⟨by rw [h]⟩ else none
  | .bool, .bool => some ⟨rfl⟩
  | .str, .str => some ⟨rfl⟩
  | .flt, .flt => some ⟨rfl⟩
  | .cpx, .cpx => some ⟨rfl⟩
  | .slice a, .slice b => match a.dec b with | some h => some ⟨by rw [h.down]⟩ | none => none
  | .st a, .st b => match a.dec b with | some h => some ⟨by rw [h.down]⟩ | none => none
  | .nil, .nil => some ⟨rfl⟩
  | .cons a b, .cons c d => match a.dec c, b.dec d with | some h, some k => some ⟨by rw [h.down, k.down]⟩ | _, _ => none
  | .ifc t a, .ifc u b => if h : t = u then (match a.dec b with | some k => some ⟨by rw [h, k.down]⟩ | none => none) else none
  | .clo t a, .clo u b => if h : t = u then (match a.dec b with | some k => some ⟨by rw [h, k.down]⟩ | none => none) else none
  | .ref a, .ref b => match a.dec b with | some h => some ⟨by rw [h.down]⟩ | none => none
  | _, _ => none

/-! ### abstract values -/
/-- a package-level row, by its number: what it holds from the start on -/
structure GRow where
  e : Nat
  T : Ty
  l : List T.den
def gtab : Nat → Option GRow := fun n => bif Nat.beq n 0 then some ⟨9, .str, [[], [48, 49, 48, 48], [48, 49, 49, 48], [48, 52, 48, 48], [48, 52, 49, 48], [48, 52, 50, 48], [48, 52, 50, 49], [48, 52, 51, 48]]⟩ else none

inductive AV where
  | undef
  | int (k : IntKind) (n : Int)
  | bool (b : Bool)
  | str (s : List UInt8)
  | flt (b : Nat)
  | cpx (re im : Nat)
  | nilsl
  | sl (T : Ty) (l : List T.den)
  | ref (g : Nat)
  | own (T : Ty) (l : List T.den)
  | agg (cs : List AV)
  | tup (vs : List AV)
  | nilptr
  | ptr (b off : Nat)
  | pim (cs : List AV) (off : Nat)
  | pel (g i off : Nat)
  | fn (f : FuncId) (captured : List AV)
  | nilfn
  | ifv (t : Nat) (T : Ty) (x : T.den)
  | fnv (f : Nat) (T : Ty) (x : T.den)
  | nilif
  | nsl (T : Ty) (l : List T.den)
  | gar (e : Nat) (T : Ty) (l : List T.den)
  | lent (cs : List AV)
  | back (v : AV) (cs : List AV)
  | imm (T : Ty) (x : T.den)
  | fz (v : AV)

def Ty.cells : (T : Ty) → T.den → List AV
  | .int k, n => [.int k n]
  | .bool, b => [.bool b]
  | .str, s => [.str s]
  | .flt, b => [.flt b]
  | .cpx, z => [.cpx z.1 z.2]
  | .slice e, l => [.sl e l]
  | .st f, x => f.cells x
  | .nil, _ => []
  | .cons a b, x => a.cells x.1 ++ b.cells x.2
  | .ifc t a, x => [.ifv t a x]
  | .clo f a, x => [.fnv f a x]
  | .ref a, x => [.imm a x]

/-- a value of a kind, as a slot holds it -/
def Ty.av (T : Ty) (x : T.den) : AV := match T.isSt with
  | true => .agg (T.cells x)
  | false => (T.cells x).headD .undef

def oInt (k : IntKind) : List AV → Option Int
  | [.int k' n] => if k = k' then some n else none
  | _ => none
def oBool : List AV → Option Bool
  | [.bool b] => some b
  | _ => none
def oStr : List AV → Option (List UInt8)
  | [.str s] => some s
  | _ => none
def oFlt : List AV → Option Nat
  | [.flt b] => some b
  | _ => none
def oCpx : List AV → Option (Nat × Nat)
  | [.cpx a b] => some (a, b)
  | _ => none
def oSl (e : Ty) : List AV → Option (List e.den)
  | [.nilsl] => some []
  | [.sl T l] => match T.dec e with
    | some h => some (h.down ▸ l)
    | none => none
  | _ => none
def oIfc (t : Nat) (a : Ty) : List AV → Option a.den
  | [.ifv u T x] => if t = u then (match T.dec a with
    | some h => some (h.down ▸ x)
    | none => none) else none
  | _ => none
def oClo (f : Nat) (a : Ty) : List AV → Option a.den
  | [.fnv u T x] => if f = u then (match T.dec a with
    | some h => some (h.down ▸ x)
    | none => none) else none
  | _ => none
def oRef (a : Ty) : List AV → Option a.den
  | [.imm T x] => match T.dec a with
    | some h => some (h.down ▸ x)
    | none => none
  | _ => none
def oNil : List AV → Option Unit
  | [] => some ()
  | _ => none

def Ty.ofCells : (T : Ty) → List AV → Option T.den
  | .int k, cs => oInt k cs
  | .bool, cs => oBool cs
  | .str, cs => oStr cs
  | .flt, cs => oFlt cs
  | .cpx, cs => oCpx cs
  | .slice e, cs => oSl e cs
  | .st f, cs => f.ofCells cs
  | .nil, cs => oNil cs
  | .cons a b, cs => match a.ofCells (cs.take a.size), b.ofCells (cs.drop a.size) with
    | some x, some y => some (x, y)
    | _, _ => none
  | .ifc t a, cs => oIfc t a cs
  | .clo f a, cs => oClo f a cs
  | .ref a, cs => oRef a cs

def AV.cells : AV → List AV
  | .agg cs => cs
  | v => [v]

/-- a slot's value as one of a kind -/
def Ty.ofAV (T : Ty) (v : AV) : Option T.den := T.ofCells v.cells

/-! ### states -/
inductive Tok where
  | abs
  | live (sh : Bool) (T : Ty) (l : List T.den)
  | dead

structure S where
  tmps : Nat → AV
  boxes : Nat → Option (List AV)
  toks : Nat → Tok

inductive Wr where
  | tmp (t : Nat) (v : AV)
  | box (b : Nat) (c : List AV)
  | tok (g : Nat) (c : Tok)

inductive Rs where
  | tmp (t : Nat) | box (b : Nat) | tok (g : Nat)
  deriving DecidableEq

def Wr.rs : Wr → Rs
  | .tmp t _ => .tmp t
  | .box b _ => .box b
  | .tok g _ => .tok g

def upd {α : Type} (f : Nat → α) (t : Nat) (v : α) : Nat → α := fun i => bif Nat.beq i t then v else f i

def S.put (s : S) : Wr → S
  | .tmp t v => { s with tmps := upd s.tmps t v }
  | .box b c => { s with boxes := upd s.boxes b (some c) }
  | .tok g c => { s with toks := upd s.toks g c }

def S.puts (s : S) : List Wr → S
  | [] => s
  | w :: ws => (s.put w).puts ws

/-! ### what an operation does: reads, checks, a call, and in the end a list of writes -/
inductive Pg where
  | ret (ws : List Wr)
  | fail
  | chk (b : Bool) (k : Pg)
  | ite (b : Bool) (k l : Pg)
  | tmp (t : Nat) (k : AV → Pg)
  | box (b : Nat) (k : Option (List AV) → Pg)
  | tok (g : Nat) (k : Tok → Pg)
  | call (f : FuncId) (args : List AV) (k : AV → Pg)

/-- what calls answer: an oracle -/
def Orc := (R : Type) → FuncId → List AV → (AV → Option R) → Option R

/-- a choice that the program makes -/
def sel {α : Type} (b : Bool) (x y : α) : α := bif b then x else y

def Pg.evalK (O : Orc) {R : Type} (s : S) : Pg → List Rs → (List Rs → List Wr → Option R) → Option R
  | .ret ws, rs, K => K rs ws
  | .fail, _, _ => none
  | .chk b k, rs, K => sel b (k.evalK O s rs K) none
  | .ite b k l, rs, K => sel b (k.evalK O s rs K) (l.evalK O s rs K)
  | .tmp t k, rs, K => (k (s.tmps t)).evalK O s (.tmp t :: rs) K
  | .box b k, rs, K => (k (s.boxes b)).evalK O s (.box b :: rs) K
  | .tok g k, rs, K => (k (s.toks g)).evalK O s (.tok g :: rs) K
  | .call f args k, rs, K => O R f args fun v => (k v).evalK O s rs K

/-- the same as a relation: C f args v: a call of f may answer v; Rd: what may be read -/
def Pg.Ev (C : FuncId → List AV → AV → Prop) (Rd : Rs → Prop) (s : S) : Pg → List Wr → Prop
  | .ret ws, ws' => ws' = ws
  | .fail, _ => False
  | .chk b k, ws' => b = true ∧ k.Ev C Rd s ws'
  | .ite b k l, ws' => if b then k.Ev C Rd s ws' else l.Ev C Rd s ws'
  | .tmp t k, ws' => Rd (.tmp t) ∧ (k (s.tmps t)).Ev C Rd s ws'
  | .box b k, ws' => Rd (.box b) ∧ (k (s.boxes b)).Ev C Rd s ws'
  | .tok g k, ws' => Rd (.tok g) ∧ (k (s.toks g)).Ev C Rd s ws'
  | .call f args k, ws' => ∃ v, C f args v ∧ (k v).Ev C Rd s ws'

/-! ### types -/
inductive Kn where
  | bool | int (k : IntKind) | str | flt | cpx | slice (elem : TypeId) | struct | ptr (elem : TypeId) | other
structure TInfo where
  kn : Kn
  size : Nat
  bytes : Nat
  ty : Ty
  zero : List AV
  fields : List (Nat × TypeId)
  fsz : List Nat := []
  rep : Bool := true
  eqok : Bool := false
  meths : List (String × FuncId) := []
  arrs : List (Nat × Nat) := []

def Kn.isSt : Kn → Bool
  | .struct => true
  | _ => false

abbrev TEnv := TypeId → Option TInfo

/-! ### operands -/
def cst1 : Value → AV
  | .int k n => .int k n
  | .bool b => .bool b
  | .string s => .str s.data.toList
  | .float .f64 b => .flt b
  | .complex .f64 a b => .cpx a b
  | .slice none 0 0 => .nilsl
  | .pointer none => .nilptr
  | .nilIface => .nilif
  | .nilFunc => .nilfn
  | _ => .undef

def chunks (l : List Value) : List AV := l.map cst1

def isPlainCell : AV → Bool
  | .int _ _ | .bool _ | .str _ | .flt _ | .cpx _ _ | .nilsl | .sl _ _ | .ifv _ _ _ | .fnv _ _ _ | .imm _ _ => true
  | _ => false

def cst : Value → AV
  | .agg cs => match (chunks cs.toList).all isPlainCell with | true => .agg (chunks cs.toList) | false => .undef
  | v => cst1 v

def rdg (n : Nat) (k : AV → Pg) : Pg := match gtab n with
  | some r => k (.gar r.e r.T r.l)
  | none => .fail

def rdv : Operand → (AV → Pg) → Pg
  | .tmp t, k => .tmp t k
  | .const v, k => k (cst v)
  | .func f, k => k (.fnv f .nil ())
  | .global n, k => rdg n k

def rdvs : List Operand → (List AV → Pg) → Pg
  | [], k => k []
  | x :: xs, k => rdv x fun v => rdvs xs fun vs => k (v :: vs)

/-- a cell as a plain value: an owned slice is shared from now on -/
def snap1 (v : AV) (ws : List Wr) (k : AV → List Wr → Pg) : Pg :=
  match v with
  | .ref g => .tok g fun
    | .live sh T l => match sh with
      | true => k (.sl T l) ws
      | false => k (.sl T l) (ws ++ [.tok g (.live true T l)])
    | _ => .fail
  | .int _ _ | .bool _ | .str _ | .flt _ | .cpx _ _ | .nilsl | .sl _ _ | .ifv _ _ _ | .fnv _ _ _ | .imm _ _ => k v ws
  | .fn f cap => match cap with
    | [] => k (.fnv f .nil ()) ws
    | _ => .fail
  | .agg _ => k v ws
  | _ => .fail

def snaps : List AV → List Wr → (List AV → List Wr → Pg) → Pg
  | [], ws, k => k [] ws
  | v :: vs, ws, k => snap1 v ws fun v' ws' => snaps vs ws' fun vs' ws'' => k (v' :: vs') ws''

/-- the content of a slice's value, of elements of kind T -/
def content (T : Ty) (v : AV) (k : List T.den → Pg) : Pg :=
  match v with
  | .nilsl => k []
  | .sl T' l => match T'.dec T with | some h => k (h.down ▸ l) | none => .fail
  | .nsl T' l => match T'.dec T with | some h => k (h.down ▸ l) | none => .fail
  | .ref g => .tok g fun
    | .live _ T' l => match T'.dec T with | some h => k (h.down ▸ l) | none => .fail
    | _ => .fail
  | _ => .fail

/-- how long a slice or a string is -/
def lenOf (v : AV) (k : Nat → Pg) : Pg :=
  match v with
  | .nilsl => k 0
  | .sl _ l => k l.length
  | .str s => k s.length
  | .ref g => .tok g fun
    | .live _ _ l => k l.length
    | _ => .fail
  | _ => .fail

def wrd (d : Option Tmp) (v : AV) : List Wr := match d with | some t => [.tmp t v] | none => []

def retv (d : Option Tmp) (v : AV) : Pg := .ret (wrd d v)

/-! ### numbers -/
def toBytes (s : List UInt8) : List Int := s.map fun b => (b.toNat : Int)
def ofBytes (l : List Int) : List UInt8 := l.map fun n => UInt8.ofNat n.toNat

def bits (op : BinOp) (k : IntKind) (x y : Int) : Int :=
  let a := BitVec.ofInt k.bits x
  let b := BitVec.ofInt k.bits y
  k.wrap (match op with
    | .and => (a &&& b).toNat
    | .or => (a ||| b).toNat
    | .xor => (a ^^^ b).toNat
    | _ => (a &&& ~~~b).toNat : Nat)

def sameI (a b : Int) : Bool := decide (a = b)
def sameB (a b : Bool) : Bool := a == b
def sameS (a b : List UInt8) : Bool := decide (a = b)
/-- equality of plain values of a kind without slices -/
def Ty.same : (T : Ty) → T.den → T.den → Bool
  | .int _, x, y => sameI x y
  | .bool, x, y => sameB x y
  | .str, x, y => sameS x y
  | .st f, x, y => f.same x y
  | .nil, _, _ => true
  | .cons a b, x, y => a.same x.1 y.1 && b.same x.2 y.2
  | _, _, _ => false

def binv (op : BinOp) (x y : AV) (k : AV → Pg) : Pg :=
  match x, y with
  | .int j a, .int j' b =>
    match op with
    | .shl => .chk (decide (0 ≤ b)) (k (.int j (j.wrap (a * 2 ^ (min b.toNat j.bits)))))
    | .shr => .chk (decide (0 ≤ b)) (k (.int j (a.fdiv (2 ^ (min b.toNat j.bits)))))
    | _ => if j = j' then
      match op with
      | .add => k (.int j (j.wrap (a + b)))
      | .sub => k (.int j (j.wrap (a - b)))
      | .mul => k (.int j (j.wrap (a * b)))
      | .quo => .chk (!decide (b = 0)) (k (.int j (j.wrap (a.tdiv b))))
      | .rem => .chk (!decide (b = 0)) (k (.int j (a.tmod b)))
      | .and | .or | .xor | .andNot => k (.int j (bits op j a b))
      | .eql => k (.bool (decide (a = b)))
      | .neq => k (.bool (!decide (a = b)))
      | .lss => k (.bool (decide (a < b)))
      | .leq => k (.bool (decide (a ≤ b)))
      | .gtr => k (.bool (decide (b < a)))
      | .geq => k (.bool (decide (b ≤ a)))
      | _ => .fail
      else .fail
  | .str a, .str b =>
    match op with
    | .add => .chk (decide (a.length + b.length ≤ 140737488355328)) (k (.str (a ++ b)))
    | .eql => k (.bool (decide (a = b)))
    | .neq => k (.bool (!decide (a = b)))
    | .lss => k (.bool (Op.bytesLess a b))
    | .leq => k (.bool (Op.bytesLess a b || decide (a = b)))
    | .gtr => k (.bool (!(Op.bytesLess a b || decide (a = b))))
    | .geq => k (.bool (!Op.bytesLess a b))
    | _ => .fail
  | .bool a, .bool b =>
    match op with
    | .eql => k (.bool (a == b))
    | .neq => k (.bool (!(a == b)))
    | _ => .fail
  | _, _ => .fail

def unv (op : UnOp) (x : AV) (k : AV → Pg) : Pg :=
  match op, x with
  | .neg, .int j n => k (.int j (j.wrap (0 - n)))
  | .xor, .int j n => k (.int j (bits .xor j (if j.signed then -1 else j.max) n))
  | .not, .bool b => k (.bool (!b))
  | _, _ => .fail

/-! ### the operations -/
section
variable (TI : TEnv)

def tinf (t : TypeId) (k : TInfo → Pg) : Pg := match TI t with | some i => k i | none => .fail

/-- a frozen cell's value -/
def unfz : AV → AV
  | .fz v => v
  | v => v
def isFz : AV → Bool
  | .fz _ => true
  | _ => false
/-- `n` cells at `off`, as a slot holds them -/
def cut (i : TInfo) (cs : List AV) (off : Nat) (ws : List Wr) (k : AV → List Wr → Pg) : Pg :=
  match i.kn.isSt with
  | true => bif decide (off + i.size ≤ cs.length) then snaps (((cs.drop off).take i.size).map unfz) ws fun l ws' => match l.all isPlainCell with | true => k (.agg l) ws' | false => .fail
    else .fail
  | false => match cs[off]? with
    | some v => k (unfz v) ws
    | none => .fail

def splice (cs : List AV) (off : Nat) (new : List AV) : List AV := cs.take off ++ new ++ cs.drop (off + new.length)

def pgLoad (d : Option Tmp) (t : TypeId) (p : AV) : Pg :=
  tinf TI t fun i => match p with
  | .ptr b off => .box b fun
    | some cs => cut i cs off [] fun v ws => .ret (ws ++ wrd d v)
    | none => .fail
  | .pim cs off => cut i cs off [] fun v ws => .ret (ws ++ wrd d v)
  | .imm T x => cut i (T.cells x) 0 [] fun v ws => .ret (ws ++ wrd d v)
  | .pel g j off => .tok g fun
    | .live _ T l => .chk (decide (j < l.length)) (cut i (T.cells (l.getD j T.dflt)) off [] fun v ws => .ret (ws ++ wrd d v))
    | _ => .fail
  | _ => .fail

def touches (g : Nat) : List Wr → Bool
  | [] => false
  | .tok h _ :: ws => Nat.beq g h || touches g ws
  | _ :: ws => touches g ws

def AV.isVal : AV → Bool
  | .undef => false
  | .tup _ => false
  | .lent _ => false
  | .back _ _ => false
  | .fz _ => false
  | _ => true

def pgStore (t : TypeId) (p v : AV) : Pg :=
  tinf TI t fun i =>
  match v.isVal && decide (v.cells.length = i.size) with
  | false => .fail
  | true => match p with
    | .ptr b off => .box b fun
      | some cs => match decide (off + i.size ≤ cs.length) && !(((cs.drop off).take i.size).any isFz) with
        | true => .ret [.box b (splice cs off v.cells)]
        | false => .fail
      | none => .fail
    | .pel g j off => snaps v.cells [] fun vs ws => .tok g fun
      | .live false T l =>
        .chk (decide (j < l.length)) (.chk (!touches g ws) (.chk (vs.all isPlainCell) <|
          match decide (off + i.size ≤ T.size), T.ofCells (splice (T.cells (l.getD j T.dflt)) off vs) with
          | true, some x => .ret (ws ++ [.tok g (.live false T (l.set j x))])
          | _, _ => .fail))
      | _ => .fail
    | _ => .fail

def pgIndexAddr (d : Option Tmp) (t : TypeId) (x ix : AV) : Pg :=
  match ix with
  | .int _ n => tinf TI t fun i => match i.kn with
    | .slice e => tinf TI e fun ei => match x with
      | .sl T l => match T.dec ei.ty with
        | some _ => .chk (decide (0 ≤ n)) (.chk (decide (n < l.length)) (retv d (.pim (T.cells (l.getD n.toNat T.dflt)) 0)))
        | none => .fail
      | .ref g => .tok g fun
        | .live _ T l => match T.dec ei.ty with
          | some _ => .chk (decide (0 ≤ n)) (.chk (decide (n < l.length)) (retv d (.pel g n.toNat 0)))
          | none => .fail
        | _ => .fail
      | _ => .fail
    | _ => .fail
  | _ => .fail

/-- an element of a package-level row -/
def pgGar (d : Option Tmp) (t : TypeId) (x ix : AV) : Pg :=
  match x, ix with
  | .gar e T l, .int _ n => tinf TI e fun ei => match T.dec ei.ty with
    | some _ => match ei.arrs.any fun p => Nat.beq p.1 t && Nat.beq p.2 l.length with
      | true => .chk (decide (0 ≤ n)) (.chk (decide (n < l.length)) (retv d (.pim (T.cells (l.getD n.toNat T.dflt)) 0)))
      | false => .fail
    | none => .fail
  | _, _ => .fail

def pgFieldAddr (d : Option Tmp) (t : TypeId) (p : AV) (f : Nat) : Pg :=
  tinf TI t fun i => match i.kn.isSt, i.fields[f]? with
  | true, some (o, ft) => tinf TI ft fun fi => match decide (0 < fi.size) with
    | true => match p with
      | .ptr b off => retv d (.ptr b (off + o))
      | .pim cs off => retv d (.pim cs (off + o))
      | .imm T x => retv d (.pim (T.cells x) o)
      | .pel g j off => retv d (.pel g j (off + o))
      | _ => .fail
    | false => .fail
  | _, _ => .fail

def pgField (d : Option Tmp) (t : TypeId) (x : AV) (f : Nat) : Pg :=
  tinf TI t fun i => match i.kn.isSt, i.fields[f]? with
  | true, some (o, ft) => tinf TI ft fun fi => match x with
    | .agg cs => cut fi cs o [] fun v ws => .ret (ws ++ wrd d v)
    | _ => .fail
  | _, _ => .fail

def placeOf (i : TInfo) (j : Nat) : Option (Nat × Nat) := match i.fields[j]?, i.fsz[j]? with
  | some (o, _), some n => some (o, n)
  | _, _ => none

def fillv (i : TInfo) (cells : List AV) : List (Nat × AV) → Option (List AV)
  | [] => some cells
  | (j, v) :: rest => match placeOf i j with
    | some (o, n) => match decide (v.cells.length = n) && decide (o + n ≤ cells.length) with
      | true => fillv i (splice cells o v.cells) rest
      | false => none
    | none => none

def pgBuild (d : Option Tmp) (t : TypeId) (ps : List (Nat × AV)) : Pg :=
  snaps (ps.map (·.2)) [] fun vs ws => tinf TI t fun i => match i.kn.isSt with
  | true => match fillv i i.zero ((ps.map (·.1)).zip vs) with
    | some cs => match cs.all isPlainCell with
      | true => .ret (ws ++ wrd d (.agg cs))
      | false => .fail
    | none => .fail
  | false => .fail

def litv (T : Ty) : List T.den → List (Nat × AV) → Option (List T.den)
  | l, [] => some l
  | l, (j, v) :: rest => match decide (j < l.length), T.ofCells v.cells with
    | true, some x => litv T (l.set j x) rest
    | _, _ => none

def pgBuildSlice (d : Option Tmp) (t : TypeId) (len : Nat) (ps : List (Nat × AV)) : Pg :=
  match d with
  | none => .fail
  | some tt => snaps (ps.map (·.2)) [] fun vs ws => tinf TI t fun i => match i.kn with
    | .slice e => tinf TI e fun ei => match ei.rep && decide (len * ei.size ≤ 16777216), litv ei.ty (List.replicate len ei.ty.dflt) ((ps.map (·.1)).zip vs) with
      | true, some l => .tok tt fun
        | .abs => .ret (ws ++ [.tok tt (.live false ei.ty l), .tmp tt (.ref tt)])
        | _ => .fail
      | _, _ => .fail
    | _ => .fail

def pgMakeSlice (d : Option Tmp) (t : TypeId) (n c : AV) : Pg :=
  match d, n, c with
  | some tt, .int _ n, .int _ c => tinf TI t fun i => match i.kn with
    | .slice e => tinf TI e fun ei =>
      .chk ei.rep <| .chk (decide (0 ≤ n)) (.chk (decide (n ≤ c)) (.chk (decide (c ≤ 140737488355328)) <| .chk (decide (c * ei.bytes ≤ 140737488355328)) (.tok tt fun
        | .abs => .ret [.tok tt (.live false ei.ty (List.replicate n.toNat ei.ty.dflt)), .tmp tt (.ref tt)]
        | _ => .fail)))
    | _ => .fail
  | _, _, _ => .fail

def appendTo (tt : Tmp) (ei : TInfo) (s : AV) (m : List ei.ty.den) : Pg :=
  match s with
  | .nilsl => .chk (decide (m.length * ei.bytes ≤ 140737488355328)) (.tok tt fun
    | .abs => .ret [.tok tt (.live false ei.ty m), .tmp tt (.ref tt)]
    | _ => .fail)
  | .ref g => .tok g fun
    | .live sh T l => match T.dec ei.ty with
      | some h => .chk (decide ((l.length + m.length) * ei.bytes ≤ 140737488355328)) (.tok tt fun
        | .abs => .ret [.tok g .dead, .tok tt (.live sh ei.ty ((h.down ▸ l) ++ m)), .tmp tt (.ref tt)]
        | _ => .fail)
      | none => .fail
    | _ => .fail
  | _ => .fail

def appendSrc (xt : TypeId) (ei : TInfo) (x : AV) (K : List ei.ty.den → Pg) : Pg :=
  tinf TI xt fun xi => match xi.kn with
  | .str => match x with
    | .str b => match (Ty.int .u8).dec ei.ty with
      | some h => K (cast (congrArg (fun T => List (Ty.den T)) h.down) (toBytes b))
      | none => .fail
    | _ => .fail
  | .slice _ => content ei.ty x K
  | _ => .fail

def pgAppend (d : Option Tmp) (t xt : TypeId) (s x : AV) : Pg :=
  match d with
  | none => .fail
  | some tt => tinf TI t fun i => match i.kn with
    | .slice e => tinf TI e fun ei => .chk (decide (0 < ei.bytes)) (appendSrc TI xt ei x (appendTo tt ei s))
    | _ => .fail

def plainList (T : Ty) (v : AV) (k : List T.den → Pg) : Pg :=
  match v with
  | .nilsl => k []
  | .sl T' l => match T'.dec T with | some h => k (h.down ▸ l) | none => .fail
  | _ => .fail

def bnd (v : Option AV) (dflt : Nat) (k : Int → Pg) : Pg :=
  match v with
  | none => k dflt
  | some (.int _ n) => k n
  | _ => .fail

def pgSlice (d : Option Tmp) (t : TypeId) (x : AV) (lo hi mx : Option AV) : Pg :=
  match x with
  | .str s => tinf TI t fun i => match i.kn, mx with
    | .str, none => bnd lo 0 fun a => bnd hi s.length fun b =>
      .chk (decide (0 ≤ a)) (.chk (decide (a ≤ b)) (.chk (decide (b ≤ s.length)) (retv d (.str ((s.take b.toNat).drop a.toNat)))))
    | _, _ => .fail
  | _ => tinf TI t fun i => match i.kn with
    | .slice e => tinf TI e fun ei => snap1 x [] fun x' ws => plainList ei.ty x' fun l =>
      bnd lo 0 fun a => bnd hi l.length fun b => bnd mx l.length fun m =>
      .chk (decide (0 ≤ a)) (.chk (decide (a ≤ b)) (.chk (decide (b ≤ m)) (.chk (decide (m ≤ l.length))
        (.ret (ws ++ wrd d (.sl ei.ty ((l.take b.toNat).drop a.toNat)))))))
    | _ => .fail

def pgConvert (d : Option Tmp) (src dst : TypeId) (x : AV) : Pg :=
  tinf TI src fun _ => tinf TI dst fun i => match i.kn, x with
  | .int k, .int _ n => retv d (.int k (k.wrap n))
  | .str, .str s => retv d (.str s)
  | .slice e, .str s => tinf TI e fun ei => match ei.kn, d with
    | .int .u8, some tt => .tok tt fun
      | .abs => .ret [.tok tt (.live false (.int .u8) (toBytes s)), .tmp tt (.ref tt)]
      | _ => .fail
    | _, _ => .fail
  | .slice e, .ref t => match Nat.beq src dst with
    | true => tinf TI e fun ei => match ei.kn with
      | .int .u8 => .tok t fun
        | .live _ _ l => match l with
          | _ :: _ => retv d (.ref t)
          | [] => .fail
        | _ => .fail
      | _ => .fail
    | false => .fail
  | .str, _ => tinf TI src fun si => match si.kn with
    | .slice e => tinf TI e fun ei => match ei.kn with
      | .int .u8 => content (.int .u8) x fun l => retv d (.str (ofBytes l))
      | _ => .fail
    | _ => .fail
  | _, _ => .fail

def pgExtract (d : Option Tmp) (x : AV) (ix : Nat) : Pg :=
  match x with
  | .tup vs => match vs[ix]? with
    | some v => retv d v
    | none => .fail
  | _ => .fail

/-- the number of the token of component j of what the call at slot d answered -/
def tokAt (d j : Nat) : Nat := 1000000 + 8 * d + j

def answers (d : Nat) : List AV → Nat → List AV → List Wr → Pg
  | [], _, vs, ws => .ret (ws ++ [.tmp d (.tup vs)])
  | .own T l :: rest, j, vs, ws => .tok (tokAt d j) fun
    | .abs => answers d rest (j + 1) (vs ++ [.ref (tokAt d j)]) (ws ++ [.tok (tokAt d j) (.live false T l)])
    | _ => .fail
  | v :: rest, j, vs, ws => answers d rest (j + 1) (vs ++ [v]) ws

/-- a call's answer goes to the slot d -/
def answer (d : Option Tmp) (ws : List Wr) (v : AV) : Pg :=
  match v, d with
  | .own T l, some tt => .tok (tokAt tt 0) fun
    | .abs => .ret (ws ++ [.tok (tokAt tt 0) (.live false T l), .tmp tt (.ref (tokAt tt 0))])
    | _ => .fail
  | .tup vs, some tt => answers tt vs 0 [] ws
  | .own _ _, none => .fail
  | .tup _, none => .fail
  | .back _ _, _ => .fail
  | _, _ => .ret (ws ++ wrd d v)

/-- a plain value as one of a kind -/
def ofPlain (T : Ty) (v : AV) : Option T.den := match T.isSt with
  | true => match v with
    | .agg cs => T.ofCells cs
    | _ => none
  | false => bif isPlainCell v then T.ofCells [v] else none

/-- captured values, as one of a kind -/
structure Pk where
  T : Ty
  x : T.den
def pack1 : AV → Option Pk
  | .int k n => some ⟨.int k, n⟩
  | .bool b => some ⟨.bool, b⟩
  | .str s => some ⟨.str, s⟩
  | .sl T l => some ⟨.slice T, l⟩
  | .ifv t T x => some ⟨.ifc t T, x⟩
  | .fnv f T x => some ⟨.clo f T, x⟩
  | .imm T x => some ⟨.ref T, x⟩
  | _ => none
def pack : List AV → Option Pk
  | [] => some ⟨.nil, ()⟩
  | v :: vs => match pack1 v, pack vs with
    | some a, some b => some ⟨.cons a.T b.T, (a.x, b.x)⟩
    | _, _ => none

def nodupB0 : List Nat → Bool
  | [] => true
  | a :: l => !l.any (Nat.beq a) && nodupB0 l
/-- captured values; captured boxes are frozen: they may be read, and never turn again -/
def capts : List AV → List Wr → List (Nat × List AV) → (List AV → List Wr → List (Nat × List AV) → Pg) → Pg
  | [], ws, bs, k => k [] ws bs
  | .ptr b off :: vs, ws, bs, k => .chk (Nat.beq off 0) (.box b fun
    | some cs => snaps (cs.map unfz) ws fun cs' ws' => match pack cs' with
      | some p => capts vs ws' (bs ++ [(b, cs'.map .fz)]) fun vs' ws'' bs' => k (.imm p.T p.x :: vs') ws'' bs'
      | none => .fail
    | none => .fail)
  | v :: vs, ws, bs, k => snap1 v ws fun v' ws' => capts vs ws' bs fun vs' ws'' bs' => k (v' :: vs') ws'' bs'

def isClo (i g : Nat) (args : List AV) : Bool := match args[i]? with
  | some (.fnv g' _ _) => Nat.beq g g'
  | _ => false

/-! a call that lends a box -/
def findPtr : List AV → Option Nat
  | [] => none
  | .ptr b _ :: _ => some b
  | _ :: vs => findPtr vs

/-- the lent box's name in the callee -/
def lentBox : Nat := 900

def lendArgs (b : Nat) : List AV → List Wr → (List AV → List Wr → Pg) → Pg
  | [], ws, k => k [] ws
  | .ptr b' off :: vs, ws, k => .chk (Nat.beq b' b) (lendArgs b vs ws fun vs' ws' => k (.ptr lentBox off :: vs') ws')
  | v :: vs, ws, k => snap1 v ws fun v' ws' => lendArgs b vs ws' fun vs' ws'' => k (v' :: vs') ws''

def lendCells : List AV → List Wr → (List AV → List Wr → Pg) → Pg
  | [], ws, k => k [] ws
  | .ref t :: cs, ws, k => .tok t fun
    | .live sh T l => .chk (!touches t ws) (match sh with
      | true => lendCells cs ws fun cs' ws' => k (.sl T l :: cs') ws'
      | false => lendCells cs (ws ++ [.tok t .dead]) fun cs' ws' => k (.own T l :: cs') ws')
    | _ => .fail
  | v :: cs, ws, k => match isPlainCell v with
    | true => lendCells cs ws fun cs' ws' => k (v :: cs') ws'
    | false => .fail

/-- the name of the row that comes back in cell j, by the call at slot d -/
def tokL (d j : Nat) : Nat := 200000000 + 1000 * d + j

def backCells (d : Nat) : List AV → Nat → List Wr → (List AV → List Wr → Pg) → Pg
  | [], _, ws, k => k [] ws
  | .own T l :: cs, j, ws, k => .tok (tokL d j) fun
    | .abs => backCells d cs (j + 1) (ws ++ [.tok (tokL d j) (.live false T l)]) fun cs' ws' => k (.ref (tokL d j) :: cs') ws'
    | _ => .fail
  | v :: cs, j, ws, k => match isPlainCell v with
    | true => backCells d cs (j + 1) ws fun cs' ws' => k (v :: cs') ws'
    | false => .fail

def backV1 (b : Nat) : AV → Option AV
  | .ptr b' off => bif Nat.beq b' lentBox then some (.ptr b off) else none
  | .agg cs => bif cs.all isPlainCell then some (.agg cs) else none
  | v => bif isPlainCell v then some v else none
def backVs (b : Nat) : List AV → Option (List AV)
  | [] => some []
  | v :: vs => match backV1 b v, backVs b vs with
    | some v', some vs' => some (v' :: vs')
    | _, _ => none
def backV (b : Nat) : AV → Option AV
  | .tup vs => match backVs b vs with
    | some vs' => some (.tup vs')
    | none => none
  | v => backV1 b v

def blank : AV → AV
  | .own _ _ => .undef
  | v => v
def blanks (cs : List AV) : List AV := cs.map blank

def lendTo (d : Option Tmp) (b : Nat) (ws : List Wr) (v : AV) : Pg := match v, d with
  | .back r cs, some tt => match backV b r with
    | some r' => backCells tt cs 0 (ws ++ [.box b (blanks cs)]) fun cs' ws' => .ret (ws' ++ [.box b cs', .tmp tt r'])
    | none => .fail
  | _, _ => .fail

/-- functions that take their first argument over, a row of the caller's own -/
def eats : Nat → Bool := fun n => bif Nat.beq n 211 then true else bif Nat.beq n 157 then true else bif Nat.beq n 135 then true else bif Nat.beq n 132 then true else false
/-- what comes of the row that was taken over -/
def ateTo (d : Option Tmp) (a0 : AV) (ws : List Wr) : AV → Pg
  | .back r [.lent []] => answer d ws r
  | .back (.tup []) [.lent [], .own T l] => match a0 with
    | .ref t => .tok t fun
      | .live false T0 _ => match T.dec T0 with
        | some _ => .ret (ws ++ ([.tok t (.live false T l)] ++ wrd d (.tup [])))
        | none => .fail
      | _ => .fail
    | _ => .fail
  | _ => .fail
def eatCall (d : Option Tmp) (n : FuncId) (cap : List AV) : List AV → Pg
  | [] => .fail
  | a0 :: rest => snaps rest [] fun vs ws => lendCells [a0] ws fun cs ws' => .call n (cs ++ vs ++ cap) fun v => ateTo d a0 ws' v

def lendCall (d : Option Tmp) (n : FuncId) (args cap : List AV) : Pg := match findPtr args with
  | none => bif eats n then eatCall d n cap args else snaps args [] fun vs ws => .call n (vs ++ cap) fun v => answer d ws v
  | some b => lendArgs b args [] fun vs ws => .box b fun
    | some cs => lendCells cs ws fun cs' ws' => .call n (vs ++ cap ++ [.lent cs']) fun v => lendTo d b ws' v
    | none => .fail

def sameName (a b : String) : Bool := a == b
def findM : List (String × FuncId) → String → Option FuncId
  | [], _ => none
  | (m, f) :: l, name => bif sameName m name then some f else findM l name

def pgCall (d : Option Tmp) (c : Callee) (args : List AV) (types : List TypeId) : Pg :=
  match c, args with
  | .builtin .len, [x] => match types with
    | [t] => tinf TI t fun i => match i.kn, x with
      | .str, .str b => retv d (.int .i64 b.length)
      | .slice _, .str _ => .fail
      | .slice _, _ => lenOf x fun n => retv d (.int .i64 n)
      | _, _ => .fail
    | _ => .fail
  | .builtin .append, [s, x] => match types with
    | [t, xt] => pgAppend TI d t xt s x
    | _ => .fail
  | .value f, _ => rdv f fun
    | .fn n cap => snaps args [] fun vs ws => .call n (vs ++ cap) fun v => answer d ws v
    | .fnv n T x => lendCall d n args (T.cells x)
    | _ => .fail
  | .invoke r name, _ => rdv r fun
    | .ifv t T x => tinf TI t fun i => match findM i.meths name with
      | some n => snaps args [] fun vs ws => .call n (T.av x :: vs) fun v => answer d ws v
      | none => .fail
    | _ => .fail
  | _, _ => .fail

/-- a value goes into an interface -/
def pgIface (d : Option Tmp) (t : TypeId) (v : AV) : Pg :=
  snap1 v [] fun v ws => tinf TI t fun i => match i.kn with
  | .other => .fail
  | .ptr _ => .fail
  | _ => match ofPlain i.ty v with
    | some x => .ret (ws ++ wrd d (.ifv t i.ty x))
    | none => .fail

def pgPick (d : Option Tmp) (c a b : AV) : Pg :=
  match c, a, b with
  | .bool x, .bool y, .bool z => retv d (.bool (bif x then y else z))
  | .bool x, _, _ => .ite x (retv d a) (retv d b)
  | _, _, _ => .fail

def eqNil (d : Option Tmp) (op : BinOp) (b : Bool) : Pg := match op with
  | .eql => retv d (.bool b)
  | .neq => retv d (.bool (!b))
  | _ => .fail

def isSlK : Kn → Bool
  | .slice _ => true
  | _ => false

def pg (o : Oper) : Pg :=
  match o.op with
  | .move x | .assign x => rdv x fun v => retv o.dst v
  | .pick c a b => rdv c fun c => rdv a fun a => rdv b fun b => pgPick o.dst c a b
  | .alloc e => match o.dst with
    | some tt => tinf TI e fun i => .box tt fun
      | none => .ret [.box tt i.zero, .tmp tt (.ptr tt 0)]
      | some _ => .fail
    | none => .fail
  | .box _ x => match o.dst with
    | some tt => rdv x fun v => match v.isVal with
      | true => .box tt fun
        | none => .ret [.box tt v.cells, .tmp tt (.ptr tt 0)]
        | some _ => .fail
      | false => .fail
    | none => .fail
  | .build t ps => rdvs (ps.toList.map (·.2)) fun vs => pgBuild TI o.dst t ((ps.toList.map (·.1)).zip vs)
  | .buildSlice t n ps => rdvs (ps.toList.map (·.2)) fun vs => pgBuildSlice TI o.dst t n ((ps.toList.map (·.1)).zip vs)
  | .load t p => rdv p fun p => pgLoad TI o.dst t p
  | .store t p v => match o.dst with
    | none => rdv p fun p => rdv v fun v => pgStore TI t p v
    | some _ => .fail
  | .binOp op t x y _ => rdv x fun x => rdv y fun y => match x with
    | .int _ _ => binv op x y fun v => retv o.dst v
    | .str _ => binv op x y fun v => retv o.dst v
    | .bool _ => tinf TI t fun i => match i.kn with
      | .bool => binv op x y fun v => retv o.dst v
      | _ => .fail
    | .nilsl => match y with
      | .nilsl => tinf TI t fun i => match isSlK i.kn with
        | true => eqNil o.dst op true
        | false => .fail
      | _ => .fail
    | .nsl _ _ => match y with
      | .nilsl => tinf TI t fun i => match isSlK i.kn with
        | true => eqNil o.dst op false
        | false => .fail
      | _ => .fail
    | .agg a => tinf TI t fun i => match i.eqok, y with
      | true, .agg b => match i.ty.ofCells a, i.ty.ofCells b with
        | some p, some q => match op with
          | .eql => retv o.dst (.bool (i.ty.same p q))
          | .neq => retv o.dst (.bool (!i.ty.same p q))
          | _ => .fail
        | _, _ => .fail
      | _, _ => .fail
    | _ => .fail
  | .unOp op _ x => rdv x fun x => unv op x fun v => retv o.dst v
  | .convert a b x => rdv x fun x => pgConvert TI o.dst a b x
  | .makeSlice t n c => rdv n fun n => rdv c fun c => pgMakeSlice TI o.dst t n c
  | .slice t x lo hi mx => rdv x fun x => rdvs (lo.toList ++ hi.toList ++ mx.toList) fun vs =>
    match lo, hi, mx, vs with
    | none, none, none, [] => pgSlice TI o.dst t x none none none
    | some _, none, none, [a] => pgSlice TI o.dst t x (some a) none none
    | none, some _, none, [b] => pgSlice TI o.dst t x none (some b) none
    | some _, some _, none, [a, b] => pgSlice TI o.dst t x (some a) (some b) none
    | none, some _, some _, [b, m] => pgSlice TI o.dst t x none (some b) (some m)
    | some _, some _, some _, [a, b, m] => pgSlice TI o.dst t x (some a) (some b) (some m)
    | _, _, _, _ => .fail
  | .fieldAddr t p f => rdv p fun p => pgFieldAddr TI o.dst t p f
  | .field t x f => rdv x fun x => pgField TI o.dst t x f
  | .indexAddr t x i => match x with
    | .global _ => rdv x fun x => rdv i fun i => pgGar TI o.dst t x i
    | _ => rdv x fun x => rdv i fun i => pgIndexAddr TI o.dst t x i
  | .index t x i => rdv x fun x => rdv i fun i => tinf TI t fun ti => match ti.kn, x, i with
    | .str, .str s, .int _ n => .chk (decide (0 ≤ n)) (.chk (decide (n < s.length)) (retv o.dst (.int .u8 ((s.getD n.toNat 0).toNat : Int))))
    | _, _, _ => .fail
  | .extract x i => rdv x fun v => pgExtract o.dst v i
  | .nilCheck x => rdv x fun v => match v with
    | .ptr _ _ | .pim _ _ | .pel _ _ _ | .gar _ _ _ | .imm _ _ => retv o.dst v
    | _ => .fail
  | .call c => rdvs c.args.toList fun vs => pgCall TI o.dst c.callee vs c.argTypes.toList
  | .makeInterface t x => rdv x fun v => pgIface TI o.dst t v
  | .makeFunc fn first captured => match fn, first.toList with
    | .func f, [] => rdvs captured.toList fun vs => capts vs [] [] fun vs ws bs => .chk (nodupB0 (bs.map (·.1))) (match pack vs with
      | some p => .ret (ws ++ (bs.map fun x => .box x.1 x.2) ++ wrd o.dst (.fnv f p.T p.x))
      | none => .fail)
    | _, _ => .fail
  | _ => .fail
end

end Go.Proofs.YtjgnpmdbkgeakaaDoor.Th
